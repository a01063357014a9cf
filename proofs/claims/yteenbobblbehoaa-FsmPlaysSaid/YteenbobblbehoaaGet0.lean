/- The document's Get32: the contract. Conditions: its own premises. -/
import Derived.Test.YteenbobblbehoaaPut0
import Derived.RegionTactic
import Derived.BigRegion
namespace Go.Proofs.Yteenbobblbehoaa
open Go Go.RowKit

theorem getN4 (a b c d : UInt8) : getN [a, b, c, d] = ((a.toNat * 256 + b.toNat) * 256 + c.toNat) * 256 + d.toNat := by simp [getN]
theorem get4_int (a b c d : UInt8) : bits BinOp.or IntKind.u32 (bits BinOp.or IntKind.u32 (bits BinOp.or IntKind.u32 ((a.toNat : Int) % 4294967296 * 16777216 % 4294967296) ((b.toNat : Int) % 4294967296 * 65536 % 4294967296)) ((c.toNat : Int) % 4294967296 * 256 % 4294967296)) ((d.toNat : Int) % 4294967296) = ((getN [a, b, c, d] : Nat) : Int) := by
  have ha := u8_lt a
  have hb := u8_lt b
  have hc := u8_lt c
  have hd := u8_lt d
  have e1 : (a.toNat : Int) % 4294967296 * 16777216 % 4294967296 = ((a.toNat * 16777216 : Nat) : Int) := by omega
  have e2 : (b.toNat : Int) % 4294967296 * 65536 % 4294967296 = ((b.toNat * 65536 : Nat) : Int) := by omega
  have e4 : (d.toNat : Int) % 4294967296 = ((d.toNat : Nat) : Int) := by omega
  have e3 : (c.toNat : Int) % 4294967296 * 256 % 4294967296 = ((c.toNat * 256 : Nat) : Int) := by omega
  have o1 : a.toNat * 16777216 ||| b.toNat * 65536 = a.toNat * 16777216 + b.toNat * 65536 := by
    rw [show a.toNat * 16777216 = 2 ^ 24 * a.toNat by omega, ← Nat.two_pow_add_eq_or_of_lt (by omega)]
  have o2 : (a.toNat * 16777216 + b.toNat * 65536) ||| c.toNat * 256 = a.toNat * 16777216 + b.toNat * 65536 + c.toNat * 256 := by
    rw [show a.toNat * 16777216 + b.toNat * 65536 = 2 ^ 16 * (a.toNat * 256 + b.toNat) by omega, ← Nat.two_pow_add_eq_or_of_lt (by omega)]
  have o3 : (a.toNat * 16777216 + b.toNat * 65536 + c.toNat * 256) ||| d.toNat = a.toNat * 16777216 + b.toNat * 65536 + c.toNat * 256 + d.toNat := by
    rw [show a.toNat * 16777216 + b.toNat * 65536 + c.toNat * 256 = 2 ^ 8 * (a.toNat * 65536 + b.toNat * 256 + c.toNat) by omega, ← Nat.two_pow_add_eq_or_of_lt (by omega)]
  rw [e1, e2, e3, e4, u32_or_nat _ _ (by omega) (by omega), o1, u32_or_nat _ _ (by omega) (by omega), o2, u32_or_nat _ _ (by omega) (by omega), o3, getN4]
  omega

set_option maxRecDepth 100000 in
set_option maxHeartbeats 400000 in
/-- The document's Get32. -/
theorem refGet32_any (w : World) (a : Option Addr) (c : Nat) (l : List UInt8) (hr : Rd w a c (B8 l)) (h4 : 4 ≤ l.length) :
    Calls Try.prog 85 #[.slice a l.length c] w fun e w' => e = .returned (.int .u32 (getN (l.take 4) : Nat)) ∧ Qt w w' := by
  have hl := hr.le
  rw [B8_length] at hl
  obtain ⟨b1, o1, rfl, d0⟩ := hr.cs.b8 0 (by omega)
  obtain ⟨b2, o2, h2, d1⟩ := hr.cs.b8 1 (by omega)
  obtain ⟨b3, o3, h3, d2⟩ := hr.cs.b8 2 (by omega)
  obtain ⟨b4, o4, h4', d3⟩ := hr.cs.b8 3 (by omega)
  simp only [Option.some.injEq, Addr.mk.injEq, and_true] at h2 h3 h4'
  obtain ⟨rfl, rfl⟩ := h2
  obtain ⟨rfl, rfl⟩ := h3
  obtain ⟨rfl, rfl⟩ := h4'
  have hi0 : (0 : Int) < (l.length : Int) := by omega
  have hn0 : 0 < l.length := by omega
  have hn1 : 1 < l.length := by omega
  have hn2 : 2 < l.length := by omega
  have hn3 : 3 < l.length := by omega
  simp only [Nat.add_zero] at d0
  have hi1 : (1 : Int) < (l.length : Int) := by omega
  have hi2 : (2 : Int) < (l.length : Int) := by omega
  have hi3 : (3 : Int) < (l.length : Int) := by omega
  have hres : l.take 4 = [l[0], l[1], l[2], l[3]] := by
    rw [List.take_succ_eq_append_getElem (by omega), List.take_succ_eq_append_getElem (by omega), List.take_succ_eq_append_getElem (by omega), List.take_succ_eq_append_getElem (by omega)]
    rfl
  obtain ⟨x0, e0⟩ : ∃ x, x = l[0] := ⟨_, rfl⟩
  obtain ⟨x1, e1⟩ : ∃ x, x = l[1] := ⟨_, rfl⟩
  obtain ⟨x2, e2⟩ : ∃ x, x = l[2] := ⟨_, rfl⟩
  obtain ⟨x3, e3⟩ : ∃ x, x = l[3] := ⟨_, rfl⟩
  rw [← e0, ← e1, ← e2, ← e3] at hres
  rw [← e0] at d0
  rw [← e1] at d1
  rw [← e2] at d2
  rw [← e3] at d3
  have hg := get4_int x0 x1 x2 x3
  rw [← hres] at hg
  have HG := Lib.hid hg
  clear hres e0 e1 e2 e3 hg hr h4
  go_enter Try.func85, Try.ntmps85
  go_wp2
  go_quiet (fail)
  go_wp2
  go_ret
  exact ⟨ret_int HG.out, _, rfl⟩
end Go.Proofs.Yteenbobblbehoaa
