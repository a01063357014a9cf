/- Zig and Zag: the plain functions, and the contracts of the program's and of the document's. Conditions: each contract's own premises. -/
import Derived.Test.YteenbobblbehoaaCom0
namespace Go.Proofs.Yteenbobblbehoaa
open Go Go.RowKit

def zigN (v : Int) : Nat := if 0 ≤ v then (2 * v).toNat else (-2 * v - 1).toNat
def zig (v : Int) : UInt64 := UInt64.ofNat (zigN v)
def zag (u : UInt64) : Int := if u.toNat % 2 = 0 then ((u.toNat / 2 : Nat) : Int) else -((u.toNat / 2 : Nat) : Int) - 1

theorem zig_toNat {v : Int} (h : -9223372036854775808 ≤ v ∧ v ≤ 9223372036854775807) : (zig v).toNat = zigN v := by
  unfold zig
  rw [UInt64.toNat_ofNat', Nat.mod_eq_of_lt]
  unfold zigN; split <;> omega
theorem zag_zig {v : Int} (h : -9223372036854775808 ≤ v ∧ v ≤ 9223372036854775807) : zag (zig v) = v := by
  unfold zag
  rw [zig_toNat h]
  unfold zigN
  split <;> split <;> omega
theorem zag_range (u : UInt64) : -9223372036854775808 ≤ zag u ∧ zag u ≤ 9223372036854775807 := by
  have := u64_lt u
  unfold zag; split <;> omega
theorem zig_zag (u : UInt64) : zig (zag u) = u := by
  apply UInt64.toNat_inj.1
  rw [zig_toNat (zag_range u)]
  unfold zigN zag
  split <;> split <;> omega

theorem zig_int {v : Int} (h : -9223372036854775808 ≤ v ∧ v ≤ 9223372036854775807) :
    bits BinOp.xor IntKind.u64 (IntKind.u64.wrap (IntKind.u64.wrap v * 2)) (IntKind.u64.wrap (v / 9223372036854775808)) = ((zig v).toNat : Int) := by
  rw [zig_toNat h]
  unfold zigN
  split
  · rename_i h0
    have e1 : IntKind.u64.wrap (IntKind.u64.wrap v * 2) = (((2 * v).toNat : Nat) : Int) := by rw [IntKind.wrap_u64, IntKind.wrap_u64]; omega
    have e2 : IntKind.u64.wrap (v / 9223372036854775808) = ((0 : Nat) : Int) := by rw [IntKind.wrap_u64]; omega
    rw [e1, e2, u64_xor_nat _ _ (by omega) (by decide), Nat.xor_zero]
  · rename_i h0
    have e1 : IntKind.u64.wrap (IntKind.u64.wrap v * 2) = (((18446744073709551616 + 2 * v).toNat : Nat) : Int) := by rw [IntKind.wrap_u64, IntKind.wrap_u64]; omega
    have e2 : IntKind.u64.wrap (v / 9223372036854775808) = ((18446744073709551615 : Nat) : Int) := by rw [IntKind.wrap_u64]; omega
    rw [e1, e2, u64_xor_nat _ _ (by omega) (by decide)]
    have h3 : (18446744073709551616 + 2 * v).toNat < 18446744073709551616 := by omega
    obtain ⟨x, hx⟩ : ∃ x : UInt64, x.toNat = (18446744073709551616 + 2 * v).toNat := ⟨UInt64.ofNat (18446744073709551616 + 2 * v).toNat, by rw [UInt64.toNat_ofNat', Nat.mod_eq_of_lt h3]⟩
    have e3 : (18446744073709551616 + 2 * v).toNat ^^^ 18446744073709551615 = (~~~ x).toNat := by
      rw [← hx, Nat.xor_comm]
      have := u64_not x
      rw [show IntKind.u64.max = ((18446744073709551615 : Nat) : Int) by decide, u64_xor_nat _ _ (by decide) (u64_lt x)] at this
      omega
    rw [e3, UInt64.toNat_not]
    simp only [UInt64.size]
    omega

theorem i64_xor_zero (n : Int) (h : 0 ≤ n ∧ n ≤ 9223372036854775807) : bits BinOp.xor IntKind.i64 n 0 = n := by
  show IntKind.i64.wrap ((BitVec.ofInt 64 n ^^^ BitVec.ofInt 64 0).toNat : Int) = n
  have e : BitVec.ofInt 64 0 = 0#64 := rfl
  rw [e, BitVec.xor_zero, BitVec.toNat_ofInt]
  rw [IntWalk.i64_in _ (by omega)]
  omega
theorem i64_xor_ones (n : Int) (h : 0 ≤ n ∧ n ≤ 9223372036854775807) : bits BinOp.xor IntKind.i64 n (-1) = -1 - n := by
  show IntKind.i64.wrap ((BitVec.ofInt 64 n ^^^ BitVec.ofInt 64 (-1)).toNat : Int) = _
  have e : BitVec.ofInt 64 (-1) = BitVec.allOnes 64 := by decide
  rw [e, BitVec.xor_allOnes, BitVec.toNat_not, BitVec.toNat_ofInt, IntKind.wrap_i64]
  omega

theorem zag_int (u : UInt64) : bits BinOp.xor IntKind.i64 (wrap64 ((u.toNat : Int) / 2)) (wrap64 (-wrap64 (bits BinOp.and IntKind.u64 (u.toNat : Int) 1))) = zag u := by
  have hu := u64_lt u
  have e1 : bits BinOp.and IntKind.u64 (u.toNat : Int) 1 = ((u.toNat % 2 : Nat) : Int) := by
    have h1 : (1 : Int) = ((1 : Nat) : Int) := rfl
    rw [h1, u64_and_nat _ _ hu (by decide), nat_mask1]
  have e2 : wrap64 ((u.toNat : Int) / 2) = (u.toNat : Int) / 2 := IntWalk.wrap64_in _ (by omega)
  rw [e1, e2]
  unfold zag
  split
  · rename_i h
    rw [h]
    have : wrap64 (-wrap64 ((0 : Nat) : Int)) = 0 := by rw [IntWalk.wrap64_in ((0 : Nat) : Int) (by omega), IntWalk.wrap64_in _ (by omega)]; rfl
    rw [this, i64_xor_zero _ (by omega)]
    omega
  · rename_i h
    have h1 : u.toNat % 2 = 1 := by omega
    rw [h1]
    have : wrap64 (-wrap64 ((1 : Nat) : Int)) = -1 := by rw [IntWalk.wrap64_in ((1 : Nat) : Int) (by omega), IntWalk.wrap64_in _ (by omega)]; rfl
    rw [this, i64_xor_ones _ (by omega)]
    omega

set_option maxRecDepth 100000 in
/-- Zig. -/
theorem zig_any (v : Int) (h : -9223372036854775808 ≤ v ∧ v ≤ 9223372036854775807) (w : World) :
    Calls Try.prog 68 #[.int .i64 v] w fun e w' => e = .returned (.int .u64 (zig v).toNat) ∧ w' = w := by
  have HH := Lib.hid h; clear h
  go_enter Try.func68, Try.ntmps68
  go_wp2
  go_ret
  exact ⟨ret_int (zig_int HH.out), rfl⟩

set_option maxRecDepth 100000 in
/-- The document's Zig. -/
theorem refZig_any (v : Int) (h : -9223372036854775808 ≤ v ∧ v ≤ 9223372036854775807) (w : World) :
    Calls Try.prog 84 #[.int .i64 v] w fun e w' => e = .returned (.int .u64 (zig v).toNat) ∧ w' = w := by
  have hz := zig_toNat h
  have HZ := Lib.hid hz; clear hz
  by_cases h0 : 0 ≤ v
  · go_enter Try.func84, Try.ntmps84
    go_wp2
    go_ret
    exact ⟨ret_int (by rw [HZ.out]; unfold zigN; rw [if_pos h0]; show 2 * v = _; omega), rfl⟩
  · go_enter Try.func84, Try.ntmps84
    go_wp2
    go_ret
    exact ⟨ret_int (by rw [HZ.out]; unfold zigN; rw [if_neg (by omega)]; show 2 * -(v + 1) + 1 = _; omega), rfl⟩

set_option maxRecDepth 100000 in
/-- Zag. -/
theorem zag_any (u : UInt64) (w : World) :
    Calls Try.prog 54 #[.int .u64 u.toNat] w fun e w' => e = .returned (.int .i64 (zag u)) ∧ w' = w := by
  go_enter Try.func54, Try.ntmps54
  go_wp2
  go_ret
  exact ⟨ret_int (zag_int u), rfl⟩

set_option maxRecDepth 100000 in
/-- The document's Zag. -/
theorem refZag_any (u : UInt64) (w : World) :
    Calls Try.prog 77 #[.int .u64 u.toNat] w fun e w' => e = .returned (.int .i64 (zag u)) ∧ w' = w := by
  have hu := u64_lt u
  have hw : IntKind.u64.wrap ((u.toNat : Int) / 2) = ((u.toNat / 2 : Nat) : Int) := by rw [IntKind.wrap_u64]; omega
  obtain ⟨q, hq⟩ : ∃ q, q = u.toNat / 2 := ⟨_, rfl⟩
  rw [← hq] at hw
  have hq1 : q ≤ 9223372036854775807 := by omega
  have HQ := Lib.hid hq; clear hq hu
  by_cases h : u.toNat % 2 = 0
  · have h' : (((u.toNat : Int) % 2) == 0) = true := by rw [beq_iff_eq]; omega
    have HH := Lib.hid h; clear h
    go_enter Try.func77, Try.ntmps77
    go_wp2
    go_ret
    exact ⟨ret_int (by unfold zag; rw [if_pos HH.out, HQ.out]), rfl⟩
  · have h' : (((u.toNat : Int) % 2) == 0) = false := by rw [beq_eq_false_iff_ne]; omega
    have HH := Lib.hid h; clear h
    go_enter Try.func77, Try.ntmps77
    go_wp2
    go_ret
    exact ⟨ret_int (by unfold zag; rw [if_neg HH.out, HQ.out]), rfl⟩
end Go.Proofs.Yteenbobblbehoaa
