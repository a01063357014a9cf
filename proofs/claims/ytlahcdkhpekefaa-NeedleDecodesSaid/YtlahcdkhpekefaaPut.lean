/- Numbers as eight bytes, there and back: the contracts of the program's and of the document's. Conditions: each contract's own premises. -/
import Derived.Test.YtlahcdkhpekefaaPut0
namespace Go.Proofs.Ytlahcdkhpekefaa
open Go Go.RowKit

set_option maxRecDepth 100000 in
/-- Put64. -/
theorem put64_any (v : UInt64) (w : World) :
    Calls Try.prog 32 #[.int .u64 v.toNat] w fun e w' => ∃ r, e = .returned r ∧ w'.ownsRow w.heap.size 5 1 r 8 (B8 (putL 8 v.toNat)) ∧ Below w.heap.size w w' := by
  go_enter Try.func32, Try.ntmps32
  go_wp2_with fail
  refine (put_any v 8 (by decide) w).mono ?_
  rintro e w1 ⟨r, rfl, ho, hb⟩
  go_wp2
  go_ret
  exact ⟨r, rfl, ho, hb⟩

set_option maxRecDepth 100000 in
/-- Get64. -/
theorem get64_any (w : World) (a : Option Addr) (c : Nat) (l : List UInt8) (hr : Rd w a c (B8 l)) :
    Calls Try.prog 26 #[.slice a l.length c] w fun e w' => e = .returned (getV .u64 (getF l 8)) ∧ w' = w := by
  go_enter Try.func26, Try.ntmps26
  go_wp2_with fail
  refine (get_any w a c l 8 (by decide) (by decide) hr).mono ?_
  rintro e w1 ⟨rfl, rfl⟩
  unfold getV
  go_wp2
  go_ret2
  exact ⟨rfl, rfl⟩
set_option maxRecDepth 100000 in
set_option maxHeartbeats 400000 in
/-- The document's Put64. -/
theorem refPut64_any (v : UInt64) (w : World) :
    Calls Try.prog 23 #[.int .u64 v.toNat] w fun e w' => ∃ r, e = .returned r ∧ w'.ownsRow w.heap.size 5 1 r 8 (B8 (putL 8 v.toNat)) ∧ Below w.heap.size w w' := by
  have hv := u64_lt v
  obtain ⟨hi, hhi⟩ : ∃ x : UInt32, x.toNat = v.toNat / 4294967296 := ⟨UInt32.ofNat (v.toNat / 4294967296), by rw [UInt32.toNat_ofNat', Nat.mod_eq_of_lt (by omega)]⟩
  obtain ⟨lo, hlo⟩ : ∃ x : UInt32, x.toNat = v.toNat % 4294967296 := ⟨UInt32.ofNat (v.toNat % 4294967296), by rw [UInt32.toNat_ofNat', Nat.mod_eq_of_lt (by omega)]⟩
  have hres : putL 8 v.toNat = putL 4 hi.toNat ++ putL 4 lo.toNat := by
    rw [hhi, hlo, putL_add 4 4 v.toNat]
    have := putL_mod 4 4 v.toNat (Nat.le_refl _)
    have e : (2 : Nat) ^ (8 * 4) = 4294967296 := by decide
    rw [e] at this ⊢
    rw [this]
  have e1 : (v.toNat : Int) / 4294967296 = (hi.toNat : Int) := by omega
  have e2 : (v.toNat : Int) % 4294967296 = (lo.toNat : Int) := by omega
  have e3 : IntKind.u32.wrap (hi.toNat : Int) = (hi.toNat : Int) := IntWalk.u32_in _ (by have := u32_lt hi; omega)
  have HR := Lib.hid hres
  clear hres hhi hlo hv
  go_enter Try.func23, Try.ntmps23
  go_wp2_with fail
  refine (refPut32_any hi w).mono ?_
  rintro e w1 ⟨r, rfl, ho, hb⟩
  go_wp2_with fail
  refine (refPut32_any lo w1).mono ?_
  rintro e w2 ⟨r2, rfl, ho2, hb2⟩
  have ho' := own_below ho hb2
  have hbb := hb.trans (hb2.mono hb.size)
  obtain ⟨a2, c2, rfl, hrd2⟩ := Rd.ofOwn ho2
  go_wp2_with (with_reducible refine At.slot 10 ?_)
  refine At.out (wpList_app rfl (.tmp 6) (.tmp 9) 24 rfl elemB rfl w.heap.size _ 4 _ rfl ho' a2 4 c2 (B8 (putL 4 lo.toNat)) rfl (by rw [B8_length, putL_length]) hrd2 (B8_one _) (by unfold maxLen; omega) (by omega) hbb.size ?_)
  intro v3 w3 ho3 hb3 _
  go_wp2
  go_ret
  refine ⟨v3, rfl, ?_, hbb.trans hb3⟩
  rw [HR.out, B8_append]
  exact ho3
end Go.Proofs.Ytlahcdkhpekefaa
