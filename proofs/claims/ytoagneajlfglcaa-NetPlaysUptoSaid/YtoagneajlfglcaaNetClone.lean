/- slices.Clone of numbers, of bytes; a message in memory of its own: the contracts. Conditions: each contract's own premises. -/
import Derived.Test.YtoagneajlfglcaaNetMem
import Derived.Lib.SliceRun
import Derived.Deep.RegionLaw
import Derived.Test.YtoagneajlfglcaaSlice
namespace Go.Proofs.Ytoagneajlfglcaa
open Go Go.RowKit

theorem elemI : ElemT Try.prog 28 3 1 (.int .i64 0) 8 := ⟨Try.underlying28, info_parts (by kernel_rfl)⟩
theorem cloneI_any (w : World) (a : Option Addr) (c n : Nat) (l : List Int) (hn : n = l.length) (hr : Rd w a c (BI l)) (hl : l.length ≤ 100000000) :
    Calls Try.prog 28 #[.slice a n c] w fun e w' => ∃ r, e = .returned r ∧ w'.ownsRow w.heap.size 3 1 r n (BI l) ∧ Below w.heap.size w w' := by
  have q22 : ∀ (w : World) (a : Option Addr) (n c n' c' : Nat), (binOp .eql 28 (.slice a n c) (.slice none n' c')).run Try.prog w = .ok (.bool a.isNone) w := fun w a n c n' c' => Lib.run_eql_slice_nil w _ _ a n c n' c' Try.underlying28
  have HN := Lib.hid hn; clear hn
  have hn8 : n ≤ 100000000 := by have := HN.out; omega
  cases a with
  | none =>
    have h0 := hr.2.2.1 rfl
    have h1 := hr.1
    rw [BI_length] at h1
    obtain rfl : l = [] := List.eq_nil_of_length_eq_zero (by omega)
    obtain rfl : n = 0 := HN.out
    clear h1 hr
    subst h0
    go_enter Try.func28, Try.ntmps28
    go_wp2
    go_ret
    exact ⟨_, rfl, World.ownsRow_nil _ _ _ _, Below.refl _ _⟩
  | some a =>
    go_enter Try.func28, Try.ntmps28
    go_wp2_with (with_reducible refine At.slot 7 ?_)
    refine At.out (wpList_app rfl (.tmp 5) (.tmp 6) 28 rfl elemI rfl w.heap.size _ 0 [] rfl (own_empty w _) (some a) n c (BI l) rfl (by rw [BI_length]; exact HN.out) (hr.kept ((Below.refl _ _).alloc (Nat.le_refl _) _)) (BI_one _) (by unfold maxLen; omega) (by omega) (by simp) ?_)
    intro v1 w1 ho1 hb1 _
    rw [Nat.zero_add, List.nil_append] at ho1
    go_wp2
    go_ret
    exact ⟨v1, rfl, ho1, ((Below.refl _ _).alloc (Nat.le_refl _) _).trans hb1⟩
theorem cloneB_any (w : World) (a : Option Addr) (c n : Nat) (l : List UInt8) (hn : n = l.length) (hr : Rd w a c (B8 l)) (hl : l.length ≤ 100000000) :
    Calls Try.prog 29 #[.slice a n c] w fun e w' => ∃ r, e = .returned r ∧ w'.ownsRow w.heap.size 5 1 r n (B8 l) ∧ Below w.heap.size w w' := by
  have q22 : ∀ (w : World) (a : Option Addr) (n c n' c' : Nat), (binOp .eql 29 (.slice a n c) (.slice none n' c')).run Try.prog w = .ok (.bool a.isNone) w := fun w a n c n' c' => Lib.run_eql_slice_nil w _ _ a n c n' c' Try.underlying29
  have HN := Lib.hid hn; clear hn
  have hn8 : n ≤ 100000000 := by have := HN.out; omega
  cases a with
  | none =>
    have h0 := hr.2.2.1 rfl
    have h1 := hr.1
    rw [B8_length] at h1
    obtain rfl : l = [] := List.eq_nil_of_length_eq_zero (by omega)
    obtain rfl : n = 0 := HN.out
    clear h1 hr
    subst h0
    go_enter Try.func29, Try.ntmps29
    go_wp2
    go_ret
    exact ⟨_, rfl, World.ownsRow_nil _ _ _ _, Below.refl _ _⟩
  | some a =>
    go_enter Try.func29, Try.ntmps29
    go_wp2_with (with_reducible refine At.slot 7 ?_)
    refine At.out (wpList_app rfl (.tmp 5) (.tmp 6) 29 rfl elemB rfl w.heap.size _ 0 [] rfl (own_empty w _) (some a) n c (B8 l) rfl (by rw [B8_length]; exact HN.out) (hr.kept ((Below.refl _ _).alloc (Nat.le_refl _) _)) (B8_one _) (by unfold maxLen; omega) (by omega) (by simp) ?_)
    intro v1 w1 ho1 hb1 _
    rw [Nat.zero_add, List.nil_append] at ho1
    go_wp2
    go_ret
    exact ⟨v1, rfl, ho1, ((Below.refl _ _).alloc (Nat.le_refl _) _).trans hb1⟩
end Go.Proofs.Ytoagneajlfglcaa
