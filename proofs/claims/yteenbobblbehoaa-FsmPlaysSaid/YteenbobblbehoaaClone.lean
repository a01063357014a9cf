/- bytes.Clone: the contract. Conditions: its own premises. -/
import Derived.Test.YteenbobblbehoaaCom0
import Derived.Lib.SliceRun
namespace Go.Proofs.Yteenbobblbehoaa
open Go Go.RowKit

set_option maxRecDepth 100000 in
set_option maxHeartbeats 400000 in
theorem clone_any (w : World) (a : Option Addr) (c n : Nat) (l : List UInt8) (hn : n = l.length) (hr : Rd w a c (B8 l)) (hl : l.length ≤ 100000000) :
    Calls Try.prog 56 #[.slice a n c] w fun e w' => ∃ r, e = .returned r ∧ w'.ownsRow w.heap.size 5 1 r n (B8 l) ∧ Below w.heap.size w w' := by
  have q22 : ∀ (w : World) (a : Option Addr) (n c n' c' : Nat), (binOp .eql 31 (.slice a n c) (.slice none n' c')).run Try.prog w = .ok (.bool a.isNone) w := fun w a n c n' c' => Lib.run_eql_slice_nil w _ _ a n c n' c' Try.underlying31
  have HN := Lib.hid hn; clear hn
  have hn8 : n ≤ 100000000 := by have := HN.out; omega
  cases a with
  | none =>
    have h0 := hr.2.2.1 rfl
    have h1 := hr.1
    rw [B8_length] at h1
    obtain rfl : l = [] := List.eq_nil_of_length_eq_zero (by omega)
    obtain rfl : n = 0 := HN.out
    clear h1 hr
    subst h0
    go_enter Try.func56, Try.ntmps56
    go_wp2
    go_ret
    exact ⟨_, rfl, World.ownsRow_nil _ _ _ _, Below.refl _ _⟩
  | some a =>
    go_enter Try.func56, Try.ntmps56
    go_wp2_with (with_reducible refine At.slot 7 ?_)
    refine At.out (wpList_app rfl (.tmp 5) (.tmp 6) 31 rfl elemB rfl w.heap.size _ 0 [] rfl (own_empty w _) (some a) n c (B8 l) rfl (by rw [B8_length]; exact HN.out) (hr.kept ((Below.refl _ _).alloc (Nat.le_refl _) _)) (B8_one _) (by unfold maxLen; omega) (by omega) (by simp) ?_)
    intro v1 w1 ho1 hb1 _
    rw [Nat.zero_add, List.nil_append] at ho1
    go_wp2
    go_ret
    exact ⟨v1, rfl, ho1, ((Below.refl _ _).alloc (Nat.le_refl _) _).trans hb1⟩
end Go.Proofs.Yteenbobblbehoaa
