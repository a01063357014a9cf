/- fsm's of and may: the contracts. Conditions: each contract's own premises. -/
import Derived.Test.YteenbobblbehoaaFsmSmall
import Derived.Test.YteenbobblbehoaaFsmDiff
namespace Go.Proofs.Yteenbobblbehoaa
open Go Go.RowKit

set_option maxRecDepth 100000 in
set_option maxHeartbeats 1000000 in
theorem may_any (w : World) (kd : Int) (n : Nat) (hn : n ≤ 9223372036854775807) : Calls Try.prog 35 #[.int .i64 kd, .int .i64 (n : Int)] w fun e w' => e = .returned (.bool (mayB kd n)) ∧ w' = w := by
  obtain ⟨R, hR⟩ : ∃ R, R = mayB kd n := ⟨_, rfl⟩
  rw [← hR]
  unfold mayB at hR
  have q0 : ((n : Int) == 0) = (n == 0) := Bool.eq_iff_iff.2 (by rw [beq_iff_eq, beq_iff_eq]; omega)
  have q1 : ((n : Int) == 1) = (n == 1) := Bool.eq_iff_iff.2 (by rw [beq_iff_eq, beq_iff_eq]; omega)
  have q2 : ((n : Int) == 2) = (n == 2) := Bool.eq_iff_iff.2 (by rw [beq_iff_eq, beq_iff_eq]; omega)
  have q3 : decide ((3 : Int) ≤ (n : Int)) = decide (3 ≤ n) := decide_eq_decide.2 (by omega)
  rcases (by omega : kd = 1 ∨ kd = 2 ∨ kd = 3 ∨ kd = 4 ∨ kd = 5 ∨ kd = 6 ∨ (kd ≠ 1 ∧ kd ≠ 2 ∧ kd ≠ 3 ∧ kd ≠ 4 ∧ kd ≠ 5 ∧ kd ≠ 6)) with rfl | rfl | rfl | rfl | rfl | rfl | ⟨h1, h2, h3, h4, h5, h6⟩
  case inr.inr.inr.inr.inr.inr =>
    simp only [h1, h2, h3, h4, h5, h6, if_false, or_self] at hR
    have b1 : (kd == 1) = false := by simpa using h1
    have b2 : (kd == 2) = false := by simpa using h2
    have b3 : (kd == 3) = false := by simpa using h3
    have b4 : (kd == 4) = false := by simpa using h4
    have b5 : (kd == 5) = false := by simpa using h5
    have b6 : (kd == 6) = false := by simpa using h6
    subst hR
    go_enter Try.func35, Try.ntmps35
    go_wp2
    go_ret
    exact ⟨rfl, rfl⟩
  all_goals
    simp only [if_true, Int.reduceEq, if_false, or_true, true_or] at hR
    have HR := Lib.hid hR
    clear hR
    go_enter Try.func35, Try.ntmps35
    go_wp2
    go_ret
    rw [HR.out]
    exact ⟨rfl, rfl⟩

set_option maxRecDepth 100000 in
set_option maxHeartbeats 1000000 in
theorem of_nil (w : World) (id : Int) : Calls Try.prog 30 #[.pointer none, .int .i64 id] w fun e w' => e = .returned (.pointer none) ∧ w' = w := by
  go_enter Try.func30, Try.ntmps30
  go_wp2
  go_ret
  exact ⟨rfl, rfl⟩
theorem TabI.head {F : Nat → Prop} {w : World} {t : Nat} {L : List Vl} (h : TabI w F t L) : ∃ (a : Option Addr) (c : Nat), BlkV w t 58 (tblC t (.slice a L.length c)) ∧ L.length ≤ 9223372036854775807 := by
  obtain ⟨⟨a, c, ps, h1, h2, _, h4, _⟩, _⟩ := h
  obtain ⟨a', c', hv, hr⟩ := Rd.ofOwn h2
  have := hr.le
  simp at this
  exact ⟨a, c, h1, by omega⟩
set_option maxRecDepth 100000 in
set_option maxHeartbeats 1000000 in
theorem of_none (w : World) (F : Nat → Prop) (t : Nat) (L : List Vl) (h : TabI w F t L) (id : Int) (hid : ofL L id = none) : Calls Try.prog 30 #[ptrV t, .int .i64 id] w fun e w' => e = .returned (.pointer none) ∧ w' = w := by
  obtain ⟨a, c, hB, hl⟩ := h.head
  obtain ⟨n, hn⟩ : ∃ n, n = L.length := ⟨_, rfl⟩
  rw [← hn] at hB hl
  have c0 := hB.cell 0
  unfold tblC at c0
  simp only [List.getElem?_toArray, List.getElem?_cons_zero] at c0
  unfold ptrV
  by_cases h1 : id < 1
  · clear hn hB hid
    go_enter Try.func30, Try.ntmps30
    go_wp2
    go_ret
    exact ⟨rfl, rfl⟩
  · have h2 : (n : Int) < id := by
      unfold ofL at hid
      rw [if_pos (by omega)] at hid
      have := List.getElem?_eq_none_iff.1 hid
      omega
    clear hn hB hid
    go_enter Try.func30, Try.ntmps30
    go_wp2
    go_ret
    exact ⟨rfl, rfl⟩
set_option maxRecDepth 100000 in
set_option maxHeartbeats 1000000 in
theorem of_some (w : World) (t b o n c p i : Nat) (hB : BlkV w t 58 (tblC t (.slice (some ⟨b, o, none⟩) n c))) (hc : w.cell? ⟨b, o + i, none⟩ = some (ptrV p)) (hi : i < n) (hn : n ≤ 9223372036854775807) :
    Calls Try.prog 30 #[ptrV t, .int .i64 ((i : Int) + 1)] w fun e w' => e = .returned (ptrV p) ∧ w' = w := by
  have c0 := hB.cell 0
  unfold tblC at c0
  simp only [List.getElem?_toArray, List.getElem?_cons_zero] at c0
  unfold ptrV at hc ⊢
  have h1 : ¬ ((i : Int) + 1) < 1 := by omega
  have h2 : ¬ (n : Int) < (i : Int) + 1 := by omega
  have h3 : IntKind.i64.wrap ((i : Int) + 1 - 1) = (i : Int) := by rw [show (i : Int) + 1 - 1 = (i : Int) by omega]; exact IntWalk.i64_in _ (by omega)
  have h4 : (i : Int) < (n : Int) := by omega
  clear hB
  go_enter Try.func30, Try.ntmps30
  go_wp2
  go_ret
  exact ⟨rfl, rfl⟩
end Go.Proofs.Yteenbobblbehoaa
