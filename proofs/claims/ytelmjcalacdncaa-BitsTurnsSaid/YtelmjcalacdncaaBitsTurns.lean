/- BitsTurns: for all numbers the law returns true. Conditions: none. -/
import Derived.Test.YtelmjcalacdncaaKnown1
import Derived.Test.YtelmjcalacdncaaPop
namespace Go.Proofs.Ytelmjcalacdncaa
open Go Go.RowKit

set_option maxRecDepth 100000 in
set_option maxHeartbeats 1000000 in
theorem bitsTurns_walk (v : UInt32) (n : Int) (u : UInt64) (w : World) (h : -9223372036854775808 ≤ n ∧ n ≤ 9223372036854775807) :
    Calls Try.prog 6 #[.int .u32 v.toNat, .int .i64 n, .int .u64 u.toNat] w fun e w' => e = .returned (.bool true) ∧ Below w.heap.size w w' := by
  have hb := turn_back v n
  have HB := Lib.hid hb; clear hb
  have hp := pop_turn v n
  have HP := Lib.hid hp; clear hp
  obtain ⟨t, ht⟩ : ∃ t, t = turn v n := ⟨_, rfl⟩
  have htl := u32_lt t
  have hvl := u32_lt v
  have HT := Lib.hid ht; clear ht
  have HHn := Lib.hid h; clear h
  by_cases h1 : n < -4611686018427387904 ∨ 4611686018427387904 < n
  · rcases (show n < -4611686018427387904 ∨ (¬ n < -4611686018427387904 ∧ 4611686018427387904 < n) by omega) with h | ⟨h, h'⟩
    all_goals
      clear h1
      go_enter Try.func6, Try.ntmps6
      go_wp2_with fail
      refine (turn_any v n _).mono ?_
      rintro e w1 ⟨rfl, rfl⟩
      rw [← HT.out]
      go_wp2_with fail
      refine (refTurn_any v n _).mono ?_
      rintro e w1 ⟨rfl, rfl⟩
      rw [← HT.out]
      go_wp2_with fail
      refine (known_any _).mono ?_
      rintro e w2 ⟨rfl, hb⟩
      go_wp2
      go_ret
      exact ⟨rfl, hb⟩
  · have h2 : -4611686018427387904 ≤ n ∧ n ≤ 4611686018427387904 := by omega
    have d1 : decide (n < -4611686018427387904) = false := decide_eq_false (by omega)
    have d2 : decide (4611686018427387904 < n) = false := decide_eq_false (by omega)
    have hn : wrap64 (-n) = -n := IntWalk.wrap64_in _ (by omega)
    have HN := Lib.hid hn
    clear h1 h2 hn
    go_enter Try.func6, Try.ntmps6
    go_wp2_with fail
    refine (turn_any v n _).mono ?_
    rintro e w1 ⟨rfl, rfl⟩
    rw [← HT.out]
    go_wp2_with fail
    refine (refTurn_any v n _).mono ?_
    rintro e w1 ⟨rfl, rfl⟩
    rw [← HT.out]
    go_wp2_with fail
    rw [HN.out]
    refine (turn_any t (-n) _).mono ?_
    rintro e w1 ⟨rfl, rfl⟩
    rw [HT.out, HB.out, ← HT.out]
    go_wp2_with fail
    refine (count_any t.toNat (Nat.lt_trans (u32_lt t) (by decide)) _).mono ?_
    rintro e w1 ⟨rfl, rfl⟩
    rw [HT.out, HP.out, ← HT.out]
    go_wp2_with fail
    refine (count_any v.toNat (Nat.lt_trans (u32_lt v) (by decide)) _).mono ?_
    rintro e w1 ⟨rfl, rfl⟩
    go_wp2_with fail
    refine (count_u64 u _).mono ?_
    rintro e w1 ⟨rfl, rfl⟩
    go_wp2_with fail
    refine (refCount_u64 u _).mono ?_
    rintro e w1 ⟨rfl, rfl⟩
    go_wp2_with fail
    refine (known_any _).mono ?_
    rintro e w2 ⟨rfl, hb⟩
    go_wp2
    go_ret
    exact ⟨rfl, hb⟩
end Go.Proofs.Ytelmjcalacdncaa
