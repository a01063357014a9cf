/- BitsZigs: for every two numbers the law returns true. Conditions: none. -/
import Derived.Test.YtelmjcalacdncaaKnown1
import Derived.Test.YtelmjcalacdncaaZig
namespace Go.Proofs.Ytelmjcalacdncaa
open Go Go.RowKit

theorem zig_cases {v : Int} (h : -9223372036854775808 ≤ v ∧ v ≤ 9223372036854775807) :
    (1099511627776 ≤ v) ∨ (v ≤ -1099511627776 ∧ v < 1099511627776) ∨ (0 ≤ v ∧ v < 1099511627776 ∧ -1099511627776 < v ∧ ((zig v).toNat : Int) ≤ 2 * v ∧ -v ≤ v) ∨ (v < 0 ∧ v < 1099511627776 ∧ -1099511627776 < v ∧ ((zig v).toNat : Int) ≤ 2 * -v ∧ v < -v) := by
  rw [zig_toNat h]
  unfold zigN
  split <;> omega

set_option maxRecDepth 100000 in
set_option maxHeartbeats 1000000 in
theorem bitsZigs_walk (v : Int) (u : UInt64) (w : World) (h : -9223372036854775808 ≤ v ∧ v ≤ 9223372036854775807) :
    Calls Try.prog 5 #[.int .i64 v, .int .u64 u.toNat] w fun e w' => e = .returned (.bool true) ∧ Below w.heap.size w w' := by
  have HH := Lib.hid h; clear h
  have h1 := zag_zig HH.out
  have H1 := Lib.hid h1; clear h1
  have h2 := zig_zag u
  have H2 := Lib.hid h2; clear h2
  rcases zig_cases HH.out with h0 | ⟨h0, h1⟩ | ⟨h0, h1, h2, h3, h4⟩ | ⟨h0, h1, h2, h3, h4⟩
  all_goals
    go_enter Try.func5, Try.ntmps5
    go_wp2_with fail
    refine (zig_any v HH.out _).mono ?_
    rintro e w1 ⟨rfl, rfl⟩
    go_wp2_with fail
    refine (refZig_any v HH.out _).mono ?_
    rintro e w1 ⟨rfl, rfl⟩
    go_wp2_with fail
    refine (zag_any _ _).mono ?_
    rintro e w1 ⟨rfl, rfl⟩
    rw [H1.out]
    go_wp2_with fail
    refine (zag_any _ _).mono ?_
    rintro e w1 ⟨rfl, rfl⟩
    go_wp2_with fail
    refine (refZag_any _ _).mono ?_
    rintro e w1 ⟨rfl, rfl⟩
    go_wp2_with fail
    refine (zag_any _ _).mono ?_
    rintro e w1 ⟨rfl, rfl⟩
    go_wp2_with fail
    refine (zig_any _ (zag_range u) _).mono ?_
    rintro e w1 ⟨rfl, rfl⟩
    rw [H2.out]
    go_wp2_with fail
    refine (known_any _).mono ?_
    rintro e w2 ⟨rfl, hb⟩
    go_wp2
    go_ret
    exact ⟨rfl, hb⟩
end Go.Proofs.Ytelmjcalacdncaa
