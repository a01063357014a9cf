/- NetOfNothing: for every number the law returns true. Conditions: none. -/
import Derived.Test.YtoagneajlfglcaaNetNil
namespace Go.Proofs.Ytoagneajlfglcaa
open Go Go.RowKit

set_option maxRecDepth 100000 in
set_option maxHeartbeats 2000000 in
theorem netOfNothing_any (i : Int) (w : World) (_hi : -9223372036854775808 ≤ i ∧ i ≤ 9223372036854775807) :
    Calls Try.prog 5 #[.int .i64 i] w fun e w' => e = .returned (.bool true) ∧ Below w.heap.size w w' := by
  go_enter Try.func5, Try.ntmps5
  go_wp2_with fail
  refine (atNil_any _ _).mono ?_
  rintro e w1 ⟨rfl, hb1⟩
  have hb1' : ∀ o, Below w.heap.size w (w1.alloc o) := fun o => hb1.alloc hb1.size o
  go_wp2_with fail
  refine (takeNil_any _ _).mono ?_
  rintro e w2 ⟨rfl, hb2⟩
  have hb2' : Below w.heap.size w w2 := (hb1' _).trans (hb2.mono (hb1' _).size)
  have hb2'' : ∀ o, Below w.heap.size w (w2.alloc o) := fun o => hb2'.alloc hb2'.size o
  clear hb1 hb1' hb2 hb2'
  go_wp2_with fail
  refine (sendNil_any _ _ _ _ _ _ _ _ _ _).mono ?_
  rintro e w3 ⟨rfl, hb3⟩
  have hb3' : Below w.heap.size w w3 := (hb2'' _).trans (hb3.mono (hb2'' _).size)
  clear hb2'' hb3
  go_wp2_with fail
  refine (lenNil_any _).mono ?_
  rintro e w4 ⟨rfl, hw4⟩
  subst hw4
  go_wp2_with fail
  refine (twiceNil_any _ _).mono ?_
  rintro e w5 ⟨rfl, hb5⟩
  have hb5' := hb3'.trans (hb5.mono hb3'.size)
  clear hb3' hb5
  go_wp2_with fail
  refine (dropNil_any _ _).mono ?_
  rintro e w6 ⟨rfl, hb6⟩
  have hb6' := hb5'.trans (hb6.mono hb5'.size)
  clear hb5' hb6
  go_wp2_with fail
  refine (netKnown_any _).mono ?_
  rintro e w7 ⟨rfl, hb7⟩
  have hb7' := hb6'.trans (hb7.mono hb6'.size)
  clear hb6' hb7
  go_wp2
  go_ret
  exact ⟨rfl, hb7'⟩
end Go.Proofs.Ytoagneajlfglcaa
