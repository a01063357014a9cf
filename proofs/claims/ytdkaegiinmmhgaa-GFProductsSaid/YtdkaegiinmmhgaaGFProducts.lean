/- GFProducts, GFField, GFInverts, GFPowers: for all numbers each of the laws returns true. Conditions: none. -/
import Derived.Test.YtdkaegiinmmhgaaGfPow
namespace Go.Proofs.Ytdkaegiinmmhgaa
open Go Go.RowKit

set_option maxRecDepth 100000 in
theorem gFProducts_walk (a b : UInt8) (w : World) :
    Calls Try.prog 3 #[.int .u8 a.toNat, .int .u8 b.toNat] w fun e w' => e = .returned (.bool true) ∧ Below w.heap.size w w' := by
  go_enter Try.func3, Try.ntmps3
  go_wp2_with fail
  refine (mul_any a b w).mono ?_
  rintro e w1 ⟨rfl, hw⟩
  subst hw
  go_wp2_with fail
  refine (refMul_any a b _).mono ?_
  rintro e w2 ⟨rfl, hw⟩
  subst hw
  go_wp2_with fail
  refine (gfKnown_any _).mono ?_
  rintro e w3 ⟨rfl, hw⟩
  subst hw
  go_wp2
  go_ret
  exact ⟨rfl, Below.refl _ _⟩
end Go.Proofs.Ytdkaegiinmmhgaa
