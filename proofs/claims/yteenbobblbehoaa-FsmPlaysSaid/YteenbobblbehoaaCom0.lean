/- Small things that all texts use. Conditions: each contract's own premises. -/
import Derived.Test.YteenbobblbehoaaProg
import Derived.Test.YteenbobblbehoaaMem
import Derived.Test.YteenbobblbehoaaU
namespace Go.Proofs.Yteenbobblbehoaa
open Go Go.RowKit

theorem elemB : ElemT Try.prog 31 5 1 (.int .u8 0) 1 := ⟨Try.underlying31, info_parts (by kernel_rfl)⟩

theorem ret_bool {a b : Bool} (h : a = b) : Ending.returned (.bool a) = .returned (.bool b) := by rw [h]
theorem ret_int {k : IntKind} {a b : Int} (h : a = b) : Ending.returned (.int k a) = .returned (.int k b) := by rw [h]
end Go.Proofs.Yteenbobblbehoaa
