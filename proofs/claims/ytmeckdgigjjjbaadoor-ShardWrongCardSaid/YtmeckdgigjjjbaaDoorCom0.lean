/- Small things that all texts use. Conditions: each contract's own premises. -/
import Derived.Test.YtmeckdgigjjjbaaDoorProg
import Derived.Test.YtmeckdgigjjjbaaDoorMem
import Derived.Test.YtmeckdgigjjjbaaDoorU
namespace Go.Proofs.YtmeckdgigjjjbaaDoor
open Go Go.RowKit

theorem elemB : ElemT Tryd.prog 34 5 1 (.int .u8 0) 1 := ⟨Tryd.underlying34, info_parts (by kernel_rfl)⟩

theorem ret_bool {a b : Bool} (h : a = b) : Ending.returned (.bool a) = .returned (.bool b) := by rw [h]
theorem ret_int {k : IntKind} {a b : Int} (h : a = b) : Ending.returned (.int k a) = .returned (.int k b) := by rw [h]
end Go.Proofs.YtmeckdgigjjjbaaDoor
