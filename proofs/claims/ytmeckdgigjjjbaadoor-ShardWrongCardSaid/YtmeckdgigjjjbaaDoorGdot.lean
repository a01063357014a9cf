/- Sums of products, plainly. Conditions: none. -/
import Derived.Test.YtmeckdgigjjjbaaDoorGfRef
namespace Go.Proofs.YtmeckdgigjjjbaaDoor
open Go Go.RowKit

theorem elemG : ElemT Tryd.prog 34 5 1 (.int .u8 0) 1 := ⟨Tryd.underlying34, info_parts (by kernel_rfl)⟩

/-- The sum of the first k products. -/
def gdotK (a b : List UInt8) : Nat → UInt8
  | 0 => 0
  | k + 1 => gdotK a b k ^^^ gm (a.getD k 0) (b.getD k 0)
def gdot (a b : List UInt8) : UInt8 := gdotK a b a.length
/-- The two results of Dot. -/
def dotV (a b : List UInt8) : Value := if a.length = b.length then .tuple #[.int .u8 (gdot a b).toNat, .int .i64 0] else .tuple #[.int .u8 0, .int .i64 1]
theorem getD_lt {a : List UInt8} {k : Nat} (h : k < a.length) : a.getD k 0 = a[k] := by rw [List.getD_eq_getElem?_getD, List.getElem?_eq_getElem h]; rfl

end Go.Proofs.YtmeckdgigjjjbaaDoor
