/- The document's Get64: the contract. Conditions: its own premises. -/
import Derived.Test.YtlahcdkhpekefaaGet0
import Derived.Test.YtlahcdkhpekefaaGetL
import Derived.Test.YtlahcdkhpekefaaSlice
namespace Go.Proofs.Ytlahcdkhpekefaa
open Go Go.RowKit

theorem getN_app (l m : List UInt8) : getN (l ++ m) = getN l * 256 ^ m.length + getN m := by
  unfold getN; rw [List.foldl_append]; exact getN_foldl m _
theorem get8_int (a b : Nat) (ha : a < 4294967296) (hb : b < 4294967296) : bits BinOp.or IntKind.u64 ((a : Int) * 4294967296) (b : Int) = ((a * 4294967296 + b : Nat) : Int) := by
  have e : ((a : Int) * 4294967296) = ((a * 4294967296 : Nat) : Int) := by rw [Int.natCast_mul]; rfl
  rw [e, u64_or_nat _ _ (by omega) (by omega), Nat.mul_comm a, show (4294967296 : Nat) = 2 ^ 32 from rfl, ← Nat.two_pow_add_eq_or_of_lt hb]

set_option maxRecDepth 100000 in
set_option maxHeartbeats 1000000 in
/-- The document's Get64. -/
theorem refGet64_any (w : World) (b o c : Nat) (l : List UInt8) (hr : Rd w (some ⟨b, o, none⟩) c (B8 l)) (h8 : 8 ≤ l.length) :
    Calls Try.prog 31 #[.slice (some ⟨b, o, none⟩) l.length c] w fun e w' => e = .returned (.int .u64 (getN (l.take 8) : Nat)) ∧ Qt w w' := by
  have hl := hr.le
  have hcap := hr.1
  rw [B8_length] at hl hcap
  have C1 := fun n => refGet32_any (w.drewN n) _ c l (hr.drewN n) (by omega)
  have C2 := fun n => refGet32_any (w.drewN n) _ (c - 4) (l.drop 4) ((rd8_drop hr 4 (by omega)).drewN n) (by rw [List.length_drop]; omega)
  obtain ⟨x, hx⟩ : ∃ x, x = getN (l.take 4) := ⟨_, rfl⟩
  obtain ⟨y, hy⟩ : ∃ y, y = getN ((l.drop 4).take 4) := ⟨_, rfl⟩
  have hx4 : x < 4294967296 := by rw [hx]; exact getN_lt4 l (by omega)
  have hy4 : y < 4294967296 := by rw [hy]; exact getN_lt4 _ (by rw [List.length_drop]; omega)
  have hres : getN (l.take 8) = x * 4294967296 + y := by
    rw [show (8 : Nat) = 4 + 4 from rfl, List.take_add, getN_app, ← hx, ← hy, List.length_take, List.length_drop, Nat.min_eq_left (by omega)]
  rw [← hx] at C1
  simp only [List.length_drop] at C2
  rw [← hy] at C2
  have hor := get8_int x y hx4 hy4
  rw [hres]
  have H1 := Lib.hid C1
  have H2 := Lib.hid C2
  have HOR := Lib.hid hor
  have hi : (4 : Int) ≤ (l.length : Int) := by omega
  have hc4 : ¬ c = 4 := by omega
  have hxi : (x : Int) < 4294967296 := by omega
  have hyi : (y : Int) < 4294967296 := by omega
  have hwx : IntKind.u64.wrap (x : Int) = (x : Int) := IntWalk.u64_in _ (by omega)
  have hwy : IntKind.u64.wrap (y : Int) = (y : Int) := IntWalk.u64_in _ (by omega)
  clear C1 C2 hx hy hres hr hor
  go_enter Try.func31, Try.ntmps31
  go_wp2
  go_quiet ((go_at_call 30; first | (with_reducible exact Calls.quiet_of (H1.out _)) | (with_reducible exact Calls.quiet_of (H2.out _))))
  go_wp2
  go_ret
  exact ⟨ret_int HOR.out, _, rfl⟩
end Go.Proofs.Ytlahcdkhpekefaa
