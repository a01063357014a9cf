/- Rows of sums: plain laws. Conditions: each law's own premises. -/
import Derived.Test.YtmeckdgigjjjbaaDoorMatCode
import Derived.Test.YtmeckdgigjjjbaaDoorGfSc
namespace Go.Proofs.YtmeckdgigjjjbaaDoor
open Go Go.RowKit

/-- The sum of the first j rows of n bytes, each times its number. -/
def blendK (c : List UInt8) (D : Mx) (n j : Nat) : List UInt8 := (List.range n).map fun x => XS j fun t => gm (c.getD t 0) (ent D t x)
def blendL (c : List UInt8) (D : Mx) : List UInt8 := blendK c D (wid D) D.length
def timesL (C D : Mx) : Mx := C.map fun c => blendL c D
def allN (D : Mx) : Bool := decide (∀ r ∈ D, r.length ≠ 0 ∧ r.length = wid D)
/-- The rows of sums, or why there are none. -/
def sumsR (D : Mx) (m : Int) : Mx × Nat := if codeBad D.length m = true then ([], 1) else if allN D = true then (timesL ((List.range m.toNat).map (codeRow D.length)) D, 0) else ([], 1)

theorem blendK_length (c : List UInt8) (D : Mx) (n j : Nat) : (blendK c D n j).length = n := by simp [blendK]
theorem blendK_zero (c : List UInt8) (D : Mx) (n : Nat) : blendK c D n 0 = List.replicate n 0 := by
  apply List.ext_getElem
  · simp [blendK]
  · intro i h1 h2; simp [blendK, XS]
theorem blendK_get (c : List UInt8) (D : Mx) (n j x : Nat) (h : x < (blendK c D n j).length) : (blendK c D n j)[x] = XS j fun t => gm (c.getD t 0) (ent D t x) := by simp [blendK]
theorem blendK_succ (c : List UInt8) (D : Mx) (n j : Nat) (hj : j < D.length) (hl : (D[j]).length = n) : gadd (blendK c D n j) ((D[j]).map (gm · (c.getD j 0))) = blendK c D n (j + 1) := by
  unfold gadd
  apply List.ext_getElem
  · simp [blendK, hl]
  · intro x h1 h2
    rw [List.getElem_zipWith, blendK_get, blendK_get]
    rw [blendK_length] at h2
    show _ = XS j _ ^^^ gm (c.getD j 0) (ent D j x)
    rw [List.getElem_map, gm_comm, ent_get2 hj (by omega)]
theorem blendL_length (c : List UInt8) (D : Mx) : (blendL c D).length = wid D := blendK_length _ _ _ _
theorem timesL_length (C D : Mx) : (timesL C D).length = C.length := by simp [timesL]
theorem timesL_take (C D : Mx) (i : Nat) (hi : i < C.length) : timesL (C.take (i + 1)) D = timesL (C.take i) D ++ [blendL (C[i]) D] := by
  rw [List.take_succ_eq_append_getElem hi]
  unfold timesL
  rw [List.map_append]
  rfl
theorem codeL_drop (k m : Nat) : (codeL k m).drop k = (List.range m).map (codeRow k) := by
  unfold codeL
  exact List.drop_left' (oneL_dim k).1
theorem codeL_length (k m : Nat) : (codeL k m).length = k + m := by unfold codeL; simp [(oneL_dim k).1]
theorem codeL_dim (k m : Nat) : Dim (codeL k m) (k + m) k := by
  refine ⟨codeL_length k m, fun r hr => ?_⟩
  unfold codeL at hr
  rcases List.mem_append.1 hr with h | h
  · exact (oneL_dim k).2 r h
  · obtain ⟨i, _, rfl⟩ := List.mem_map.1 h
    exact codeRow_length k i
theorem allN_iff (D : Mx) : allN D = true ↔ ∀ r ∈ D, r.length ≠ 0 ∧ r.length = wid D := decide_eq_true_iff
theorem wid_at {D : Mx} (h : 0 < D.length) : wid D = (D[0]).length := by
  cases D with
  | nil => simp at h
  | cons r D => rfl
end Go.Proofs.YtmeckdgigjjjbaaDoor
