/- Rows added: plain laws. Conditions: each law's own premises. -/
import Derived.Test.YtmeckdgigjjjbaaShardL
namespace Go.Proofs.Ytmeckdgigjjjbaa
open Go Go.RowKit

def addM (A B : Mx) : Mx := List.zipWith gadd A B
theorem gadd_len {a b : List UInt8} (h : a.length = b.length) : (gadd a b).length = a.length := by unfold gadd; rw [List.length_zipWith, h, Nat.min_self]
theorem addM_length {A B : Mx} (h : A.length = B.length) : (addM A B).length = A.length := by unfold addM; rw [List.length_zipWith, h, Nat.min_self]
/-- Rows of the same lengths. -/
def SameR (A B : Mx) : Prop := A.length = B.length ∧ ∀ i (h1 : i < A.length) (h2 : i < B.length), (A[i]).length = (B[i]).length
theorem addM_get {A B : Mx} (i : Nat) (h1 : i < A.length) (h2 : i < B.length) (h : i < (addM A B).length) : (addM A B)[i] = gadd (A[i]) (B[i]) := by simp [addM]
theorem SameR.wid {A B : Mx} (h : SameR A B) : wid A = wid B := by
  obtain ⟨h1, h2⟩ := h
  by_cases h0 : 0 < A.length
  · rw [wid_at h0, wid_at (by omega)]; exact h2 0 h0 (by omega)
  · have e1 : A = [] := List.eq_nil_of_length_eq_zero (by omega)
    have e2 : B = [] := List.eq_nil_of_length_eq_zero (by omega)
    rw [e1, e2]
theorem SameR.add {A B : Mx} (h : SameR A B) : SameR A (addM A B) :=
  ⟨(addM_length h.1).symm, fun i h1 h2 => by rw [addM_get i h1 (by have := h.1; omega), gadd_len (h.2 i h1 (by have := h.1; omega))]⟩
theorem SameR.alls {A B : Mx} (h : SameR A B) (hA : allN A = true) : allN B = true := by
  rw [allN_iff] at hA ⊢
  intro r hr
  obtain ⟨i, hi, rfl⟩ := List.mem_iff_getElem.1 hr
  have := hA (A[i]'(by have := h.1; omega)) (List.getElem_mem _)
  rw [← h.wid, ← h.2 i (by have := h.1; omega) hi]
  exact this
theorem SameR.symm {A B : Mx} (h : SameR A B) : SameR B A := ⟨h.1.symm, fun i h1 h2 => (h.2 i h2 h1).symm⟩
theorem SameR.alls_eq {A B : Mx} (h : SameR A B) : allN A = allN B := by
  rw [Bool.eq_iff_iff]; exact ⟨h.alls, h.symm.alls⟩

theorem blendL_get (c : List UInt8) (D : Mx) (x : Nat) (h : x < (blendL c D).length) : (blendL c D)[x] = XS D.length fun t => gm (c.getD t 0) (ent D t x) := by simp [blendL, blendK]
theorem blend_add {A B : Mx} (h : SameR A B) (hA : ∀ r ∈ A, r.length = wid A) (c : List UInt8) (x : Nat) (hx : x < wid A) (h1 : x < (blendL c (addM A B)).length) (h2 : x < (blendL c A).length) (h3 : x < (blendL c B).length) :
    (blendL c (addM A B))[x] = (blendL c A)[x] ^^^ (blendL c B)[x] := by
  rw [blendL_get, blendL_get, blendL_get, addM_length h.1, ← h.1, ← XS_xor]
  apply XS_congr
  intro t ht
  have hr := hA (A[t]) (List.getElem_mem ht)
  have htb : t < B.length := by have := h.1; omega
  have hl := h.2 t ht htb
  have hta : t < (addM A B).length := by rw [addM_length h.1]; exact ht
  rw [ent_get2 ht (by omega), ent_get2 htb (by omega), ent_get2 hta (by rw [addM_get t ht htb, gadd_len hl]; omega), ← gm_xor_right]
  congr 1
  simp only [addM_get t ht htb]
  simp [gadd]

/-- What the sums of rows added are. -/
theorem sums_add {A B : Mx} (h : SameR A B) (m : Int) : ∃ E : Nat, (sumsR A m).2 = E ∧ (sumsR B m).2 = E ∧ (sumsR (addM A B) m).2 = E ∧
    (E = 0 → (sumsR B m).1.length = (sumsR A m).1.length ∧ (sumsR (addM A B) m).1.length = (sumsR A m).1.length ∧
      ∀ i (h1 : i < (sumsR A m).1.length) (h2 : i < (sumsR B m).1.length) (h3 : i < (sumsR (addM A B) m).1.length), ((sumsR B m).1[i]).length = ((sumsR A m).1[i]).length ∧ ((sumsR (addM A B) m).1[i]).length = ((sumsR A m).1[i]).length ∧
        ∀ x (g1 : x < ((sumsR A m).1[i]).length) (g2 : x < ((sumsR B m).1[i]).length) (g3 : x < ((sumsR (addM A B) m).1[i]).length), (sumsR (addM A B) m).1[i][x] = (sumsR A m).1[i][x] ^^^ (sumsR B m).1[i][x]) := by
  have hl : (addM A B).length = A.length := addM_length h.1
  have a1 := h.alls_eq
  have a2 := h.add.alls_eq
  unfold sumsR
  rw [hl, ← h.1, ← a1, ← a2]
  cases hb : codeBad A.length m with
  | true =>
    refine ⟨1, ?_⟩
    simp
  | false =>
    cases hA : allN A with
    | false => refine ⟨1, ?_⟩; simp
    | true =>
      have hr := (allN_iff A).1 hA
      refine ⟨0, by simp, by simp, by simp, fun _ => ?_⟩
      simp only [Bool.false_eq_true, if_false, if_true]
      refine ⟨by simp [timesL], by simp [timesL], ?_⟩
      intro i h1 h2 h3
      have hi : i < m.toNat := by simpa [timesL] using h1
      have wA := h.wid
      have wC := h.add.wid
      have e : ∀ (D : Mx) (hd : i < (timesL ((List.range m.toNat).map (codeRow A.length)) D).length), (timesL ((List.range m.toNat).map (codeRow A.length)) D)[i] = blendL (codeRow A.length i) D := by
        intro D hd; simp [timesL]
      simp only [e]
      refine ⟨by rw [blendL_length, blendL_length, wA], by rw [blendL_length, blendL_length, wC], ?_⟩
      intro x g1 g2 g3
      exact blend_add h (fun r hr' => (hr r hr').2) _ x (by rw [blendL_length] at g1; exact g1) g3 g1 g2
end Go.Proofs.Ytmeckdgigjjjbaa
