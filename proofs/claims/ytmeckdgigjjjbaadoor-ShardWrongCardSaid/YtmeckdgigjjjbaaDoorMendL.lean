/- Rows that can be lost, plain: what is brought back. Conditions: each law's own premises. -/
import Derived.Test.YtmeckdgigjjjbaaDoorInvL
import Derived.Test.YtmeckdgigjjjbaaDoorCauchy
import Derived.Test.YtmeckdgigjjjbaaDoorShardL
namespace Go.Proofs.YtmeckdgigjjjbaaDoor
open Go Go.RowKit

theorem timesL_mulL {C D : Mx} {n k : Nat} (hC : Dim C n k) (hD : D.length = k) : timesL C D = mulL C D := by
  unfold timesL mulL
  apply List.map_congr_left
  intro r hr
  have hl := hC.2 r hr
  unfold blendL blendK
  apply List.map_congr_left
  intro x _
  unfold gdot
  rw [gdotK_XS, hl, hD]
  exact XS_congr fun t _ => by rw [colL_get]
theorem Dim.times {C D : Mx} {n k s : Nat} (hC : Dim C n k) (hD : Dim D k s) (hk : 1 ≤ k) : Dim (timesL C D) n s := by
  rw [timesL_mulL hC hD.1]
  have := mulL_dim (A := C) (B := D) hC.1
  rwa [hD.wid hk] at this

/-- The elimination goes on to the end, or there are numbers that are sent to nothing. -/
theorem gs_exists {n : Nat} (A : Fn2) : ∀ j, j ≤ n → Flat n A ∨ ∃ w, Gs n A w (fun c => c) j
  | 0, _ => .inr ⟨aug n A, Gs.start n A _ _ (fun _ _ _ _ => rfl)⟩
  | j + 1, hj => by
    rcases gs_exists (n := n) A j (by omega) with h | ⟨w, h⟩
    · exact .inl h
    · by_cases hp : ∃ p, j ≤ p ∧ p < n ∧ w p j ≠ 0
      · obtain ⟨p, h1, h2, h3⟩ := hp
        have hs := h.swap (fun c _ => rfl) (show j < n by omega) h2 h1
        have hd : swapF w p j j j ≠ 0 := by
          unfold swapF
          by_cases e : j = p
          · rw [if_pos e]; subst e; exact h3
          · rw [if_neg e, if_pos rfl]; exact h3
        refine .inr ⟨_, (hs.step (p := j) (show j < n by omega) (show j < n by omega) (fun c hc e => by have e' : c = j := e; omega) hd).congr (by omega) (fun _ _ _ _ => rfl) (fun c hc => ?_)⟩
        by_cases e : c = j
        · rw [if_pos e]; exact e
        · rw [if_neg e]
      · exact .inl (h.flat (by omega) fun i hi hno => Classical.byContradiction fun hne => hp ⟨i, Classical.byContradiction fun hlt => hno i (by omega) rfl, hi, hne⟩)
/-- A matrix of numbers. -/
def mkM (n m : Nat) (f : Fn2) : Mx := (List.range n).map fun i => (List.range m).map fun c => f i c
theorem mkM_dim (n m : Nat) (f : Fn2) : Dim (mkM n m f) n m := by
  refine ⟨by simp [mkM], fun r hr => ?_⟩
  obtain ⟨i, _, rfl⟩ := List.mem_map.1 hr
  simp
theorem mkM_ent {n m : Nat} (f : Fn2) {i c : Nat} (hi : i < n) (hc : c < m) : ent (mkM n m f) i c = f i c := by
  unfold ent mkM
  rw [List.getD_eq_getElem?_getD (l := List.map _ _), List.getElem?_map, List.getElem?_range hi]
  show ((List.range m).map fun c => f i c).getD c 0 = _
  rw [List.getD_eq_getElem?_getD, List.getElem?_map, List.getElem?_range hc]
  rfl
theorem reg_inv {A : Mx} {n : Nat} (hA : Dim A n n) (hn : 1 ≤ n) (hf : ¬ Flat n (ent A)) : ∃ C, Undo A C ∧ mulL A C = oneL n := by
  rcases gs_exists (ent A) n (Nat.le_refl _) with h | ⟨w, h⟩
  · exact absurd h hf
  · refine ⟨mkM n n (fun c t => w c (n + t)), undo_of hA hn (mkM_dim _ _ _) (fun x c hc => ?_), undo_right hA hn (mkM_dim _ _ _) (fun y i hi => ?_)⟩
    · rw [← h.left x c hc]
      exact XS_congr fun t ht => by rw [mkM_ent _ hc ht]
    · rw [← h.right (fun c _ => rfl) y i hi]
      exact XS_congr fun c hc => by
        congr 1
        exact XS_congr fun t ht => by rw [mkM_ent _ hc ht]
/-- What undoes a matrix undoes it either way. -/
theorem undo_rt {A B : Mx} {n : Nat} (hA : Dim A n n) (hn : 1 ≤ n) (h : Undo A B) : mulL A B = oneL n := by
  obtain ⟨C, hC, hr⟩ := reg_inv hA hn (undo_flat hA hn h)
  have h1 := hC.1
  rw [hA.1] at h1
  rw [undo_eq hA hn h h1 hr, hr]
theorem undo_one {A B C : Mx} {n : Nat} (hA : Dim A n n) (hn : 1 ≤ n) (h : Undo A B) (h' : Undo A C) : B = C := by
  have h1 := h'.1
  rw [hA.1] at h1
  exact undo_eq hA hn h h1 (undo_rt hA hn h')
open Classical in
/-- The inverse. -/
noncomputable def invM (A : Mx) : Mx := if h : ∃ C, Undo A C then Classical.choose h else []
theorem invM_undo {A B : Mx} (h : Undo A B) : Undo A (invM A) := by
  have hex : ∃ C, Undo A C := ⟨B, h⟩
  unfold invM
  rw [dif_pos hex]
  exact Classical.choose_spec hex
theorem invM_eq {A B : Mx} {n : Nat} (hA : Dim A n n) (hn : 1 ≤ n) (h : Undo A B) : B = invM A := undo_one hA hn h (invM_undo h)

/-! ### Shards -/
def rowsOf (L : Mx) (R : List Nat) : Mx := R.map fun r => L.getD r []
theorem rowsOf_length (L : Mx) (R : List Nat) : (rowsOf L R).length = R.length := by simp [rowsOf]
/-- Rows that are picked: k of them, no two the same, of the code's. -/
structure PickOk (k m : Nat) (R : List Nat) : Prop where
  nodup : R.Nodup
  len : R.length = k
  lt : ∀ r ∈ R, r < k + m
theorem PickOk.dim {k m : Nat} {R : List Nat} (h : PickOk k m R) : Dim (pickM k m R) k k := by
  have := pickM_dim (k := k) (m := m) h.lt
  rwa [h.len] at this
theorem PickOk.undo {k m : Nat} {R : List Nat} (h : PickOk k m R) (hk : 1 ≤ k) (hkm : k + m ≤ 14) : Undo (pickM k m R) (invM (pickM k m R)) := by
  obtain ⟨C, hC, _⟩ := reg_inv h.dim hk (fun hf => code_reg h.nodup h.len h.lt hkm hf)
  exact invM_undo hC
/-- All rows, brought back by those that are picked. -/
noncomputable def mendF (k m : Nat) (L : Mx) (R : List Nat) : Mx := timesL (codeL k m) (timesL (invM (pickM k m R)) (rowsOf L R))
theorem timesL_get (C D : Mx) (i : Nat) (c : List UInt8) (h : C[i]? = some c) : (timesL C D)[i]? = some (blendL c D) := by unfold timesL; rw [List.getElem?_map, h]; rfl
theorem code_get {k m r : Nat} (h : r < k + m) : (codeL k m)[r]? = some ((codeL k m).getD r []) := by
  rw [List.getD_eq_getElem?_getD, List.getElem?_eq_getElem (by rw [codeL_length]; exact h)]; rfl
/-- Rows of a code's word are the picked matrix' rows with the data. -/
theorem rows_word {k m : Nat} {L D : Mx} {R : List Nat} (hR : PickOk k m R) (h : ∀ r ∈ R, L.getD r [] = (timesL (codeL k m) D).getD r []) : rowsOf L R = timesL (pickM k m R) D := by
  unfold rowsOf timesL pickM
  rw [List.map_map]
  apply List.map_congr_left
  intro r hr
  rw [h r hr, List.getD_eq_getElem?_getD, timesL_get _ _ _ _ (code_get (hR.lt r hr))]
  rfl
theorem undo_dim {A B : Mx} {n : Nat} (hA : Dim A n n) (h : Undo A B) : Dim B n n := by have := h.1; rwa [hA.1] at this
/-- A code's word is brought back whole. -/
theorem mend_word {k m s : Nat} {L D : Mx} {R : List Nat} (hk : 1 ≤ k) (hkm : k + m ≤ 14) (hR : PickOk k m R) (hD : Dim D k s) (h : ∀ r ∈ R, L.getD r [] = (timesL (codeL k m) D).getD r []) :
    mendF k m L R = timesL (codeL k m) D := by
  have hu := hR.undo hk hkm
  have hP := hR.dim
  have hB := undo_dim hP hu
  unfold mendF
  congr 1
  rw [rows_word hR h, timesL_mulL hP hD.1]
  have d1 : Dim (mulL (pickM k m R) D) k s := by have := mulL_dim (A := pickM k m R) (B := D) hP.1; rwa [hD.wid hk] at this
  rw [timesL_mulL hB d1.1, ← mulL_assoc hB hP hD hk hk, show mulL (invM (pickM k m R)) (pickM k m R) = oneL k by have := hu.2; rwa [hP.1] at this, one_mulL hD hk]
theorem mend_dim {k m s : Nat} {L : Mx} {R : List Nat} (hk : 1 ≤ k) (hkm : k + m ≤ 14) (hR : PickOk k m R) (hH : Dim (rowsOf L R) k s) :
    ∃ D, Dim D k s ∧ mendF k m L R = timesL (codeL k m) D ∧ timesL (pickM k m R) D = rowsOf L R := by
  have hu := hR.undo hk hkm
  have hP := hR.dim
  have hB := undo_dim hP hu
  have d1 : Dim (timesL (invM (pickM k m R)) (rowsOf L R)) k s := hB.times hH hk
  refine ⟨_, d1, rfl, ?_⟩
  rw [timesL_mulL hP d1.1, timesL_mulL hB hH.1, ← mulL_assoc hP hB hH hk hk, undo_rt hP hk hu, one_mulL hH hk]
/-- The rows that were picked stand as they were. -/
theorem mend_keeps {k m s : Nat} {L : Mx} {R : List Nat} (hk : 1 ≤ k) (hkm : k + m ≤ 14) (hR : PickOk k m R) (hH : Dim (rowsOf L R) k s) :
    ∀ r ∈ R, (mendF k m L R).getD r [] = L.getD r [] := by
  obtain ⟨D, _, h2, h3⟩ := mend_dim hk hkm hR hH
  intro r hr
  obtain ⟨i, hi, rfl⟩ := List.mem_iff_getElem.1 hr
  rw [h2, List.getD_eq_getElem?_getD, timesL_get _ _ _ _ (code_get (hR.lt _ hr))]
  have h4 : (timesL (pickM k m R) D)[i]? = some (blendL ((codeL k m).getD R[i] []) D) := timesL_get _ _ _ _ (by unfold pickM; rw [List.getElem?_map, List.getElem?_eq_getElem hi]; rfl)
  have h5 : (rowsOf L R)[i]? = some (L.getD R[i] []) := by unfold rowsOf; rw [List.getElem?_map, List.getElem?_eq_getElem hi]; rfl
  rw [h3, h5] at h4
  exact (Option.some.inj h4).symm
/-- Two words that are the same at k rows are the same. -/
theorem word_same {k m s t : Nat} {D E : Mx} {R : List Nat} (hk : 1 ≤ k) (hkm : k + m ≤ 14) (hR : PickOk k m R) (hD : Dim D k s) (hE : Dim E k t) (h : ∀ r ∈ R, (timesL (codeL k m) D).getD r [] = (timesL (codeL k m) E).getD r []) :
    timesL (codeL k m) D = timesL (codeL k m) E := by
  rw [← mend_word (L := timesL (codeL k m) D) hk hkm hR hD (fun _ _ => rfl), ← mend_word (L := timesL (codeL k m) D) hk hkm hR hE h]
/-- The first k of a set. -/
def firstK (th : Nat → Bool) (k N : Nat) : List Nat := ((List.range N).filter th).take k
theorem firstK_ok {th : Nat → Bool} {k m : Nat} (h : k ≤ ((List.range (k + m)).filter th).length) : PickOk k m (firstK th k (k + m)) := by
  refine ⟨List.Pairwise.sublist (List.take_sublist _ _) (List.Pairwise.filter _ List.nodup_range), by unfold firstK; rw [List.length_take]; omega, fun r hr => ?_⟩
  have := List.mem_of_mem_take hr
  exact List.mem_range.1 (List.mem_filter.1 this).1
theorem firstK_mem {th : Nat → Bool} {k N r : Nat} (h : r ∈ firstK th k N) : th r = true ∧ r < N := by
  have := List.mem_filter.1 (List.mem_of_mem_take h)
  exact ⟨this.2, List.mem_range.1 this.1⟩
end Go.Proofs.YtmeckdgigjjjbaaDoor
