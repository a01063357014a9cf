/- Matrices over the field of 256, as lists of rows: plain laws. Conditions: each law's own premises. -/
import Derived.Test.YtmeckdgigjjjbaaDoorGdot
namespace Go.Proofs.YtmeckdgigjjjbaaDoor
open Go Go.RowKit

abbrev Mx := List (List UInt8)
/-- The sum of the first n. -/
def XS : Nat → (Nat → UInt8) → UInt8
  | 0, _ => 0
  | k + 1, f => XS k f ^^^ f k
theorem XS_congr {f g : Nat → UInt8} : ∀ {n : Nat}, (∀ i, i < n → f i = g i) → XS n f = XS n g
  | 0, _ => rfl
  | k + 1, h => by show XS k f ^^^ f k = XS k g ^^^ g k; rw [XS_congr (fun i hi => h i (by omega)), h k (by omega)]
theorem XS_zero : ∀ n, XS n (fun _ => 0) = 0
  | 0 => rfl
  | k + 1 => by show XS k _ ^^^ 0 = 0; rw [XS_zero k]; rfl
theorem XS_xor (f g : Nat → UInt8) : ∀ n, XS n (fun i => f i ^^^ g i) = XS n f ^^^ XS n g
  | 0 => by show (0 : UInt8) = 0 ^^^ 0; decide
  | k + 1 => by
    show XS k _ ^^^ (f k ^^^ g k) = (XS k f ^^^ f k) ^^^ (XS k g ^^^ g k)
    rw [XS_xor f g k, x8_swap]
theorem XS_gm (c : UInt8) (f : Nat → UInt8) : ∀ n, gm c (XS n f) = XS n (fun i => gm c (f i))
  | 0 => gm_zero c
  | k + 1 => by
    show gm c (XS k f ^^^ f k) = XS k _ ^^^ gm c (f k)
    rw [gm_xor_right, XS_gm c f k]
theorem XS_gm' (c : UInt8) (f : Nat → UInt8) (n : Nat) : gm (XS n f) c = XS n (fun i => gm (f i) c) := by
  rw [gm_comm, XS_gm]
  exact XS_congr fun i _ => gm_comm _ _
theorem XS_swap (f : Nat → Nat → UInt8) (m : Nat) : ∀ n, XS n (fun i => XS m (fun j => f i j)) = XS m (fun j => XS n (fun i => f i j))
  | 0 => (XS_zero m).symm
  | k + 1 => by
    show XS k (fun i => XS m (fun j => f i j)) ^^^ XS m (fun j => f k j) = XS m (fun j => XS k (fun i => f i j) ^^^ f k j)
    rw [XS_swap f m k, XS_xor]
theorem XS_one {f : Nat → UInt8} {k : Nat} : ∀ {n : Nat}, k < n → (∀ i, i < n → i ≠ k → f i = 0) → XS n f = f k
  | 0, h, _ => by omega
  | n + 1, h, h0 => by
    show XS n f ^^^ f n = f k
    by_cases hk : k = n
    · subst hk
      have : XS k f = 0 := by
        rw [XS_congr (g := fun _ => 0) (fun i hi => h0 i (by omega) (by omega)), XS_zero]
      rw [this]
      exact UInt8.zero_xor
    · rw [h0 n (by omega) (by omega), XS_one (by omega) (fun i hi hne => h0 i (by omega) hne)]
      exact UInt8.xor_zero
theorem gdotK_XS (a b : List UInt8) : ∀ k, gdotK a b k = XS k (fun t => gm (a.getD t 0) (b.getD t 0))
  | 0 => rfl
  | k + 1 => by show gdotK a b k ^^^ _ = XS k _ ^^^ _; rw [gdotK_XS a b k]

/-- A number of a matrix. -/
def ent (A : Mx) (i j : Nat) : UInt8 := (A.getD i []).getD j 0
/-- How many numbers the first row has. -/
def wid (A : Mx) : Nat := (A.headD []).length
/-- Is it a matrix? -/
def IsM (A : Mx) : Prop := 1 ≤ A.length ∧ A.length ≤ 64 ∧ ∀ r ∈ A, r.length = wid A ∧ 1 ≤ r.length ∧ r.length ≤ 64
instance (A : Mx) : Decidable (IsM A) := by unfold IsM; infer_instance
def isMat (A : Mx) : Bool := decide (IsM A)
/-- A matrix of n rows of m numbers. -/
def Dim (A : Mx) (n m : Nat) : Prop := A.length = n ∧ ∀ r ∈ A, r.length = m
def colL (A : Mx) (j : Nat) : List UInt8 := A.map fun r => r.getD j 0
def mulL (A B : Mx) : Mx := A.map fun r => (List.range (wid B)).map fun j => gdot r (colL B j)
def unitL (n i : Nat) : List UInt8 := (List.replicate n 0).set i 1
def oneL (n : Nat) : Mx := (List.range n).map (unitL n)
/-- The product, or why there is none. -/
def mulR (A B : Mx) : Mx × Nat := if IsM A ∧ IsM B ∧ wid A = B.length then (mulL A B, 0) else ([], 1)
def oneR (n : Int) : Mx × Nat := if n < 1 ∨ 64 < n then ([], 1) else (oneL n.toNat, 0)

theorem IsM.dim {A : Mx} (h : IsM A) : Dim A A.length (wid A) := ⟨rfl, fun r hr => (h.2.2 r hr).1⟩
theorem IsM.wid1 {A : Mx} (h : IsM A) : 1 ≤ wid A ∧ wid A ≤ 64 := by
  cases A with
  | nil => have := h.1; simp at this
  | cons r A => have := h.2.2 r (by simp); exact this.2
theorem Dim.row {A : Mx} {n m i : Nat} (h : Dim A n m) (hi : i < n) : ∃ hl : i < A.length, (A[i]).length = m := ⟨by have := h.1; omega, h.2 _ (List.getElem_mem _)⟩
theorem Dim.wid {A : Mx} {n m : Nat} (h : Dim A n m) (hn : 1 ≤ n) : wid A = m := by
  cases A with
  | nil => have := h.1; simp at this; omega
  | cons r A => exact h.2 r (by simp)
theorem Dim.isM {A : Mx} {n m : Nat} (h : Dim A n m) (h1 : 1 ≤ n) (h2 : n ≤ 64) (h3 : 1 ≤ m) (h4 : m ≤ 64) : IsM A := by
  refine ⟨by have := h.1; omega, by have := h.1; omega, fun r hr => ?_⟩
  rw [h.wid h1]
  have := h.2 r hr
  omega
theorem ent_get {A : Mx} {i j : Nat} (hi : i < A.length) : ent A i j = (A[i]).getD j 0 := by unfold ent; rw [List.getD_eq_getElem?_getD (l := A), List.getElem?_eq_getElem hi]; rfl
theorem ent_get2 {A : Mx} {i j : Nat} (hi : i < A.length) (hj : j < (A[i]).length) : ent A i j = (A[i])[j] := by rw [ent_get hi, List.getD_eq_getElem?_getD, List.getElem?_eq_getElem hj]; rfl
/-- Matrices with the same numbers are the same. -/
theorem mx_ext {A B : Mx} {n m : Nat} (hA : Dim A n m) (hB : Dim B n m) (h : ∀ i j, i < n → j < m → ent A i j = ent B i j) : A = B := by
  apply List.ext_getElem
  · rw [hA.1, hB.1]
  · intro i h1 h2
    have a1 := hA.2 _ (List.getElem_mem h1)
    have b1 := hB.2 _ (List.getElem_mem h2)
    apply List.ext_getElem
    · rw [a1, b1]
    · intro j h3 h4
      have := h i j (by have := hA.1; omega) (by omega)
      rw [ent_get2 h1 h3, ent_get2 h2 h4] at this
      exact this
theorem colL_length (A : Mx) (j : Nat) : (colL A j).length = A.length := by simp [colL]
theorem colL_get (A : Mx) (j i : Nat) : (colL A j).getD i 0 = ent A i j := by
  unfold colL ent
  by_cases h : i < A.length
  · rw [List.getD_eq_getElem?_getD, List.getD_eq_getElem?_getD (l := A), List.getElem?_map, List.getElem?_eq_getElem h]; rfl
  · rw [List.getD_eq_getElem?_getD, List.getD_eq_getElem?_getD (l := A), List.getElem?_map, List.getElem?_eq_none (by omega)]; simp
theorem mulL_dim {A B : Mx} {n : Nat} (hA : A.length = n) : Dim (mulL A B) n (wid B) := by
  refine ⟨by simp [mulL, hA], fun r hr => ?_⟩
  unfold mulL at hr
  obtain ⟨x, _, rfl⟩ := List.mem_map.1 hr
  simp
theorem mulL_ent {A B : Mx} {n m : Nat} (hA : Dim A n m) {i j : Nat} (hi : i < n) (hj : j < wid B) : ent (mulL A B) i j = XS m (fun t => gm (ent A i t) (ent B t j)) := by
  obtain ⟨hl, hm⟩ := hA.row hi
  have h1 : i < (mulL A B).length := by simp [mulL]; exact hl
  rw [ent_get h1]
  have e : (mulL A B)[i] = (List.range (wid B)).map fun j => gdot (A[i]) (colL B j) := by simp [mulL]
  rw [e, List.getD_eq_getElem?_getD, List.getElem?_map, List.getElem?_range hj]
  show gdot (A[i]) (colL B j) = _
  unfold gdot
  rw [gdotK_XS, hm]
  exact XS_congr fun t _ => by rw [colL_get, ent_get hl]
/-- Products may be joined. -/
theorem mulL_assoc {A B C : Mx} {n m k l : Nat} (hA : Dim A n m) (hB : Dim B m k) (hC : Dim C k l) (hm : 1 ≤ m) (hk : 1 ≤ k) : mulL (mulL A B) C = mulL A (mulL B C) := by
  have wB := hB.wid hm
  have wC := hC.wid hk
  have dAB : Dim (mulL A B) n k := by have := mulL_dim (A := A) (B := B) hA.1; rwa [wB] at this
  have dBC : Dim (mulL B C) m l := by have := mulL_dim (A := B) (B := C) hB.1; rwa [wC] at this
  have wBC := dBC.wid hm
  have d1 : Dim (mulL (mulL A B) C) n l := by have := mulL_dim (A := mulL A B) (B := C) dAB.1; rwa [wC] at this
  have d2 : Dim (mulL A (mulL B C)) n l := by have := mulL_dim (A := A) (B := mulL B C) hA.1; rwa [wBC] at this
  refine mx_ext d1 d2 fun i j hi hj => ?_
  rw [mulL_ent dAB hi (by rw [wC]; exact hj), mulL_ent hA hi (by rw [wBC]; exact hj)]
  rw [XS_congr (g := fun t => XS m (fun s => gm (gm (ent A i s) (ent B s t)) (ent C t j))) (fun t ht => by rw [mulL_ent hA hi (by rw [wB]; exact ht), XS_gm'])]
  rw [XS_congr (n := m) (g := fun s => XS k (fun t => gm (gm (ent A i s) (ent B s t)) (ent C t j))) (fun s hs => by
    rw [mulL_ent hB hs (by rw [wC]; exact hj), XS_gm]
    exact XS_congr fun t _ => gm_assoc _ _ _)]
  exact XS_swap _ m k

theorem unitL_length (n i : Nat) : (unitL n i).length = n := by simp [unitL]
theorem unitL_get {n i j : Nat} (hj : j < n) : (unitL n i).getD j 0 = if i = j then 1 else 0 := by
  unfold unitL
  rw [List.getD_eq_getElem?_getD, List.getElem?_set]
  by_cases h : i = j
  · subst h; simp [hj]
  · simp [h]
    rw [List.getElem?_replicate]
    simp [hj]
theorem oneL_dim (n : Nat) : Dim (oneL n) n n := by
  refine ⟨by simp [oneL], fun r hr => ?_⟩
  unfold oneL at hr
  obtain ⟨i, _, rfl⟩ := List.mem_map.1 hr
  exact unitL_length n i
theorem oneL_ent {n i j : Nat} (hi : i < n) (hj : j < n) : ent (oneL n) i j = if i = j then 1 else 0 := by
  have hl : i < (oneL n).length := by simp [oneL]; exact hi
  rw [ent_get hl]
  have e : (oneL n)[i] = unitL n i := by simp [oneL]
  rw [e, unitL_get hj]
theorem one_mulL {A : Mx} {n m : Nat} (hA : Dim A n m) (hn : 1 ≤ n) : mulL (oneL n) A = A := by
  have wA := hA.wid hn
  have d1 : Dim (mulL (oneL n) A) n m := by have := mulL_dim (A := oneL n) (B := A) (oneL_dim n).1; rwa [wA] at this
  refine mx_ext d1 hA fun i j hi hj => ?_
  rw [mulL_ent (oneL_dim n) hi (by rw [wA]; exact hj), XS_one hi]
  · rw [oneL_ent hi hi, if_pos rfl, one_gm]
  · intro t ht hne
    rw [oneL_ent hi ht, if_neg (fun h => hne h.symm), zero_gm]
theorem mulL_one {A : Mx} {n m : Nat} (hA : Dim A n m) (hm : 1 ≤ m) : mulL A (oneL m) = A := by
  have wO := (oneL_dim m).wid hm
  have d1 : Dim (mulL A (oneL m)) n m := by have := mulL_dim (A := A) (B := oneL m) hA.1; rwa [wO] at this
  refine mx_ext d1 hA fun i j hi hj => ?_
  rw [mulL_ent hA hi (by rw [wO]; exact hj), XS_one hj]
  · rw [oneL_ent hj hj, if_pos rfl, gm_one]
  · intro t ht hne
    rw [oneL_ent ht hj, if_neg hne, gm_zero]

/-- The law's great: more than is looked at? -/
def greatK (A : Mx) : Nat → Nat
  | 0 => 0
  | k + 1 => greatK A k + 1 + (A.getD k []).length
theorem greatK_mono (A : Mx) {i j : Nat} (h : i ≤ j) : greatK A i ≤ greatK A j := by
  induction j with
  | zero => have : i = 0 := by omega
            subst this; exact Nat.le_refl _
  | succ j ih =>
    rcases Nat.lt_or_ge i (j + 1) with h1 | h1
    · have := ih (by omega)
      show _ ≤ greatK A j + 1 + _
      omega
    · have : i = j + 1 := by omega
      subst this; exact Nat.le_refl _
def great (most : Nat) (A : Mx) : Bool := decide (most < greatK A A.length)
end Go.Proofs.YtmeckdgigjjjbaaDoor
