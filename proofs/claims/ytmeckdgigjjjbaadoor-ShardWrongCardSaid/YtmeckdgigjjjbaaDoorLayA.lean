/- Rows that are lost, rows that are changed: plain laws. Rows that a law lays out by appends. Conditions: each law's own premises. -/
import Derived.Test.YtmeckdgigjjjbaaDoorShardP
import Derived.Test.YtmeckdgigjjjbaaDoorRefWr
import Derived.Test.YtmeckdgigjjjbaaDoorShardLaw
import Derived.Test.YtmeckdgigjjjbaaDoorIdx
namespace Go.Proofs.YtmeckdgigjjjbaaDoor
open Go Go.RowKit

/-! ### How many are left -/
def outT (J : List Nat) : Nat → Bool := fun r => !decide (r ∈ J)
theorem strike_one {a : Nat} : ∀ {l : List Nat}, l.Nodup → l.length ≤ (l.filter (fun r => decide (r ≠ a))).length + 1 ∧ (a ∈ l → (l.filter (fun r => decide (r ≠ a))).length + 1 = l.length)
  | [], _ => ⟨by simp, fun h => by simp at h⟩
  | b :: l, h => by
    obtain ⟨h1, h2⟩ := List.nodup_cons.1 h
    obtain ⟨i1, i2⟩ := strike_one (a := a) h2
    by_cases e : b = a
    · subst e
      have hn : l.filter (fun r => decide (r ≠ b)) = l := List.filter_eq_self.2 fun r hr => by simpa using fun (e : r = b) => h1 (e ▸ hr)
      rw [List.filter_cons_of_neg (by simp), hn]
      simp
    · rw [List.filter_cons_of_pos (by simpa using e)]
      simp only [List.length_cons, List.mem_cons]
      refine ⟨by omega, fun hm => ?_⟩
      rcases hm with hm | hm
      · exact absurd hm.symm e
      · have := i2 hm; omega
theorem out_cons (a : Nat) (J : List Nat) (l : List Nat) : l.filter (outT (a :: J)) = (l.filter (outT J)).filter (fun r => decide (r ≠ a)) := by
  rw [List.filter_filter]
  refine List.filter_congr fun r _ => ?_
  unfold outT
  by_cases e : r = a
  · subst e; simp
  · simp [e]
theorem out_cnt (N : Nat) : ∀ J : List Nat, N ≤ ((List.range N).filter (outT J)).length + J.length
  | [] => by
    rw [List.filter_eq_self.2 fun r _ => by simp [outT]]
    simp
  | a :: J => by
    have ih := out_cnt N J
    rw [out_cons]
    have := (strike_one (a := a) (List.Pairwise.filter (outT J) (List.nodup_range (n := N)))).1
    simp only [List.length_cons]
    omega
theorem out_cnt_eq (N : Nat) : ∀ J : List Nat, J.Nodup → (∀ r ∈ J, r < N) → ((List.range N).filter (outT J)).length + J.length = N
  | [], _, _ => by
    rw [List.filter_eq_self.2 fun r _ => by simp [outT]]
    simp
  | a :: J, hn, hl => by
    obtain ⟨h1, h2⟩ := List.nodup_cons.1 hn
    have ih := out_cnt_eq N J h2 (fun r hr => hl r (List.mem_cons_of_mem _ hr))
    rw [out_cons]
    have := (strike_one (a := a) (List.Pairwise.filter (outT J) (List.nodup_range (n := N)))).2 (List.mem_filter.2 ⟨List.mem_range.2 (hl a (by simp)), by simpa [outT] using h1⟩)
    simp only [List.length_cons]
    omega

/-! ### The rows with their sums -/
theorem dim_all {D : Mx} (h : allN D = true) : Dim D D.length (wid D) := ⟨rfl, fun r hr => ((allN_iff D).1 h r hr).2⟩
theorem word_all {D : Mx} {k m s : Nat} (hD : Dim D k s) (hk : 1 ≤ k) : D ++ timesL ((List.range m).map (codeRow k)) D = timesL (codeL k m) D := by
  have h1 : timesL (oneL k) D = D := by rw [timesL_mulL (oneL_dim k) hD.1, one_mulL hD hk]
  unfold codeL
  show _ = (oneL k ++ _).map (fun c => blendL c D)
  rw [List.map_append]
  show _ = timesL (oneL k) D ++ _
  rw [h1]
  rfl
theorem word_dim {D : Mx} {k m s : Nat} (hD : Dim D k s) (hk : 1 ≤ k) : Dim (timesL (codeL k m) D) (k + m) s := (codeL_dim k m).times hD hk
theorem getD_len {A : Mx} {n s r : Nat} (h : Dim A n s) (hr : r < n) : (A.getD r []).length = s := by
  rw [List.getD_eq_getElem?_getD, List.getElem?_eq_getElem (by rw [h.1]; exact hr)]
  exact h.2 _ (List.getElem_mem _)
theorem ext_getD {A B : Mx} (hl : A.length = B.length) (h : ∀ r, r < A.length → A.getD r [] = B.getD r []) : A = B := by
  apply List.ext_getElem hl
  intro i h1 h2
  have := h i h1
  rw [List.getD_eq_getElem?_getD, List.getElem?_eq_getElem h1, List.getD_eq_getElem?_getD, List.getElem?_eq_getElem h2] at this
  exact this
/-- A set of at least k rows has k first ones. -/
theorem pick_of {th : Nat → Bool} {k m : Nat} (h : k ≤ ((List.range (k + m)).filter th).length) : PickOk k m (firstK th k (k + m)) := firstK_ok h

/-- Rows of which some are struck. -/
structure Struck (A L : Mx) (J : List Nat) : Prop where
  len : L.length = A.length
  row : ∀ r, r < A.length → L.getD r [] = if r ∈ J then [] else A.getD r []
theorem Struck.start (A : Mx) : Struck A A [] := ⟨rfl, fun r _ => by simp⟩
theorem Struck.next {A L : Mx} {J : List Nat} (h : Struck A L J) (i : Nat) : Struck A (L.set i []) (i :: J) := by
  refine ⟨by rw [List.length_set]; exact h.len, fun r hr => ?_⟩
  rw [List.getD_eq_getElem?_getD, List.getElem?_set]
  by_cases e : i = r
  · subst e
    rw [if_pos rfl, if_pos (by rw [h.len]; exact hr), if_pos (by simp)]
    rfl
  · rw [if_neg e, ← List.getD_eq_getElem?_getD, h.row r hr]
    have : (r ∈ i :: J) = (r ∈ J) := by
      simp only [List.mem_cons]
      exact propext ⟨fun hm => hm.resolve_left fun he => e he.symm, .inr⟩
    simp only [this]
theorem Struck.pres {A L : Mx} {J : List Nat} {n s : Nat} (h : Struck A L J) (hA : Dim A n s) (hs : 1 ≤ s) : ∀ r, r < n → presT L r = outT J r := by
  intro r hr
  unfold presT outT
  rw [h.row r (by rw [hA.1]; exact hr)]
  by_cases e : r ∈ J
  · simp [e]
  · have := getD_len hA hr
    simp only [e, if_false, this]
    simp; omega
theorem Struck.cnt {A L : Mx} {J : List Nat} {n s : Nat} (h : Struck A L J) (hA : Dim A n s) (hs : 1 ≤ s) : (List.range n).filter (presT L) = (List.range n).filter (outT J) :=
  List.filter_congr fun r hr => h.pres hA hs r (List.mem_range.1 hr)
theorem Struck.ok {A L : Mx} {J : List Nat} {k m s : Nat} (h : Struck A L J) (hA : Dim A (k + m) s) (hs : 1 ≤ s) (hcb : codeBad k m = false) : ¬ noRows L k m := by
  rintro (h1 | h1 | ⟨r, t, h1, h2, h3⟩)
  · rw [hcb] at h1; cases h1
  · rw [h.len, hA.1] at h1; omega
  · have l1 : r < k + m := by have := presT_lt h1; rw [h.len, hA.1] at this; exact this
    have l2 : t < k + m := by have := presT_lt h2; rw [h.len, hA.1] at this; exact this
    rw [h.pres hA hs r l1] at h1
    rw [h.pres hA hs t l2] at h2
    unfold outT at h1 h2
    have n1 : r ∉ J := by simpa using h1
    have n2 : t ∉ J := by simpa using h2
    rw [h.row r (by rw [hA.1]; exact l1), h.row t (by rw [hA.1]; exact l2), if_neg n1, if_neg n2, getD_len hA l1, getD_len hA l2] at h3
    exact h3 rfl
theorem codeBad_no {k m : Nat} (h : codeBad k m = false) : 1 ≤ k ∧ k + m ≤ 14 := by
  unfold codeBad at h
  have := of_decide_eq_false h
  omega
/-- With m rows lost or less all come back. -/
theorem lost_mend {D L : Mx} {J : List Nat} {k m s : Nat} (hD : Dim D k s) (hs : 1 ≤ s) (hcb : codeBad k m = false) (hJ : J.length ≤ m) (h : Struck (timesL (codeL k m) D) L J) : mendR L k m = (timesL (codeL k m) D, 0) := by
  obtain ⟨hk, hkm⟩ := codeBad_no hcb
  have hA := word_dim (m := m) hD hk
  have hll : L.length = k + m := by rw [h.len, hA.1]
  have hc := out_cnt (k + m) J
  have hpc : presC L L.length = ((List.range (k + m)).filter (outT J)).length := by unfold presC; rw [hll, h.cnt hA hs]
  unfold mendR
  rw [if_neg (h.ok hA hs hcb), if_neg (by rw [hpc, Int.toNat_natCast]; omega), Int.toNat_natCast, Int.toNat_natCast]
  congr 1
  have hR : PickOk k m (firstK (presT L) k (k + m)) := firstK_ok (by rw [h.cnt hA hs]; omega)
  refine mend_word hk hkm hR hD fun r hr => ?_
  obtain ⟨h1, h2⟩ := firstK_mem hr
  rw [h.pres hA hs r h2] at h1
  unfold outT at h1
  rw [h.row r (by rw [hA.1]; exact h2), if_neg (by simpa using h1)]
/-- With more than m rows lost nothing is told. -/
theorem few_mend {D L : Mx} {J : List Nat} {k m s : Nat} (hD : Dim D k s) (hs : 1 ≤ s) (hcb : codeBad k m = false) (hn : J.Nodup) (hJ : J.length = m + 1) (hl : ∀ r ∈ J, r < k + m) (h : Struck (timesL (codeL k m) D) L J) : mendR L k m = ([], 15) := by
  obtain ⟨hk, hkm⟩ := codeBad_no hcb
  have hA := word_dim (m := m) hD hk
  have hll : L.length = k + m := by rw [h.len, hA.1]
  have hc := out_cnt_eq (k + m) J hn hl
  have hpc : presC L L.length = ((List.range (k + m)).filter (outT J)).length := by unfold presC; rw [hll, h.cnt hA hs]
  unfold mendR
  rw [if_neg (h.ok hA hs hcb), if_pos (by rw [hpc, Int.toNat_natCast]; omega)]

/-! ### One row that is changed -/
/-- Rows that fit are a word's. -/
theorem fit_word {L : Mx} {th : Nat → Bool} {k m s : Nat} (hk : 1 ≤ k) (hkm : k + m ≤ 14) (hL : Dim L (k + m) s) (hc : k ≤ ((List.range (k + m)).filter th).length) (h : fitB k m L th = true) :
    ∃ E, Dim E k s ∧ ∀ r, r < k + m → th r = true → (timesL (codeL k m) E).getD r [] = L.getD r [] := by
  have hR := firstK_ok (m := m) hc
  obtain ⟨E, h1, h2, _⟩ := mend_dim (L := L) (s := s) hk hkm hR ⟨by rw [rowsOf_length]; exact hR.len, fun r hr => by
    obtain ⟨q, hq, rfl⟩ := List.mem_map.1 hr
    exact getD_len hL (firstK_mem hq).2⟩
  refine ⟨E, h1, fun r hr ht => ?_⟩
  rw [← h2]
  exact (fitB_iff k m L th).1 h r hr ht
/-- Two words that are the same but at some rows, less than m+1, are the same. -/
theorem word_out {D E : Mx} {J : List Nat} {k m s t : Nat} (hk : 1 ≤ k) (hkm : k + m ≤ 14) (hJ : J.length ≤ m) (hD : Dim D k s) (hE : Dim E k t) (h : ∀ r, r < k + m → r ∉ J → (timesL (codeL k m) D).getD r [] = (timesL (codeL k m) E).getD r []) : timesL (codeL k m) D = timesL (codeL k m) E := by
  have hc := out_cnt (k + m) J
  have hR : PickOk k m (firstK (outT J) k (k + m)) := firstK_ok (by omega)
  refine word_same hk hkm hR hD hE fun r hr => ?_
  obtain ⟨h1, h2⟩ := firstK_mem hr
  unfold outT at h1
  exact h r h2 (by simpa using h1)
theorem set_get {A : Mx} {i : Nat} {x : List UInt8} (r : Nat) (hi : i < A.length) : (A.set i x).getD r [] = if i = r then x else A.getD r [] := by
  rw [List.getD_eq_getElem?_getD, List.getElem?_set, List.getD_eq_getElem?_getD]
  by_cases e : i = r
  · subst e; simp [hi]
  · simp [e]
theorem set_dim {A : Mx} {n s i : Nat} {x : List UInt8} (h : Dim A n s) (hx : x.length = s) : Dim (A.set i x) n s := by
  refine ⟨by rw [List.length_set]; exact h.1, fun r hr => ?_⟩
  rcases List.mem_or_eq_of_mem_set hr with h1 | h1
  · exact h.2 r h1
  · rw [h1]; exact hx
theorem full_pres {A : Mx} {n s : Nat} (h : Dim A n s) (hs : 1 ≤ s) (r : Nat) (hr : r < n) : presT A r = true := by
  unfold presT
  rw [getD_len h hr]
  simp; omega
theorem full_rows {A : Mx} {k m s : Nat} (h : Dim A (k + m) s) (hs : 1 ≤ s) (hcb : codeBad k m = false) : ¬ noRows A k m ∧ ¬ presC A A.length < A.length := by
  have := (Struck.start A).ok h hs hcb
  refine ⟨this, ?_⟩
  unfold presC
  rw [h.1, List.filter_eq_self.2 fun r hr => full_pres h hs r (List.mem_range.1 hr), List.length_range]
  omega
theorem filter_all' {n : Nat} {th : Nat → Bool} (h : ∀ r, r < n → th r = true) : ((List.range n).filter th).length = n := by
  rw [List.filter_eq_self.2 fun r hr => h r (List.mem_range.1 hr), List.length_range]
/-- Rows with their sums fit. -/
theorem right_word {D : Mx} {k m s : Nat} (hD : Dim D k s) (hs : 1 ≤ s) (hcb : codeBad k m = false) : rightR (timesL (codeL k m) D) k m = (true, 0) := by
  obtain ⟨hk, hkm⟩ := codeBad_no hcb
  have hA := word_dim (m := m) hD hk
  obtain ⟨h1, h2⟩ := full_rows hA hs hcb
  unfold rightR
  rw [if_neg h1, if_neg h2]
  congr 1
  show fitB k m _ _ = true
  rw [fitB_iff]
  intro r _ _
  have hR : PickOk k m (firstK (presT (timesL (codeL k m) D)) k (k + m)) := firstK_ok (by rw [filter_all' (full_pres hA hs)]; omega)
  rw [mend_word hk hkm hR hD (fun _ _ => rfl)]
/-- A set that holds the changed row does not fit. -/
theorem bad_fit {D : Mx} {k m s i : Nat} {x : List UInt8} (hD : Dim D k s) (hcb : codeBad k m = false) (hm : 2 ≤ m) (hi : i < k + m) (hx : x.length = s) (hne : x ≠ (timesL (codeL k m) D).getD i []) {th : Nat → Bool} {J : List Nat} (hJ : J.length ≤ 1) (hth : ∀ r, r < k + m → r ∉ J → th r = true) (hti : th i = true) : fitB k m ((timesL (codeL k m) D).set i x) th = false := by
  obtain ⟨hk, hkm⟩ := codeBad_no hcb
  have hA := word_dim (m := m) hD hk
  have hA' := set_dim (i := i) hA hx
  cases hf : fitB k m ((timesL (codeL k m) D).set i x) th with
  | false => rfl
  | true =>
    have hc := out_cnt (k + m) J
    have hcc : ((List.range (k + m)).filter (outT J)).length ≤ ((List.range (k + m)).filter th).length := by
      have e : (List.range (k + m)).filter (outT J) = ((List.range (k + m)).filter th).filter (outT J) := by
        rw [List.filter_filter]
        refine List.filter_congr fun r hr => ?_
        cases ho : outT J r with
        | false => simp
        | true =>
          unfold outT at ho
          rw [hth r (List.mem_range.1 hr) (by simpa using ho)]; rfl
      rw [e]
      exact List.length_filter_le _ _
    obtain ⟨E, hE, hw⟩ := fit_word hk hkm hA' (by omega) hf
    have hsame := word_out (J := i :: J) hk hkm (by simp only [List.length_cons]; omega) hE hD (fun r hr hrJ => by
      simp only [List.mem_cons, not_or] at hrJ
      rw [hw r hr (hth r hr hrJ.2), set_get r (by rw [hA.1]; exact hi), if_neg (fun e => hrJ.1 e.symm)])
    have := hw i hi hti
    rw [hsame, set_get i (by rw [hA.1]; exact hi), if_pos rfl] at this
    exact absurd this.symm hne
theorem wrong_word {D : Mx} {k m s i : Nat} {x : List UInt8} (hD : Dim D k s) (hcb : codeBad k m = false) (hm : 2 ≤ m) (hi : i < k + m) (hx : x.length = s) (hne : x ≠ (timesL (codeL k m) D).getD i []) (hs : 1 ≤ s) : rightR ((timesL (codeL k m) D).set i x) k m = (false, 0) ∧ wrongR ((timesL (codeL k m) D).set i x) k m = ((i : Int), 0) := by
  obtain ⟨hk, hkm⟩ := codeBad_no hcb
  have hA := word_dim (m := m) hD hk
  have hA' := set_dim (i := i) hA hx
  obtain ⟨h1, h2⟩ := full_rows hA' hs hcb
  have hall := bad_fit hD hcb hm hi hx hne (th := presT ((timesL (codeL k m) D).set i x)) (J := []) (by simp) (fun r hr _ => full_pres hA' hs r hr) (full_pres hA' hs i hi)
  refine ⟨?_, ?_⟩
  · unfold rightR
    rw [if_neg h1, if_neg h2]
    show (fitB k m _ _, 0) = _
    rw [hall]
  · unfold wrongR
    rw [if_neg h1, if_neg h2]
    show (if fitB k m _ _ = true then _ else _) = _
    rw [hall, if_neg (by decide)]
    have hw : wrongI ((timesL (codeL k m) D).set i x) k m = some i := by
      unfold wrongI
      rw [hA'.1, List.find?_range_eq_some]
      refine ⟨?_, List.mem_range.2 hi, fun j hj => ?_⟩
      · rw [fitB_iff]
        intro r hr hrt
        unfold lessT at hrt
        simp only [Bool.and_eq_true, decide_eq_true_eq] at hrt
        have hR : PickOk k m (firstK (lessT ((timesL (codeL k m) D).set i x) i) k (k + m)) := firstK_ok (by
          have := less_cnt (L := (timesL (codeL k m) D).set i x) (i := i) hA'.1 (fun r hr => full_pres hA' hs r (by rw [hA'.1] at hr; exact hr)) (show 1 ≤ m by omega)
          exact this)
        rw [mend_word hk hkm hR hD (fun q hq => by
          have := (firstK_mem hq).1
          unfold lessT at this
          simp only [Bool.and_eq_true, decide_eq_true_eq] at this
          rw [set_get q (by rw [hA.1]; exact hi), if_neg (fun e => this.2 e.symm)])]
        rw [set_get r (by rw [hA.1]; exact hi), if_neg (fun e => hrt.2 e.symm)]
      · rw [bad_fit hD hcb hm hi hx hne (th := lessT ((timesL (codeL k m) D).set i x) j) (J := [j]) (by simp) (fun r hr hrj => by
            unfold lessT
            rw [full_pres hA' hs r hr]
            simpa using hrj) (by
            unfold lessT
            rw [full_pres hA' hs i hi]
            simp; omega)]
        rfl
    show (match wrongI _ k m with | some i => ((i : Int), 0) | none => (0, 15)) = _
    rw [hw]
end Go.Proofs.YtmeckdgigjjjbaaDoor

namespace Go.Proofs.YtmeckdgigjjjbaaDoor
open Go Go.RowKit

/-- What a list of rows holds. -/
def RowsAt (w : World) (vs : List Value) (L : Mx) : Prop := vs.length = L.length ∧ ∀ (i : Nat) (l : List UInt8), L[i]? = some l → ∃ (ad : Option Addr) (cd : Nat), vs[i]? = some (Value.slice ad l.length cd) ∧ Rd w ad cd (B8 l)
theorem RdLL.rowsAt {w : World} {a : Option Addr} {c : Nat} {L : Mx} (h : RdLL w a c L) : ∃ vs, Rd w a c vs ∧ RowsAt w vs L := by
  obtain ⟨vs, h1, h2, h3⟩ := h
  exact ⟨vs, h1, h2, h3⟩
theorem RowsAt.kept {w w' : World} {vs : List Value} {L : Mx} (h : RowsAt w vs L) (hb : Below w.heap.size w w') : RowsAt w' vs L := by
  refine ⟨h.1, fun i l hl => ?_⟩
  obtain ⟨ad, cd, h1, h2⟩ := h.2 i l hl
  exact ⟨ad, cd, h1, h2.kept hb⟩
theorem RowsAt.append {w : World} {vs us : List Value} {L M : Mx} (h : RowsAt w vs L) (h' : RowsAt w us M) : RowsAt w (vs ++ us) (L ++ M) := by
  refine ⟨by rw [List.length_append, List.length_append, h.1, h'.1], fun i l hl => ?_⟩
  by_cases e : i < L.length
  · rw [List.getElem?_append_left e] at hl
    obtain ⟨ad, cd, h1, h2⟩ := h.2 i l hl
    exact ⟨ad, cd, by rw [List.getElem?_append_left (by rw [h.1]; exact e)]; exact h1, h2⟩
  · rw [List.getElem?_append_right (by omega)] at hl
    obtain ⟨ad, cd, h1, h2⟩ := h'.2 _ l hl
    exact ⟨ad, cd, by rw [List.getElem?_append_right (by rw [h.1]; omega), h.1]; exact h1, h2⟩
theorem RowsAt.one {w : World} {vs : List Value} {L : Mx} (h : RowsAt w vs L) : ∀ u ∈ vs, u.oneCell' = true := rows_one h.2 h.1
theorem RowsAt.lay {w0 w : World} {B g n cap : Nat} {vs : List Value} {L : Mx} (h : RowsAt w0 vs L) (hn : L.length = n) (ho : w.ownsRow B 34 1 (.slice (some ⟨g, 0, none⟩) n cap) n vs) : Lay w0 w B g n cap vs L := ⟨ho, hn, h.2⟩
/-- Sums that are told: the rows, of one length, with their sums. -/
theorem sums_word {D : Mx} {m : Int} {S : Mx} (h : sumsR D m = (S, 0)) : ∃ (mn : Nat) (s : Nat), m = mn ∧ codeBad (D.length : Int) (mn : Int) = false ∧ 1 ≤ s ∧ Dim D D.length s ∧ D ++ S = timesL (codeL D.length mn) D ∧ S.length = mn ∧ 1 ≤ D.length ∧ D.length + mn ≤ 14 := by
  unfold sumsR at h
  cases hb : codeBad D.length m with
  | true => rw [hb, if_pos rfl] at h; cases h
  | false =>
    rw [hb, if_neg (by decide)] at h
    have h5 := hb
    unfold codeBad at h5
    have h6 := of_decide_eq_false h5
    obtain ⟨mn, rfl⟩ : ∃ mn : Nat, m = mn := ⟨m.toNat, by omega⟩
    cases ha : allN D with
    | false => rw [ha, if_neg (by decide)] at h; cases h
    | true =>
      rw [ha, if_pos rfl] at h
      have hS := (Prod.mk.inj h).1
      rw [Int.toNat_natCast] at hS
      have hD := dim_all ha
      have hk : 1 ≤ D.length := by omega
      refine ⟨mn, wid D, rfl, hb, ?_, hD, by rw [← hS, word_all hD hk], by rw [← hS, timesL_length]; simp, hk, by omega⟩
      have := ((allN_iff D).1 ha (D[0]) (List.getElem_mem (by omega))).1
      have h2 := hD.2 (D[0]) (List.getElem_mem (by omega))
      omega
theorem sums_len {D : Mx} {s : Nat} (h : Dim D D.length s) {A : Mx} {n : Nat} (hA : Dim A n s) (hD : ∀ r ∈ D, r.length ≤ 1500) (hk : 1 ≤ D.length) : ∀ r ∈ A, r.length ≤ 1000000 := fun r hr => by
  have h1 := h.2 (D[0]) (List.getElem_mem (by omega))
  have h2 := hD (D[0]) (List.getElem_mem (by omega))
  rw [hA.2 r hr]; omega
end Go.Proofs.YtmeckdgigjjjbaaDoor
