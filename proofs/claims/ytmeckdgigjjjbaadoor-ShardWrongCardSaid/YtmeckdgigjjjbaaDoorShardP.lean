/- Mend, Right, Wrong: what they give, plain. Conditions: each law's own premises. -/
import Derived.Test.YtmeckdgigjjjbaaDoorFitW
namespace Go.Proofs.YtmeckdgigjjjbaaDoor
open Go Go.RowKit

open Classical in
noncomputable def mendR (L : Mx) (k m : Int) : Mx × Nat := if noRows L k m then ([], 1) else if presC L L.length < k.toNat then ([], 15) else (mendF k.toNat m.toNat L (firstK (presT L) k.toNat (k.toNat + m.toNat)), 0)
open Classical in
noncomputable def rightR (L : Mx) (k m : Int) : Bool × Nat := if noRows L k m then (false, 1) else if presC L L.length < L.length then (false, 15) else (fitB k.toNat m.toNat L (presT L), 0)
/-- The rows that are there, without one. -/
def lessT (L : Mx) (i : Nat) : Nat → Bool := fun r => presT L r && decide (r ≠ i)
noncomputable def wrongI (L : Mx) (k m : Nat) : Option Nat := (List.range L.length).find? fun i => fitB k m L (lessT L i)
open Classical in
noncomputable def wrongR (L : Mx) (k m : Int) : Int × Nat := if noRows L k m then (0, 1) else if presC L L.length < L.length then (0, 15) else if fitB k.toNat m.toNat L (presT L) = true then (-1, 0) else match wrongI L k.toNat m.toNat with | some i => ((i : Int), 0) | none => (0, 15)

theorem BegI.bits {L : Mx} {T n sz : Nat} (h : BegI L L.length T n sz) : T.testBit = presT L := by
  funext r
  rw [h.bit]
  by_cases e : r < L.length
  · simp [e]
  · have : presT L r = false := by
      cases hp : presT L r with
      | false => rfl
      | true => exact absurd (presT_lt hp) e
    simp [this]
theorem setL_pres (L : Mx) (N : Nat) : (setL (presT L) N).length = presC L N := rfl
theorem noRows_ok {L : Mx} {k m : Int} (h : ¬ noRows L k m) : ∃ kn mn : Nat, k = kn ∧ m = mn ∧ 1 ≤ kn ∧ kn + mn ≤ 14 ∧ L.length = kn + mn ∧ codeBad k m = false ∧ ¬ Odd L := by
  unfold noRows at h
  have h1 : codeBad k m = false := by
    cases e : codeBad k m with
    | false => rfl
    | true => exact absurd (.inl e) h
  have h2 : (L.length : Int) = k + m := Classical.byContradiction fun e => h (.inr (.inl e))
  have h3 : ¬ Odd L := fun e => h (.inr (.inr e))
  have h4 := h1
  unfold codeBad at h4
  have h5 := of_decide_eq_false h4
  exact ⟨k.toNat, m.toNat, by omega, by omega, by omega, by omega, by omega, h1, h3⟩
/-- Rows that are there are of one length. -/
theorem even_len {L : Mx} (h : ¬ Odd L) : ∃ s, ∀ r, presT L r = true → (L.getD r []).length = s := by
  by_cases hp : ∃ r, presT L r = true
  · obtain ⟨r, hr⟩ := hp
    exact ⟨_, fun s hs => Classical.byContradiction fun hne => h ⟨s, r, hs, hr, hne⟩⟩
  · exact ⟨0, fun r hr => absurd ⟨r, hr⟩ hp⟩
theorem even_len' {L : Mx} (h : ¬ Odd L) (hl : ∀ r ∈ L, r.length ≤ 1000000) : ∃ s, s ≤ 1000000 ∧ ∀ r, presT L r = true → (L.getD r []).length = s := by
  by_cases hp : ∃ r, presT L r = true
  · obtain ⟨r, hr⟩ := hp
    refine ⟨(L.getD r []).length, ?_, fun s hs => Classical.byContradiction fun hne => h ⟨s, r, hs, hr, hne⟩⟩
    have hlt := presT_lt hr
    rw [List.getD_eq_getElem?_getD, List.getElem?_eq_getElem hlt]
    exact hl _ (List.getElem_mem hlt)
  · exact ⟨0, by omega, fun r hr => absurd ⟨r, hr⟩ hp⟩
theorem presC_full {L : Mx} (h : ¬ presC L L.length < L.length) : ∀ r, r < L.length → presT L r = true := by
  have h1 := presC_le L L.length
  have h2 : (List.range L.length).filter (presT L) = List.range L.length := by
    refine (List.filter_sublist).eq_of_length ?_
    have : presC L L.length = ((List.range L.length).filter (presT L)).length := rfl
    rw [List.length_range]
    omega
  intro r hr
  have : r ∈ (List.range L.length).filter (presT L) := by rw [h2]; exact List.mem_range.2 hr
  exact (List.mem_filter.1 this).2
theorem firstK_all {th : Nat → Bool} {k N : Nat} (h : ∀ r, r < N → th r = true) (hk : k ≤ N) : firstK th k N = List.range k := by
  unfold firstK
  rw [List.filter_eq_self.2 fun r hr => h r (List.mem_range.1 hr), List.take_range]
  congr 1
  omega
/-- Without a row of sums all fit. -/
theorem fit_m0 {L : Mx} {k : Nat} (hk : 1 ≤ k) (hkm : k ≤ 14) (hL : L.length = k) (hf : ∀ r, r < L.length → presT L r = true) (ho : ¬ Odd L) : fitB k 0 L (presT L) = true := by
  rw [fitB_iff]
  obtain ⟨s, hs⟩ := even_len ho
  have hc : k ≤ (setL (presT L) (k + 0)).length := by
    unfold setL
    rw [List.filter_eq_self.2 fun r hr => hf r (by have := List.mem_range.1 hr; omega)]
    simp
  have hR := firstK_ok (th := presT L) (k := k) (m := 0) hc
  intro i hi _
  refine mend_keeps (s := s) hk hkm hR ⟨by rw [rowsOf_length]; exact hR.len, fun r hr => ?_⟩ i ?_
  · obtain ⟨q, hq, rfl⟩ := List.mem_map.1 hr
    exact hs q (firstK_mem hq).1
  · rw [firstK_all (fun r hr => hf r (by omega)) (by omega)]
    exact List.mem_range.2 (by omega)
theorem filter_split (p : Nat → Bool) : ∀ l : List Nat, (l.filter p).length + (l.filter fun r => !p r).length = l.length
  | [] => rfl
  | a :: l => by
    have := filter_split p l
    cases h : p a with
    | true => rw [List.filter_cons_of_pos h, List.filter_cons_of_neg (by simp [h]), List.length_cons, List.length_cons]; omega
    | false => rw [List.filter_cons_of_neg (by simp [h]), List.filter_cons_of_pos (by simp [h]), List.length_cons, List.length_cons]; omega
theorem less_cnt {L : Mx} {k m i : Nat} (hL : L.length = k + m) (hf : ∀ r, r < L.length → presT L r = true) (hm : 1 ≤ m) : k ≤ (setL (lessT L i) (k + m)).length := by
  unfold setL lessT
  have h1 : (List.range (k + m)).filter (fun r => presT L r && decide (r ≠ i)) = (List.range (k + m)).filter (fun r => decide (r ≠ i)) :=
    List.filter_congr fun r hr => by rw [hf r (by have := List.mem_range.1 hr; omega)]; simp
  rw [h1]
  have h2 : ((List.range (k + m)).filter (fun r => decide (r ≠ i))).length + ((List.range (k + m)).filter (fun r => !decide (r ≠ i))).length = k + m := by
    have := filter_split (fun r => decide (r ≠ i)) (List.range (k + m))
    rw [List.length_range] at this
    exact this
  have h3 : ((List.range (k + m)).filter (fun r => !decide (r ≠ i))).length ≤ 1 := by
    have h4 : ((List.range (k + m)).filter (fun r => !decide (r ≠ i))).Nodup := List.Pairwise.filter _ List.nodup_range
    have h5 : ∀ x ∈ (List.range (k + m)).filter (fun r => !decide (r ≠ i)), x = i := fun x hx => by
      have := (List.mem_filter.1 hx).2
      simpa using this
    match hq : (List.range (k + m)).filter (fun r => !decide (r ≠ i)) with
    | [] => simp
    | [_] => simp
    | a :: b :: l =>
      rw [hq] at h4 h5
      have e1 := h5 a (by simp)
      have e2 := h5 b (by simp)
      rw [e1, e2] at h4
      simp at h4
  omega
/-- What is brought back hangs on the rows that are picked alone. -/
theorem mendF_congr {k m : Nat} {L L' : Mx} {R : List Nat} (h : ∀ r ∈ R, L.getD r [] = L'.getD r []) : mendF k m L R = mendF k m L' R := by
  unfold mendF rowsOf
  rw [List.map_congr_left h]
end Go.Proofs.YtmeckdgigjjjbaaDoor
