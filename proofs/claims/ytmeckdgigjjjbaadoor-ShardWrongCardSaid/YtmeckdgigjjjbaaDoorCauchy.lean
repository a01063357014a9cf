/- Any k rows of a code's matrix send nothing but nothing to nothing, plain. Conditions: each law's own premises. -/
import Derived.Test.YtmeckdgigjjjbaaDoorGauss
import Derived.Test.YtmeckdgigjjjbaaDoorMatCode
namespace Go.Proofs.YtmeckdgigjjjbaaDoor
open Go Go.RowKit

def LS : List Nat → (Nat → UInt8) → UInt8
  | [], _ => 0
  | a :: l, f => f a ^^^ LS l f
theorem LS_congr {f g : Nat → UInt8} : ∀ {l : List Nat}, (∀ a ∈ l, f a = g a) → LS l f = LS l g
  | [], _ => rfl
  | a :: l, h => by show f a ^^^ LS l f = g a ^^^ LS l g; rw [h a (by simp), LS_congr (fun b hb => h b (by simp [hb]))]
theorem LS_nil0 {f : Nat → UInt8} : ∀ {l : List Nat}, (∀ a ∈ l, f a = 0) → LS l f = 0
  | [], _ => rfl
  | a :: l, h => by show f a ^^^ LS l f = 0; rw [h a (by simp), LS_nil0 (fun b hb => h b (by simp [hb]))]; rfl
theorem LS_xor (f g : Nat → UInt8) : ∀ l, LS l (fun a => f a ^^^ g a) = LS l f ^^^ LS l g
  | [] => by show (0 : UInt8) = 0 ^^^ 0; decide
  | a :: l => by
    show (f a ^^^ g a) ^^^ LS l _ = (f a ^^^ LS l f) ^^^ (g a ^^^ LS l g)
    rw [LS_xor f g l, x8_swap]
theorem LS_gm (c : UInt8) (f : Nat → UInt8) : ∀ l, gm c (LS l f) = LS l (fun a => gm c (f a))
  | [] => gm_zero c
  | a :: l => by
    show gm c (f a ^^^ LS l f) = gm c (f a) ^^^ LS l _
    rw [gm_xor_right, LS_gm c f l]
theorem LS_append (f : Nat → UInt8) (l' : List Nat) : ∀ l, LS (l ++ l') f = LS l f ^^^ LS l' f
  | [] => by show LS l' f = 0 ^^^ LS l' f; exact UInt8.zero_xor.symm
  | a :: l => by
    show f a ^^^ LS (l ++ l') f = (f a ^^^ LS l f) ^^^ LS l' f
    rw [LS_append f l' l, UInt8.xor_assoc]
theorem LS_range (f : Nat → UInt8) : ∀ n, LS (List.range n) f = XS n f
  | 0 => rfl
  | n + 1 => by
    rw [List.range_succ, LS_append, LS_range f n]
    show XS n f ^^^ (f n ^^^ 0) = XS n f ^^^ f n
    rw [UInt8.xor_zero]
theorem LS_filter {f : Nat → UInt8} {p : Nat → Bool} : ∀ {l : List Nat}, (∀ a ∈ l, p a = false → f a = 0) → LS (l.filter p) f = LS l f
  | [], _ => rfl
  | a :: l, h => by
    have ih := LS_filter (l := l) (fun b hb => h b (by simp [hb]))
    cases hp : p a with
    | true => rw [List.filter_cons_of_pos hp]; show f a ^^^ LS (l.filter p) f = f a ^^^ LS l f; rw [ih]
    | false => rw [List.filter_cons_of_neg (by rw [hp]; decide)]; show LS (l.filter p) f = f a ^^^ LS l f; rw [ih, h a (by simp) hp, UInt8.zero_xor]
theorem nodup_le : ∀ {l l' : List Nat}, l.Nodup → (∀ x ∈ l, x ∈ l') → l.length ≤ l'.length
  | [], _, _, _ => Nat.zero_le _
  | x :: l, l', hn, hs => by
    have hx := hs x (by simp)
    obtain ⟨h1, h2⟩ := List.nodup_cons.1 hn
    have := nodup_le (l := l) (l' := l'.erase x) h2 (fun y hy => (List.mem_erase_of_ne (fun e => h1 (by subst e; exact hy))).2 (hs y (by simp [hy])))
    rw [List.length_erase_of_mem hx] at this
    have := List.length_pos_of_mem hx
    simp only [List.length_cons]
    omega

theorem filter_parts {p : Nat → Bool} : ∀ l : List Nat, (l.filter p).length + (l.filter fun a => !p a).length = l.length
  | [] => rfl
  | a :: l => by
    have ih := filter_parts (p := p) l
    cases h : p a with
    | true => rw [List.filter_cons_of_pos h, List.filter_cons_of_neg (by simp [h])]; simp only [List.length_cons]; omega
    | false => rw [List.filter_cons_of_neg (by simp [h]), List.filter_cons_of_pos (by simp [h])]; simp only [List.length_cons]; omega
/-- The difference of two points. -/
def dP (x y : Nat) : UInt8 := UInt8.ofNat (x ^^^ y)
theorem ofNat_xorP (a b : Nat) : UInt8.ofNat (a ^^^ b) = UInt8.ofNat a ^^^ UInt8.ofNat b := by
  apply UInt8.toNat_inj.1
  rw [UInt8.toNat_xor, UInt8.toNat_ofNat', UInt8.toNat_ofNat', UInt8.toNat_ofNat', Nat.xor_mod_two_pow]
theorem dP_add (x y z : Nat) : dP x y ^^^ dP z y = dP x z := by
  unfold dP
  rw [ofNat_xorP, ofNat_xorP, ofNat_xorP, x8_swap, UInt8.xor_self, UInt8.xor_zero]
theorem dP_comm (x y : Nat) : dP x y = dP y x := by unfold dP; rw [Nat.xor_comm]
theorem dP_ne {x y : Nat} (hx : x < 16) (hy : y < 16) (h : x ≠ y) : dP x y ≠ 0 :=
  ofNat_pos (xor_pos h) (Nat.lt_of_lt_of_le (xor_lt16 hx hy) (by decide))
theorem ginv_gm {a : UInt8} (h : a ≠ 0) : gm (ginv a) a = 1 := by rw [gm_comm, gm_ginv a h]
/-- One step: the sum of two of the equations, cleared of the point z. -/
theorem cauchy_term {x x0 y z : Nat} {v : UInt8} (h1 : dP x y ≠ 0) (h0 : dP x0 y ≠ 0) :
    gm (dP x z) (gm v (ginv (dP x y))) ^^^ gm (dP x0 z) (gm v (ginv (dP x0 y))) = gm (dP x x0) (gm (gm v (gm (dP y z) (ginv (dP x0 y)))) (ginv (dP x y))) := by
  have e1 : dP x z = dP x y ^^^ dP y z := by rw [← dP_add x y z, dP_comm z y]
  have e2 : dP x0 z = dP x0 y ^^^ dP y z := by rw [← dP_add x0 y z, dP_comm z y]
  have e3 : dP x x0 = dP x y ^^^ dP x0 y := (dP_add x y x0).symm
  rw [e1, e2, e3]
  obtain ⟨a, ha⟩ : ∃ a, a = dP x y := ⟨_, rfl⟩
  obtain ⟨b, hb⟩ : ∃ b, b = dP x0 y := ⟨_, rfl⟩
  obtain ⟨c, hc⟩ : ∃ c, c = dP y z := ⟨_, rfl⟩
  rw [← ha, ← hb, ← hc]
  rw [← ha] at h1
  rw [← hb] at h0
  have i1 := gm_ginv a h1
  have i0 := gm_ginv b h0
  obtain ⟨p, hp⟩ : ∃ p, p = ginv a := ⟨_, rfl⟩
  obtain ⟨q, hq⟩ : ∃ q, q = ginv b := ⟨_, rfl⟩
  rw [← hp] at i1 ⊢
  rw [← hq] at i0 ⊢
  -- left: (a+c) v p + (b+c) v q ; right: (a+b) v c q p
  rw [gm_comm (a ^^^ c), gm_comm (b ^^^ c), gm_xor_right, gm_xor_right, gm_comm (a ^^^ b), gm_xor_right]
  have t1 : gm (gm v p) a = v := by rw [← gm_assoc, gm_comm p, i1, gm_one]
  have t2 : gm (gm v q) b = v := by rw [← gm_assoc, gm_comm q, i0, gm_one]
  have t3 : gm (gm (gm v (gm c q)) p) a = gm (gm v q) c := by rw [← gm_assoc, gm_comm p, i1, gm_one, gm_comm c q, gm_assoc]
  have t4 : gm (gm (gm v (gm c q)) p) b = gm (gm v p) c := by
    rw [gm_comm c q, gm_assoc v q c, ← gm_assoc _ p b, gm_comm p b, gm_assoc _ b p, ← gm_assoc _ c b, gm_comm c b, gm_assoc _ b c, t2, ← gm_assoc, gm_comm c p, gm_assoc]
  rw [t1, t2, t3, t4, x8_swap, UInt8.xor_self, UInt8.zero_xor, UInt8.xor_comm]
theorem cauchy : ∀ (ys xs : List Nat) (v : Nat → UInt8), ys.Nodup → xs.Nodup → (∀ x ∈ xs, x < 16) → (∀ y ∈ ys, y < 16) → (∀ x ∈ xs, ∀ y ∈ ys, x ≠ y) → ys.length ≤ xs.length →
    (∀ x ∈ xs, LS ys (fun y => gm (v y) (ginv (dP x y))) = 0) → ∀ y ∈ ys, v y = 0
  | [], _, _, _, _, _, _, _, _, _ => fun y hy => by cases hy
  | y0 :: ys, [], _, _, _, _, _, _, hl, _ => by simp at hl
  | y0 :: ys, x0 :: xs, v, ny, nx, bx, by', hne, hl, he => by
    obtain ⟨ny0, ny1⟩ := List.nodup_cons.1 ny
    obtain ⟨nx0, nx1⟩ := List.nodup_cons.1 nx
    have h0 := he x0 (by simp)
    have d0 : ∀ y ∈ y0 :: ys, dP x0 y ≠ 0 := fun y hy => dP_ne (bx _ (by simp)) (by' _ hy) (hne _ (by simp) _ hy)
    have hrec : ∀ x ∈ xs, LS ys (fun y => gm (gm (v y) (gm (dP y y0) (ginv (dP x0 y)))) (ginv (dP x y))) = 0 := by
      intro x hx
      have hx' : x ∈ x0 :: xs := by simp [hx]
      have dx : ∀ y ∈ y0 :: ys, dP x y ≠ 0 := fun y hy => dP_ne (bx _ hx') (by' _ hy) (hne _ hx' _ hy)
      have hxx : x ≠ x0 := fun e => nx0 (e ▸ hx)
      have h1 := he x hx'
      have a1 : gm (dP x y0) (LS (y0 :: ys) (fun y => gm (v y) (ginv (dP x y)))) = 0 := by rw [h1, gm_zero]
      have a0 : gm (dP x0 y0) (LS (y0 :: ys) (fun y => gm (v y) (ginv (dP x0 y)))) = 0 := by rw [h0, gm_zero]
      rw [LS_gm] at a1 a0
      have a2 : LS (y0 :: ys) (fun y => gm (dP x y0) (gm (v y) (ginv (dP x y))) ^^^ gm (dP x0 y0) (gm (v y) (ginv (dP x0 y)))) = 0 := by
        rw [LS_xor, a1, a0]; rfl
      rw [LS_congr (g := fun y => gm (dP x x0) (gm (gm (v y) (gm (dP y y0) (ginv (dP x0 y)))) (ginv (dP x y)))) (fun y hy => cauchy_term (dx y hy) (d0 y hy)), ← LS_gm] at a2
      have a3 : LS (y0 :: ys) (fun y => gm (gm (v y) (gm (dP y y0) (ginv (dP x0 y)))) (ginv (dP x y))) = 0 :=
        Classical.byContradiction fun hz => gm_ne_zero (dP_ne (bx _ hx') (bx _ (by simp)) hxx) hz a2
      have a4 : gm (gm (v y0) (gm (dP y0 y0) (ginv (dP x0 y0)))) (ginv (dP x y0)) = 0 := by
        rw [show dP y0 y0 = 0 by unfold dP; rw [Nat.xor_self]; rfl, zero_gm, gm_zero, zero_gm]
      have a5 : gm (gm (v y0) (gm (dP y0 y0) (ginv (dP x0 y0)))) (ginv (dP x y0)) ^^^ LS ys (fun y => gm (gm (v y) (gm (dP y y0) (ginv (dP x0 y)))) (ginv (dP x y))) = 0 := a3
      rw [a4, UInt8.zero_xor] at a5
      exact a5
    have ih := cauchy ys xs (fun y => gm (v y) (gm (dP y y0) (ginv (dP x0 y)))) ny1 nx1 (fun x hx => bx x (by simp [hx])) (fun y hy => by' y (by simp [hy])) (fun x hx y hy => hne x (by simp [hx]) y (by simp [hy])) (by simpa using hl) hrec
    have hys : ∀ y ∈ ys, v y = 0 := fun y hy => Classical.byContradiction fun hz =>
      gm_ne_zero hz (gm_ne_zero (dP_ne (by' y (by simp [hy])) (by' y0 (by simp)) (fun e => ny0 (e ▸ hy))) (ginv_ne_zero (d0 y (by simp [hy])))) (ih y hy)
    intro y hy
    rcases List.mem_cons.1 hy with rfl | hy
    · have h2 : gm (v y) (ginv (dP x0 y)) ^^^ LS ys (fun y => gm (v y) (ginv (dP x0 y))) = 0 := h0
      rw [LS_nil0 (l := ys) (fun a ha => by rw [hys a ha, zero_gm]), UInt8.xor_zero] at h2
      exact Classical.byContradiction fun hz => gm_ne_zero hz (ginv_ne_zero (d0 y (by simp))) h2
    · exact hys y hy

theorem codeL_dimC (k m : Nat) : Dim (codeL k m) (k + m) k := by
  refine ⟨by simp [codeL, oneL], fun r hr => ?_⟩
  unfold codeL at hr
  rcases List.mem_append.1 hr with h | h
  · exact (oneL_dim k).2 r h
  · obtain ⟨i, _, rfl⟩ := List.mem_map.1 h
    exact codeRow_length k i
theorem codeL_lo {k m r : Nat} (hr : r < k) : (codeL k m).getD r [] = unitL k r := by
  unfold codeL
  rw [List.getD_eq_getElem?_getD, List.getElem?_append_left (by rw [(oneL_dim k).1]; exact hr)]
  unfold oneL
  rw [List.getElem?_map, List.getElem?_range hr]
  rfl
theorem codeL_hi {k m i : Nat} (hi : i < m) : (codeL k m).getD (k + i) [] = codeRow k i := by
  unfold codeL
  rw [List.getD_eq_getElem?_getD, List.getElem?_append_right (by rw [(oneL_dim k).1]; omega), (oneL_dim k).1, Nat.add_sub_cancel_left, List.getElem?_map, List.getElem?_range hi]
  rfl
/-- Rows of a code, by their numbers. -/
def pickM (k m : Nat) (R : List Nat) : Mx := R.map fun r => (codeL k m).getD r []
theorem pickM_dim {k m : Nat} {R : List Nat} (hR : ∀ r ∈ R, r < k + m) : Dim (pickM k m R) R.length k := by
  refine ⟨by simp [pickM], fun l hl => ?_⟩
  obtain ⟨r, hr, rfl⟩ := List.mem_map.1 hl
  have h1 := (codeL_dimC k m).1
  have := hR r hr
  rw [List.getD_eq_getElem?_getD, List.getElem?_eq_getElem (by omega)]
  exact (codeL_dimC k m).2 _ (List.getElem_mem _)
/-- Any k rows of a code. -/
theorem code_reg {k m : Nat} {R : List Nat} (hn : R.Nodup) (hl : R.length = k) (hR : ∀ r ∈ R, r < k + m) (hkm : k + m ≤ 14) (hf : Flat k (ent (pickM k m R))) : False := by
  obtain ⟨v, ⟨c0, hc0, hv0⟩, hz⟩ := hf
  have hrow : ∀ i (hi : i < R.length), XS k (fun c => gm (((codeL k m).getD (R[i]) []).getD c 0) (v c)) = 0 := by
    intro i hi
    have := hz i (by omega)
    unfold rd at this
    refine Eq.trans (XS_congr fun c _ => ?_) this
    congr 1
    unfold ent pickM
    rw [List.getD_eq_getElem?_getD (l := List.map _ R), List.getElem?_map, List.getElem?_eq_getElem hi]
    rfl
  have hmem : ∀ r ∈ R, XS k (fun c => gm (((codeL k m).getD r []).getD c 0) (v c)) = 0 := by
    intro r hr
    obtain ⟨i, hi, rfl⟩ := List.mem_iff_getElem.1 hr
    exact hrow i hi
  have hS : ∀ r ∈ R, r < k → v r = 0 := by
    intro r hr hrk
    have := hmem r hr
    rw [codeL_lo hrk, XS_one hrk] at this
    · rw [unitL_get hrk, if_pos rfl, one_gm] at this
      exact this
    · intro c hc hne
      rw [unitL_get hc, if_neg (fun e => hne e.symm), zero_gm]
  have hT : ∀ r ∈ R, k ≤ r → XS k (fun c => gm (v c) (ginv (dP r c))) = 0 := by
    intro r hr hrk
    have := hmem r hr
    obtain ⟨i, rfl⟩ : ∃ i, r = k + i := ⟨r - k, by omega⟩
    rw [codeL_hi (by have := hR _ hr; omega)] at this
    refine Eq.trans (XS_congr fun c hc => ?_) this
    rw [gm_comm]
    congr 1
    unfold codeRow dP
    rw [List.getD_eq_getElem?_getD, List.getElem?_map, List.getElem?_range hc]
    rfl
  obtain ⟨Y, hY⟩ : ∃ Y, Y = (List.range k).filter (fun c => decide (v c ≠ 0)) := ⟨_, rfl⟩
  obtain ⟨S, hSd⟩ : ∃ S, S = R.filter (fun r => decide (r < k)) := ⟨_, rfl⟩
  obtain ⟨T, hTd⟩ : ∃ T, T = R.filter (fun r => !decide (r < k)) := ⟨_, rfl⟩
  have mY : ∀ y, y ∈ Y ↔ y < k ∧ v y ≠ 0 := fun y => by rw [hY]; simp
  have mS : ∀ r, r ∈ S ↔ r ∈ R ∧ r < k := fun r => by rw [hSd]; simp
  have mT : ∀ r, r ∈ T ↔ r ∈ R ∧ k ≤ r := fun r => by rw [hTd]; simp
  have nY : Y.Nodup := by rw [hY]; exact List.Pairwise.filter _ List.nodup_range
  have nS : S.Nodup := by rw [hSd]; exact List.Pairwise.filter _ hn
  have nT : T.Nodup := by rw [hTd]; exact List.Pairwise.filter _ hn
  have hST : S.length + T.length = k := by
    rw [hSd, hTd, ← hl]
    exact filter_parts R
  have hYS : (Y ++ S).length ≤ (List.range k).length := by
    refine nodup_le ?_ (fun x hx => ?_)
    · refine List.nodup_append.2 ⟨nY, nS, fun a ha b hb e => ?_⟩
      subst e
      exact ((mY a).1 ha).2 (hS a ((mS a).1 hb).1 ((mS a).1 hb).2)
    · rcases List.mem_append.1 hx with h | h
      · exact List.mem_range.2 ((mY x).1 h).1
      · exact List.mem_range.2 ((mS x).1 h).2
  rw [List.length_append, List.length_range] at hYS
  have := cauchy Y T v nY nT (fun x hx => by have := hR x ((mT x).1 hx).1; omega) (fun y hy => by have := ((mY y).1 hy).1; omega) (fun x hx y hy => by have := ((mT x).1 hx).2; have := ((mY y).1 hy).1; omega) (by omega) (fun x hx => by
    rw [hY, LS_filter (fun a _ hp => by
      have : v a = 0 := by simpa using hp
      rw [this, zero_gm]), LS_range]
    exact hT x ((mT x).1 hx).1 ((mT x).1 hx).2)
  exact hv0 (this c0 ((mY c0).2 ⟨hc0, hv0⟩))
end Go.Proofs.YtmeckdgigjjjbaaDoor
