/- Rows of a matrix replaced, plain; what an inversion gives. Conditions: each law's own premises. -/
import Derived.Test.YtmeckdgigjjjbaaDoorGauss
import Derived.Test.YtmeckdgigjjjbaaDoorGfSc
namespace Go.Proofs.YtmeckdgigjjjbaaDoor
open Go Go.RowKit

/-- A matrix with One beside it, when i rows are laid. -/
def augK (A : Mx) (i : Nat) : Mx := (List.range A.length).map fun r => if r < i then A.getD r [] ++ unitL A.length r else []
theorem augK_length (A : Mx) (i : Nat) : (augK A i).length = A.length := by simp [augK]
theorem augK_start (A : Mx) : augK A 0 = List.replicate A.length [] := by
  unfold augK
  apply List.ext_getElem
  · simp
  · intro i h1 h2; simp
theorem augK_set (A : Mx) (i : Nat) (hi : i < A.length) : (augK A i).set i (A[i] ++ unitL A.length i) = augK A (i + 1) := by
  apply List.ext_getElem
  · rw [List.length_set, augK_length, augK_length]
  · intro r h1 h2
    rw [List.getElem_set]
    by_cases he : i = r
    · subst he
      rw [if_pos rfl]
      simp [augK, List.getD_eq_getElem?_getD, hi]
    · rw [if_neg he]
      simp only [augK, List.getElem_map, List.getElem_range]
      by_cases h3 : r < i
      · rw [if_pos h3, if_pos (by omega)]
      · rw [if_neg h3, if_neg (by omega)]
theorem augK_row (A : Mx) (i : Nat) (hi : i < A.length) : (augK A A.length)[i]? = some (A[i] ++ unitL A.length i) := by
  unfold augK
  rw [List.getElem?_map, List.getElem?_range hi]
  simp [hi, List.getD_eq_getElem?_getD]
theorem augK_dim {A : Mx} {n : Nat} (hA : Dim A n n) : Dim (augK A n) n (n + n) := by
  have h1 := hA.1
  subst h1
  refine ⟨augK_length A _, fun r hr => ?_⟩
  obtain ⟨i, hi, rfl⟩ := List.mem_iff_getElem.1 hr
  have hi' : i < A.length := by rw [augK_length] at hi; exact hi
  have := augK_row A i hi'
  rw [List.getElem?_eq_getElem hi] at this
  rw [Option.some.inj this]
  rw [List.length_append, unitL_length, hA.2 _ (List.getElem_mem hi')]
theorem augK_ent {A : Mx} {n : Nat} (hA : Dim A n n) {i c : Nat} (hi : i < n) (hc : c < n + n) : ent (augK A n) i c = aug n (ent A) i c := by
  have h1 := hA.1
  subst h1
  have := augK_row A i hi
  unfold ent
  rw [List.getD_eq_getElem?_getD (l := augK A A.length), this]
  show (A[i] ++ unitL A.length i).getD c 0 = _
  have hl := hA.2 _ (List.getElem_mem hi)
  unfold aug
  by_cases h : c < A.length
  · rw [if_pos h, List.getD_eq_getElem?_getD, List.getElem?_append_left (by omega)]
    show _ = ent A i c
    rw [ent_get hi, List.getD_eq_getElem?_getD]
  · rw [if_neg h, List.getD_eq_getElem?_getD, List.getElem?_append_right (by omega), hl, ← List.getD_eq_getElem?_getD, unitL_get (by omega)]

theorem ent_set {L : Mx} {i r c : Nat} {l : List UInt8} (hi : i < L.length) : ent (L.set i l) r c = if r = i then l.getD c 0 else ent L r c := by
  unfold ent
  rw [List.getD_eq_getElem?_getD (l := L.set i l), List.getElem?_set]
  by_cases h : r = i
  · subst h; rw [if_pos rfl, if_pos rfl, if_pos hi]; rfl
  · rw [if_neg (fun e => h e.symm), if_neg h, ← List.getD_eq_getElem?_getD]
theorem Dim.set {L : Mx} {n m i : Nat} {l : List UInt8} (h : Dim L n m) (hl : l.length = m) : Dim (L.set i l) n m := by
  refine ⟨by rw [List.length_set]; exact h.1, fun r hr => ?_⟩
  rcases List.mem_or_eq_of_mem_set hr with h1 | rfl
  · exact h.2 r h1
  · exact hl
theorem ent_row {L : Mx} {i c : Nat} {l : List UInt8} (h : L[i]? = some l) : l.getD c 0 = ent L i c := by
  unfold ent; rw [List.getD_eq_getElem?_getD (l := L), h]; rfl
theorem scale_getD (l : List UInt8) (x : UInt8) (c : Nat) : (l.map (gm · x)).getD c 0 = gm (l.getD c 0) x := by
  rw [List.getD_eq_getElem?_getD, List.getD_eq_getElem?_getD, List.getElem?_map]
  cases l[c]? with
  | none => show (0 : UInt8) = gm 0 x; rw [zero_gm]
  | some y => rfl
theorem gadd_getD {l m : List UInt8} (h : l.length = m.length) (c : Nat) : (gadd l m).getD c 0 = l.getD c 0 ^^^ m.getD c 0 := by
  unfold gadd
  by_cases hc : c < l.length
  · rw [List.getD_eq_getElem?_getD, List.getD_eq_getElem?_getD, List.getD_eq_getElem?_getD, List.getElem?_zipWith, List.getElem?_eq_getElem hc, List.getElem?_eq_getElem (by omega)]; rfl
  · rw [List.getD_eq_getElem?_getD, List.getD_eq_getElem?_getD, List.getD_eq_getElem?_getD, List.getElem?_zipWith, List.getElem?_eq_none (by omega), List.getElem?_eq_none (by omega)]; rfl
theorem gadd_length {l m : List UInt8} (h : l.length = m.length) : (gadd l m).length = l.length := by
  unfold gadd; rw [List.length_zipWith]; omega
/-- The rows when one column is being cleared by row p: those below i are done, and p. -/
def Mid (n : Nat) (W L : Mx) (p j i : Nat) : Prop := Dim L n (n + n) ∧ ∀ r c, r < n → c < n + n → ent L r c = if r = p ∨ r < i then elimF (ent W) p j r c else ent W r c
theorem Mid.start {n : Nat} {W : Mx} {p j : Nat} (hW : Dim W n (n + n)) (hp : p < n) (l : List UInt8) (hl : W[p]? = some l) :
    Mid n W (W.set p (l.map (gm · (ginv (ent W p j))))) p j 0 := by
  have hll : l.length = n + n := hW.2 l (List.mem_of_getElem? hl)
  refine ⟨hW.set (by simp [hll]), fun r c hr hc => ?_⟩
  rw [ent_set (by have := hW.1; omega), scale_getD, ent_row hl]
  by_cases h : r = p
  · rw [if_pos h, if_pos (.inl h)]; unfold elimF; rw [if_pos h]
  · rw [if_neg h, if_neg (by omega)]
/-- Row p, and its like: nothing to do. -/
theorem Mid.skip {n : Nat} {W L : Mx} {p j i : Nat} (h : Mid n W L p j i) (hi : i = p ∨ ent L i j = 0) (hj : j < n + n) (hin : i < n) : Mid n W L p j (i + 1) := by
  refine ⟨h.1, fun r c hr hc => ?_⟩
  rw [h.2 r c hr hc]
  by_cases hrp : r = p
  · rw [if_pos (.inl hrp), if_pos (.inl hrp)]
  · by_cases hri : r < i
    · rw [if_pos (.inr hri), if_pos (.inr (by omega))]
    · by_cases e : r = i
      · subst e
        have h0 : ent W r j = 0 := by
          rcases hi with h1 | h1
          · exact absurd h1 hrp
          · have := h.2 r j hr hj
            rw [if_neg (by omega)] at this
            rw [← this]; exact h1
        rw [if_neg (by omega), if_pos (.inr (by omega))]
        unfold elimF
        rw [if_neg hrp, h0, gm_zero, UInt8.xor_zero]
      · rw [if_neg (by omega), if_neg (by omega)]
/-- One more row cleared. -/
theorem Mid.next {n : Nat} {W L : Mx} {p j i : Nat} (h : Mid n W L p j i) (hip : i ≠ p) (hin : i < n) (hp : p < n) (hj : j < n + n) (l lp : List UInt8) (hl : L[i]? = some l) (hlp : L[p]? = some lp) (x : UInt8) (hx : x = ent L i j) :
    Mid n W (L.set i (gadd l (lp.map (gm · x)))) p j (i + 1) := by
  have h1 : l.length = n + n := h.1.2 l (List.mem_of_getElem? hl)
  have h2 : lp.length = n + n := h.1.2 lp (List.mem_of_getElem? hlp)
  refine ⟨h.1.set (by rw [gadd_length (by simp; omega)]; exact h1), fun r c hr hc => ?_⟩
  rw [ent_set (by have := h.1.1; omega)]
  by_cases e : r = i
  · subst e
    rw [if_pos rfl, if_pos (.inr (by omega)), gadd_getD (by simp; omega), scale_getD, ent_row hl, ent_row hlp, h.2 r c hr hc, h.2 p c hp hc, if_neg (by omega), if_pos (.inl rfl), hx, h.2 r j hr hj, if_neg (by omega)]
    unfold elimF
    rw [if_pos rfl, if_neg hip]
  · rw [if_neg e, h.2 r c hr hc]
    by_cases hrp : r = p
    · rw [if_pos (.inl hrp), if_pos (.inl hrp)]
    · by_cases hri : r < i
      · rw [if_pos (.inr hri), if_pos (.inr (by omega))]
      · rw [if_neg (by omega), if_neg (by omega)]
theorem Mid.done {n : Nat} {W L : Mx} {p j i : Nat} (h : Mid n W L p j i) (hi : n ≤ i) : ∀ r c, r < n → c < n + n → ent L r c = elimF (ent W) p j r c := fun r c hr hc => by
  rw [h.2 r c hr hc, if_pos (.inr (by omega))]
/-- A matrix with its other half taken out. -/
def outK (n : Nat) (W L : Mx) (T : Nat → Nat) (i : Nat) : Prop := Dim L n n ∧ ∀ r t, r < i → t < n → ent L r t = ent W (T r) (n + t)
theorem outK.next {n : Nat} {W L : Mx} {T : Nat → Nat} {i : Nat} (h : outK n W L T i) (hi : i < n) (hW : Dim W n (n + n)) (l : List UInt8) (hl : W[T i]? = some l) : outK n W (L.set i (l.drop n)) T (i + 1) := by
  have h1 : l.length = n + n := hW.2 l (List.mem_of_getElem? hl)
  refine ⟨h.1.set (by simp; omega), fun r t hr ht => ?_⟩
  rw [ent_set (by have := h.1.1; omega)]
  by_cases e : r = i
  · subst e
    rw [if_pos rfl, ← ent_row hl, List.getD_eq_getElem?_getD, List.getElem?_drop, List.getD_eq_getElem?_getD]
  · rw [if_neg e]
    exact h.2 r t (by omega) ht
theorem outK.undo {A W L : Mx} {n : Nat} {T : Nat → Nat} (hA : Dim A n n) (hn : 1 ≤ n) (h : outK n W L T n) (hG : Gs n (ent A) (ent W) T n) : Undo A L := by
  refine undo_of hA hn h.1 fun x c hc => ?_
  rw [← hG.left x c hc]
  exact XS_congr fun t ht => by rw [h.2 c t hc ht]
theorem outK.right {A W L : Mx} {n : Nat} {T : Nat → Nat} (hA : Dim A n n) (hn : 1 ≤ n) (h : outK n W L T n) (hG : Gs n (ent A) (ent W) T n) (hT : ∀ c, c < n → T c = c) : mulL A L = oneL n := by
  refine undo_right hA hn h.1 fun y i hi => ?_
  rw [← hG.right hT y i hi]
  exact XS_congr fun c hc => by
    congr 1
    exact XS_congr fun t ht => by rw [h.2 c t hc ht, hT c hc]

/-- What stands when j columns are cleared: 'lf' are the rows that were not taken, 'TK' the row of each column. -/
structure St (n : Nat) (A W : Mx) (T : Nat → Nat) (TK : List Int) (lf j : Nat) : Prop where
  dim : Dim W n (n + n)
  gs : Gs n (ent A) (ent W) T j
  tkl : TK.length = n
  tk : ∀ c, c < j → TK[c]? = some (T c : Int)
  lt : lf < 2 ^ 64
  left : ∀ i, lf.testBit i = true ↔ i < n ∧ ∀ c, c < j → T c ≠ i
theorem St.start {A : Mx} {n : Nat} (hA : Dim A n n) (h64 : n ≤ 64) : St n A (augK A n) (fun _ => 0) (List.replicate n 0) (2 ^ n - 1) 0 := by
  refine ⟨augK_dim hA, Gs.start n _ _ _ (fun i c hi hc => augK_ent hA hi hc), by simp, fun c hc => by omega, ?_, fun i => ?_⟩
  · have : 2 ^ n ≤ 2 ^ 64 := Nat.pow_le_pow_right (by decide) h64
    have := Nat.two_pow_pos n
    omega
  · rw [Nat.testBit_two_pow_sub_one]
    simp
theorem St.flat {A W : Mx} {n : Nat} {T : Nat → Nat} {TK : List Int} {lf j : Nat} (h : St n A W T TK lf j) (hj : j < n) (hz : ∀ i, lf.testBit i = true → ent W i j = 0) : Flat n (ent A) :=
  h.gs.flat hj fun i hi hno => hz i ((h.left i).2 ⟨hi, hno⟩)
theorem St.step {A W L : Mx} {n : Nat} {T : Nat → Nat} {TK : List Int} {lf lf' j p : Nat} (h : St n A W T TK lf j) (hj : j < n) (hp : lf.testBit p = true) (hd : ent W p j ≠ 0)
    (hL : Mid n W L p j n) (hlt : lf' < 2 ^ 64) (hlf : ∀ i, lf'.testBit i = (lf.testBit i && !decide (i = p))) :
    St n A L (fun c => if c = j then p else T c) (TK.set j (p : Int)) lf' (j + 1) := by
  obtain ⟨hpn, hpT⟩ := (h.left p).1 hp
  refine ⟨hL.1, (h.gs.step hj hpn hpT hd).congr (by omega) (fun i c hi hc => hL.done (Nat.le_refl _) i c hi hc) (fun c _ => rfl), by simp [h.tkl], fun c hc => ?_, hlt, fun i => ?_⟩
  · by_cases e : c = j
    · subst e; rw [List.getElem?_set_self (by rw [h.tkl]; omega), if_pos rfl]
    · rw [List.getElem?_set_ne (fun e' => e e'.symm), if_neg e]; exact h.tk c (by omega)
  · rw [hlf, Bool.and_eq_true, h.left]
    constructor
    · rintro ⟨⟨h1, h2⟩, h3⟩
      refine ⟨h1, fun c hc => ?_⟩
      by_cases e : c = j
      · rw [if_pos e]; intro e2; subst e2; simp at h3
      · rw [if_neg e]; exact h2 c (by omega)
    · rintro ⟨h1, h2⟩
      refine ⟨⟨h1, fun c hc => ?_⟩, ?_⟩
      · have := h2 c (by omega)
        rwa [if_neg (by omega)] at this
      · have := h2 j (by omega)
        rw [if_pos rfl] at this
        simp
        exact fun e => this e.symm
/-- The same for the document's, whose row of a column is the column's own. -/
def Rt (n : Nat) (A W : Mx) (j : Nat) : Prop := Dim W n (n + n) ∧ Gs n (ent A) (ent W) (fun c => c) j
theorem Rt.start {A : Mx} {n : Nat} (hA : Dim A n n) : Rt n A (augK A n) 0 := ⟨augK_dim hA, Gs.start n _ _ _ (fun _ _ hi hc => augK_ent hA hi hc)⟩
theorem Rt.flat {A W : Mx} {n j : Nat} (h : Rt n A W j) (hj : j < n) (hz : ∀ i, j ≤ i → i < n → ent W i j = 0) : Flat n (ent A) :=
  h.2.flat hj fun i hi hno => hz i (Classical.byContradiction fun hlt => hno i (by omega) rfl) hi
theorem Rt.swap {A W : Mx} {n j p : Nat} (h : Rt n A W j) (hj : j < n) (hp : p < n) (hjp : j ≤ p) (lp lc : List UInt8) (hlp : W[p]? = some lp) (hlc : W[j]? = some lc) :
    Rt n A ((W.set p lc).set j lp) j ∧ ((W.set p lc).set j lp)[j]? = some lp ∧ ent ((W.set p lc).set j lp) j j = ent W p j := by
  have hl := h.1.1
  have l1 := h.1.2 lp (List.mem_of_getElem? hlp)
  have l2 := h.1.2 lc (List.mem_of_getElem? hlc)
  refine ⟨⟨(h.1.set l2).set l1, ?_⟩, List.getElem?_set_self (by rw [List.length_set]; omega), ?_⟩
  · refine (h.2.swap (fun c _ => rfl) hj hp hjp).congr (by omega) (fun i c hi hc => ?_) (fun c _ => rfl)
    rw [ent_set (by rw [List.length_set]; omega), ent_set (by omega), ent_row hlp, ent_row hlc]
    unfold swapF
    by_cases e1 : i = j
    · by_cases e2 : i = p
      · rw [if_pos e1, if_pos e2]; congr 1; omega
      · rw [if_pos e1, if_neg e2, if_pos e1]
    · by_cases e2 : i = p
      · rw [if_neg e1, if_pos e2, if_pos e2]
      · rw [if_neg e1, if_neg e2, if_neg e2, if_neg e1]
  · rw [ent_set (by rw [List.length_set]; omega), if_pos rfl, ent_row hlp]
theorem Rt.step {A W L : Mx} {n j : Nat} (h : Rt n A W j) (hj : j < n) (hd : ent W j j ≠ 0) (hL : Mid n W L j j n) : Rt n A L (j + 1) := by
  refine ⟨hL.1, (h.2.step hj hj (fun c hc e => by omega) hd).congr (by omega) (fun i c hi hc => hL.done (Nat.le_refl _) i c hi hc) (fun c hc => ?_)⟩
  by_cases e : c = j
  · rw [if_pos e]; exact e
  · rw [if_neg e]
/-- The other half taken out. -/
def outL (n : Nat) (W : Mx) : Mx := W.map (List.drop n)
theorem outL_ok {n : Nat} {W : Mx} (hW : Dim W n (n + n)) : outK n W (outL n W) (fun c => c) n := by
  refine ⟨⟨by simp [outL, hW.1], fun r hr => ?_⟩, fun r t hr ht => ?_⟩
  · obtain ⟨l, hl, rfl⟩ := List.mem_map.1 hr
    rw [List.length_drop, hW.2 l hl]; omega
  · unfold outL ent
    have hrl : r < W.length := by have := hW.1; omega
    rw [List.getD_eq_getElem?_getD (l := W.map _), List.getElem?_map, List.getD_eq_getElem?_getD (l := W), List.getElem?_eq_getElem hrl]
    show (W[r].drop n).getD t 0 = W[r].getD (n + t) 0
    rw [List.getD_eq_getElem?_getD, List.getElem?_drop, List.getD_eq_getElem?_getD]
theorem lf_eq (n : Nat) (h : n ≤ 64) : (18446744073709551615 / 2 ^ (64 - n) : Int) = ((2 ^ n - 1 : Nat) : Int) := by
  have e : (18446744073709551615 : Nat) / 2 ^ (64 - n) = 2 ^ n - 1 := by
    have h1 : 2 ^ n * 2 ^ (64 - n) = 2 ^ 64 := by rw [← Nat.pow_add]; congr 1; omega
    have h2 : 0 < 2 ^ (64 - n) := Nat.two_pow_pos _
    have h3 : 0 < 2 ^ n := Nat.two_pow_pos _
    obtain ⟨a, ha⟩ : ∃ a, a = 2 ^ (64 - n) := ⟨_, rfl⟩
    obtain ⟨b, hb⟩ : ∃ b, b = 2 ^ n := ⟨_, rfl⟩
    rw [← ha, ← hb] at h1 ⊢
    rw [← ha] at h2
    rw [← hb] at h3
    have h4 : (18446744073709551615 : Nat) = (a - 1) + a * (b - 1) := by
      have : a * (b - 1) = a * b - a := by rw [Nat.mul_sub, Nat.mul_one]
      have h5 : a ≤ a * b := Nat.le_mul_of_pos_right a h3
      rw [this, Nat.mul_comm a b, h1]
      rw [Nat.mul_comm a b, h1] at h5
      omega
    rw [h4, Nat.add_mul_div_left _ _ h2, Nat.div_eq_of_lt (by omega), Nat.zero_add]
  rw [← e, Int.natCast_ediv, Int.natCast_pow]
  rfl

/-- What an inversion gives. -/
def InvOk (A B : Mx) (f : Nat) : Prop :=
  (¬ (IsM A ∧ wid A = A.length) ∧ B = [] ∧ f = 1) ∨ (IsM A ∧ wid A = A.length ∧ ((f = 18 ∧ B = [] ∧ Flat A.length (ent A)) ∨ (f = 0 ∧ Undo A B)))
/-- What the document's gives. -/
def InvRef (A B : Mx) (f : Nat) : Prop :=
  (¬ (IsM A ∧ wid A = A.length) ∧ B = [] ∧ f = 1) ∨ (IsM A ∧ wid A = A.length ∧ ((f = 18 ∧ B = [] ∧ Flat A.length (ent A)) ∨ (f = 0 ∧ Undo A B ∧ mulL A B = oneL A.length)))
theorem sq_dim {A : Mx} (h : IsM A) (hw : wid A = A.length) : Dim A A.length A.length := by have := h.dim; rwa [hw] at this
/-- Both give the same. -/
theorem inv_same {A B C : Mx} {f g : Nat} (h : InvOk A B f) (h' : InvRef A C g) : B = C ∧ f = g := by
  rcases h with ⟨h1, rfl, rfl⟩ | ⟨h1, h2, h3⟩
  · rcases h' with ⟨_, rfl, rfl⟩ | ⟨k1, k2, _⟩
    · exact ⟨rfl, rfl⟩
    · exact absurd ⟨k1, k2⟩ h1
  · rcases h' with ⟨k1, _, _⟩ | ⟨_, _, k3⟩
    · exact absurd ⟨h1, h2⟩ k1
    · have hd := sq_dim h1 h2
      have hn := h1.1
      rcases h3 with ⟨rfl, rfl, hf⟩ | ⟨rfl, hu⟩
      · rcases k3 with ⟨rfl, rfl, _⟩ | ⟨rfl, ku, _⟩
        · exact ⟨rfl, rfl⟩
        · exact absurd hf (undo_flat hd hn ku)
      · rcases k3 with ⟨rfl, rfl, hf⟩ | ⟨rfl, ku, kr⟩
        · exact absurd hf (undo_flat hd hn hu)
        · exact ⟨undo_eq hd hn hu ku.1 kr, rfl⟩
end Go.Proofs.YtmeckdgigjjjbaaDoor
