/- Elimination over the field of 256, plain: a matrix whose rows are cleared column by column has an inverse, or a row of numbers that it sends to nothing. Conditions: each law's own premises. -/
import Derived.Test.YtmeckdgigjjjbaaDoorMatL
namespace Go.Proofs.YtmeckdgigjjjbaaDoor
open Go Go.RowKit

abbrev Fn2 := Nat → Nat → UInt8
theorem xor_eq_zero8 {a b : UInt8} (h : a ^^^ b = 0) : a = b := by
  have : (a ^^^ b) ^^^ b = 0 ^^^ b := by rw [h]
  rw [UInt8.xor_assoc, UInt8.xor_self, UInt8.xor_zero, UInt8.zero_xor] at this
  exact this
theorem XS_add (a : Nat) (f : Nat → UInt8) : ∀ b, XS (a + b) f = XS a f ^^^ XS b (fun i => f (a + i))
  | 0 => by show XS a f = XS a f ^^^ 0; exact UInt8.xor_zero.symm
  | b + 1 => by
    show XS (a + b) f ^^^ f (a + b) = XS a f ^^^ (XS b _ ^^^ f (a + b))
    rw [XS_add a f b, UInt8.xor_assoc]
theorem XS_nil {f : Nat → UInt8} {n : Nat} (h : ∀ i, i < n → f i = 0) : XS n f = 0 := by
  rw [XS_congr (g := fun _ => 0) h, XS_zero]
theorem XS_short {f : Nat → UInt8} {k n : Nat} (hk : k ≤ n) (h : ∀ i, k ≤ i → i < n → f i = 0) : XS n f = XS k f := by
  obtain ⟨d, rfl⟩ : ∃ d, n = k + d := ⟨n - k, by omega⟩
  rw [XS_add, XS_nil (f := fun i => f (k + i)) (fun i hi => h _ (by omega) (by omega)), UInt8.xor_zero]

/-- A row times numbers. -/
def rd (m : Nat) (w : Fn2) (i : Nat) (v : Nat → UInt8) : UInt8 := XS m (fun c => gm (w i c) (v c))
/-- All rows times the numbers are nothing. -/
def Ker (n m : Nat) (w : Fn2) (v : Nat → UInt8) : Prop := ∀ i, i < n → rd m w i v = 0
/-- One column cleared by the row p. -/
def elimF (w : Fn2) (p j : Nat) : Fn2 := fun i c => if i = p then gm (w p c) (ginv (w p j)) else w i c ^^^ gm (gm (w p c) (ginv (w p j))) (w i j)
theorem rd_scale (m : Nat) (w : Fn2) (p : Nat) (v : Nat → UInt8) (d : UInt8) : XS m (fun c => gm (gm (w p c) d) (v c)) = gm (rd m w p v) d := by
  unfold rd
  rw [XS_gm']
  exact XS_congr fun c _ => by rw [← gm_assoc, ← gm_assoc, gm_comm d]
theorem rd_elim_p (m : Nat) (w : Fn2) (p j : Nat) (v : Nat → UInt8) : rd m (elimF w p j) p v = gm (rd m w p v) (ginv (w p j)) := by
  rw [← rd_scale]
  unfold rd elimF
  exact XS_congr fun c _ => by rw [if_pos rfl]
theorem rd_elim_i (m : Nat) (w : Fn2) (p j i : Nat) (h : i ≠ p) (v : Nat → UInt8) : rd m (elimF w p j) i v = rd m w i v ^^^ gm (gm (rd m w p v) (ginv (w p j))) (w i j) := by
  rw [← rd_scale]
  rw [XS_gm']
  unfold rd elimF
  rw [← XS_xor]
  exact XS_congr fun c _ => by rw [if_neg h, gm_comm _ (v c), gm_xor_right, gm_comm (v c), gm_comm (v c), ← gm_assoc _ (w i j) (v c), gm_comm (w i j) (v c), gm_assoc]
theorem ker_elim {n m : Nat} {w : Fn2} {p j : Nat} (hp : p < n) (hd : w p j ≠ 0) (v : Nat → UInt8) : Ker n m (elimF w p j) v ↔ Ker n m w v := by
  constructor
  · intro h
    have h1 := h p hp
    rw [rd_elim_p] at h1
    have h2 : rd m w p v = 0 := Classical.byContradiction fun hne => gm_ne_zero hne (ginv_ne_zero hd) h1
    intro i hi
    by_cases hip : i = p
    · rw [hip]; exact h2
    · have h3 := h i hi
      rw [rd_elim_i _ _ _ _ _ hip, h2, zero_gm, zero_gm, UInt8.xor_zero] at h3
      exact h3
  · intro h i hi
    by_cases hip : i = p
    · rw [hip, rd_elim_p, h p hp, zero_gm]
    · rw [rd_elim_i _ _ _ _ _ hip, h p hp, h i hi, zero_gm, zero_gm, UInt8.xor_zero]
/-- A matrix with One beside it. -/
def aug (n : Nat) (A : Fn2) : Fn2 := fun i c => if c < n then A i c else if i = c - n then 1 else 0
theorem rd_split (n m : Nat) (w : Fn2) (i : Nat) (v : Nat → UInt8) : rd (n + m) w i v = rd n w i v ^^^ XS m (fun t => gm (w i (n + t)) (v (n + t))) := by
  unfold rd; rw [XS_add]
theorem rd_aug {n : Nat} (A : Fn2) {i : Nat} (hi : i < n) (v : Nat → UInt8) : rd (n + n) (aug n A) i v = rd n A i v ^^^ v (n + i) := by
  rw [rd_split]
  congr 1
  · unfold rd aug
    exact XS_congr fun c hc => by rw [if_pos hc]
  · rw [XS_one hi]
    · unfold aug
      rw [if_neg (by omega), if_pos (by omega), one_gm]
    · intro t ht hne
      unfold aug
      rw [if_neg (by omega), if_neg (by omega), zero_gm]
/-- What stands when j columns are cleared: the numbers that are sent to nothing are those of old, and column c has its 1 in row T c. -/
structure Gs (n : Nat) (A w : Fn2) (T : Nat → Nat) (j : Nat) : Prop where
  ker : ∀ v, Ker n (n + n) w v ↔ Ker n (n + n) (aug n A) v
  lt : ∀ c, c < j → T c < n
  col : ∀ c, c < j → ∀ i, i < n → w i c = if i = T c then 1 else 0
  inj : ∀ c d, c < j → d < j → T c = T d → c = d
theorem Gs.start (n : Nat) (A w : Fn2) (T : Nat → Nat) (h : ∀ i c, i < n → c < n + n → w i c = aug n A i c) : Gs n A w T 0 := by
  refine ⟨fun v => ?_, fun c h => by omega, fun c h => by omega, fun c d h => by omega⟩
  have : ∀ i, i < n → rd (n + n) w i v = rd (n + n) (aug n A) i v := fun i hi => XS_congr fun c hc => by rw [h i c hi hc]
  exact ⟨fun hk i hi => by rw [← this i hi]; exact hk i hi, fun hk i hi => by rw [this i hi]; exact hk i hi⟩
/-- Only what is looked at counts. -/
theorem Gs.congr {n : Nat} {A w w' : Fn2} {T T' : Nat → Nat} {j : Nat} (h : Gs n A w T j) (hj : j ≤ n) (hw : ∀ i c, i < n → c < n + n → w' i c = w i c) (hT : ∀ c, c < j → T' c = T c) : Gs n A w' T' j := by
  refine ⟨fun v => ?_, fun c hc => by rw [hT c hc]; exact h.lt c hc, fun c hc i hi => by rw [hT c hc, hw i c hi (by omega)]; exact h.col c hc i hi, fun c d hc hd e => h.inj c d hc hd (by rw [← hT c hc, ← hT d hd]; exact e)⟩
  have : ∀ i, i < n → rd (n + n) w' i v = rd (n + n) w i v := fun i hi => XS_congr fun c hc => by rw [hw i c hi hc]
  rw [← h.ker v]
  exact ⟨fun hk i hi => by rw [← this i hi]; exact hk i hi, fun hk i hi => by rw [this i hi]; exact hk i hi⟩
theorem Gs.step {n : Nat} {A w : Fn2} {T : Nat → Nat} {j p : Nat} (h : Gs n A w T j) (hj : j < n) (hp : p < n) (hnew : ∀ c, c < j → T c ≠ p) (hd : w p j ≠ 0) :
    Gs n A (elimF w p j) (fun c => if c = j then p else T c) (j + 1) := by
  refine ⟨fun v => (ker_elim hp hd v).trans (h.ker v), fun c hc => ?_, fun c hc i hi => ?_, fun c d hc hd' e => ?_⟩
  · by_cases hcj : c = j
    · rw [if_pos hcj]; exact hp
    · rw [if_neg hcj]; exact h.lt c (by omega)
  · by_cases hcj : c = j
    · subst hcj
      rw [if_pos rfl]
      unfold elimF
      by_cases hip : i = p
      · rw [if_pos hip, if_pos hip, gm_ginv _ hd]
      · rw [if_neg hip, if_neg hip, gm_ginv _ hd, one_gm, UInt8.xor_self]
    · rw [if_neg hcj]
      have h0 : w p c = 0 := by rw [h.col c (by omega) p hp, if_neg (fun e => hnew c (by omega) e.symm)]
      unfold elimF
      by_cases hip : i = p
      · rw [if_pos hip, h0, zero_gm, if_neg (fun e => hnew c (by omega) (by omega))]
      · rw [if_neg hip, h0, zero_gm, zero_gm, UInt8.xor_zero]
        exact h.col c (by omega) i hi
  · by_cases h1 : c = j
    · by_cases h2 : d = j
      · omega
      · rw [if_pos h1, if_neg h2] at e
        exact absurd e.symm (hnew d (by omega))
    · by_cases h2 : d = j
      · rw [if_neg h1, if_pos h2] at e
        exact absurd e (hnew c (by omega))
      · rw [if_neg h1, if_neg h2] at e
        exact h.inj c d (by omega) (by omega) e
/-- Numbers, not all 0, that a matrix sends to nothing. -/
def Flat (n : Nat) (A : Fn2) : Prop := ∃ v : Nat → UInt8, (∃ c, c < n ∧ v c ≠ 0) ∧ ∀ i, i < n → rd n A i v = 0
theorem Gs.flat {n : Nat} {A w : Fn2} {T : Nat → Nat} {j : Nat} (h : Gs n A w T j) (hj : j < n) (hno : ∀ i, i < n → (∀ c, c < j → T c ≠ i) → w i j = 0) : Flat n A := by
  obtain ⟨v, hv⟩ : ∃ v : Nat → UInt8, v = fun c => if c = j then 1 else if c < j then w (T c) j else 0 := ⟨_, rfl⟩
  have vj : v j = 1 := by rw [hv]; simp
  have vlo : ∀ c, c < j → v c = w (T c) j := fun c hc => by rw [hv]; show (if c = j then _ else _) = _; rw [if_neg (by omega), if_pos hc]
  have vhi : ∀ c, j < c → v c = 0 := fun c hc => by rw [hv]; show (if c = j then _ else _) = _; rw [if_neg (by omega), if_neg (by omega)]
  have hk : Ker n (n + n) w v := by
    intro i hi
    unfold rd
    rw [XS_short (k := j + 1) (by omega) (fun c h1 _ => by rw [vhi c (by omega), gm_zero])]
    show XS j _ ^^^ gm (w i j) (v j) = 0
    rw [vj, gm_one]
    by_cases hex : ∃ c, c < j ∧ T c = i
    · obtain ⟨c0, hc0, rfl⟩ := hex
      rw [XS_one hc0]
      · rw [h.col c0 hc0 _ hi, if_pos rfl, one_gm, vlo c0 hc0, UInt8.xor_self]
      · intro c hc hne
        rw [h.col c hc _ hi, if_neg (fun e => hne (h.inj c c0 hc hc0 e.symm)), zero_gm]
    · rw [hno i hi (fun c hc e => hex ⟨c, hc, e⟩), UInt8.xor_zero]
      exact XS_nil fun c hc => by rw [h.col c hc i hi, if_neg (fun e => hex ⟨c, hc, e.symm⟩), zero_gm]
  refine ⟨v, ⟨j, hj, by rw [vj]; decide⟩, fun i hi => ?_⟩
  have := (h.ker v).1 hk i hi
  rw [rd_aug A hi, vhi (n + i) (by omega), UInt8.xor_zero] at this
  exact this
/-- When all columns are cleared, the other half undoes the matrix. -/
theorem Gs.left {n : Nat} {A w : Fn2} {T : Nat → Nat} (h : Gs n A w T n) (x : Nat → UInt8) (c : Nat) (hc : c < n) :
    XS n (fun t => gm (w (T c) (n + t)) (rd n A t x)) = x c := by
  obtain ⟨v, hv⟩ : ∃ v : Nat → UInt8, v = fun q => if q < n then x q else rd n A (q - n) x := ⟨_, rfl⟩
  have vlo : ∀ q, q < n → v q = x q := fun q hq => by rw [hv]; show (if q < n then _ else _) = _; rw [if_pos hq]
  have vhi : ∀ t, v (n + t) = rd n A t x := fun t => by rw [hv]; show (if n + t < n then _ else _) = _; rw [if_neg (by omega)]; congr 1; omega
  have hk : Ker n (n + n) (aug n A) v := by
    intro i hi
    rw [rd_aug A hi, vhi i, show rd n A i v = rd n A i x from XS_congr fun q hq => by rw [vlo q hq], UInt8.xor_self]
  have := (h.ker v).2 hk (T c) (h.lt c hc)
  rw [rd_split] at this
  rw [show rd n w (T c) v = x c from by
    unfold rd
    rw [XS_one hc]
    · rw [h.col c hc _ (h.lt c hc), if_pos rfl, one_gm, vlo c hc]
    · intro q hq hne
      rw [h.col q hq _ (h.lt c hc), if_neg (fun e => hne (h.inj c q hc hq e).symm), zero_gm]] at this
  rw [xor_eq_zero8 this]
  exact XS_congr fun t ht => by rw [vhi t]
theorem Gs.right {n : Nat} {A w : Fn2} {T : Nat → Nat} (h : Gs n A w T n) (hT : ∀ c, c < n → T c = c) (y : Nat → UInt8) (i : Nat) (hi : i < n) :
    rd n A i (fun c => XS n (fun t => gm (w c (n + t)) (y t))) = y i := by
  obtain ⟨v, hv⟩ : ∃ v : Nat → UInt8, v = fun q => if q < n then XS n (fun t => gm (w q (n + t)) (y t)) else y (q - n) := ⟨_, rfl⟩
  have vlo : ∀ q, q < n → v q = XS n (fun t => gm (w q (n + t)) (y t)) := fun q hq => by rw [hv]; show (if q < n then _ else _) = _; rw [if_pos hq]
  have vhi : ∀ t, v (n + t) = y t := fun t => by rw [hv]; show (if n + t < n then _ else _) = _; rw [if_neg (by omega)]; congr 1; omega
  have hk : Ker n (n + n) w v := by
    intro c hc
    rw [rd_split]
    rw [show rd n w c v = v c from by
      unfold rd
      rw [XS_one hc]
      · rw [h.col c hc c hc, if_pos (hT c hc).symm, one_gm]
      · intro q hq hne
        rw [h.col q hq c hc, if_neg (fun e => hne (by rw [hT q hq] at e; exact e.symm)), zero_gm]]
    rw [vlo c hc, XS_congr (f := fun t => gm (w c (n + t)) (v (n + t))) (g := fun t => gm (w c (n + t)) (y t)) (fun t _ => by rw [vhi t]), UInt8.xor_self]
  have := (h.ker v).1 hk i hi
  rw [rd_aug A hi, vhi i] at this
  have := xor_eq_zero8 this
  rw [← this]
  exact XS_congr fun q hq => by rw [vlo q hq]
/-- Two rows in each other's place. -/
def swapF (w : Fn2) (p j : Nat) : Fn2 := fun i c => w (if i = p then j else if i = j then p else i) c
theorem Gs.swap {n : Nat} {A w : Fn2} {T : Nat → Nat} {j p : Nat} (h : Gs n A w T j) (hT : ∀ c, c < j → T c = c) (hj : j < n) (hp : p < n) (hjp : j ≤ p) : Gs n A (swapF w p j) T j := by
  refine ⟨fun v => ?_, h.lt, fun c hc i hi => ?_, h.inj⟩
  · rw [← h.ker v]
    constructor
    · intro hk i hi
      have := hk (if i = p then j else if i = j then p else i) (by split; exact hj; split; exact hp; exact hi)
      unfold rd swapF at this
      unfold rd
      rw [← this]
      refine XS_congr fun c _ => ?_
      congr 2
      repeat' split
      all_goals omega
    · intro hk i hi
      exact hk (if i = p then j else if i = j then p else i) (by split; exact hj; split; exact hp; exact hi)
  · unfold swapF
    have hq : (if i = p then j else if i = j then p else i) < n := by split; exact hj; split; exact hp; exact hi
    rw [h.col c hc _ hq, hT c hc]
    by_cases h1 : i = p
    · rw [if_pos h1, if_neg (by omega), if_neg (by omega)]
    · rw [if_neg h1]
      by_cases h2 : i = j
      · rw [if_pos h2, if_neg (by omega), if_neg (by omega)]
      · rw [if_neg h2]

/-! ### Matrices -/
/-- B undoes A. -/
def Undo (A B : Mx) : Prop := Dim B A.length A.length ∧ mulL B A = oneL A.length
theorem rd_unit {n k : Nat} (A : Fn2) (i : Nat) (hk : k < n) : rd n A i (fun c => if c = k then 1 else 0) = A i k := by
  unfold rd
  rw [XS_one hk]
  · show gm (A i k) (if k = k then 1 else 0) = _
    rw [if_pos rfl, gm_one]
  · intro c _ hne
    show gm (A i c) (if c = k then 1 else 0) = 0
    rw [if_neg hne, gm_zero]
theorem undo_of {A B : Mx} {n : Nat} (hA : Dim A n n) (hn : 1 ≤ n) (hB : Dim B n n) (h : ∀ (x : Nat → UInt8) c, c < n → XS n (fun t => gm (ent B c t) (rd n (ent A) t x)) = x c) : Undo A B := by
  have hl := hA.1
  unfold Undo
  rw [hl]
  refine ⟨hB, ?_⟩
  have wA := hA.wid hn
  have d1 : Dim (mulL B A) n n := by have := mulL_dim (A := B) (B := A) hB.1; rwa [wA] at this
  refine mx_ext d1 (oneL_dim n) fun i k hi hk => ?_
  rw [mulL_ent hB hi (by rw [wA]; exact hk), oneL_ent hi hk]
  have := h (fun c => if c = k then 1 else 0) i hi
  rw [← this]
  exact XS_congr fun t _ => by rw [rd_unit _ _ hk]
theorem undo_right {A B : Mx} {n : Nat} (hA : Dim A n n) (hn : 1 ≤ n) (hB : Dim B n n) (h : ∀ (y : Nat → UInt8) i, i < n → rd n (ent A) i (fun c => XS n (fun t => gm (ent B c t) (y t))) = y i) : mulL A B = oneL n := by
  have wB := hB.wid hn
  have d1 : Dim (mulL A B) n n := by have := mulL_dim (A := A) (B := B) hA.1; rwa [wB] at this
  refine mx_ext d1 (oneL_dim n) fun i k hi hk => ?_
  rw [mulL_ent hA hi (by rw [wB]; exact hk), oneL_ent hi hk]
  have := h (fun t => if t = k then 1 else 0) i hi
  rw [show (if i = k then (1 : UInt8) else 0) = _ from this.symm]
  unfold rd
  refine XS_congr fun c _ => ?_
  congr 1
  show ent B c k = XS n (fun t => gm (ent B c t) (if t = k then 1 else 0))
  rw [XS_one hk]
  · rw [if_pos rfl, gm_one]
  · intro t _ hne; rw [if_neg hne, gm_zero]
/-- What has an inverse sends nothing but nothing to nothing. -/
theorem undo_flat {A B : Mx} {n : Nat} (hA : Dim A n n) (hn : 1 ≤ n) (h : Undo A B) (hf : Flat n (ent A)) : False := by
  obtain ⟨v, ⟨k, hk, hv⟩, h0⟩ := hf
  obtain ⟨hB, he⟩ := h
  have hl := hA.1
  rw [hl] at hB he
  have wA := hA.wid hn
  apply hv
  have e1 : rd n (ent (mulL B A)) k v = v k := by
    rw [he]
    unfold rd
    rw [XS_one hk]
    · rw [oneL_ent hk hk, if_pos rfl, one_gm]
    · intro c hc hne; rw [oneL_ent hk hc, if_neg (fun e => hne e.symm), zero_gm]
  rw [← e1]
  unfold rd
  rw [XS_congr (g := fun c => XS n (fun t => gm (ent B k t) (gm (ent A t c) (v c)))) (fun c hc => by
    rw [mulL_ent hB hk (by rw [wA]; exact hc), XS_gm']
    exact XS_congr fun t _ => (gm_assoc _ _ _).symm)]
  rw [XS_swap]
  refine XS_nil fun t ht => ?_
  rw [← XS_gm]
  rw [show XS n (fun c => gm (ent A t c) (v c)) = 0 from h0 t ht, gm_zero]
/-- A left inverse is the right one, if there is one. -/
theorem undo_eq {A B C : Mx} {n : Nat} (hA : Dim A n n) (hn : 1 ≤ n) (h : Undo A B) (hC : Dim C n n) (hr : mulL A C = oneL n) : B = C := by
  obtain ⟨hB, he⟩ := h
  rw [hA.1] at hB he
  rw [← mulL_one hB hn, ← hr, ← mulL_assoc hB hA hC hn hn, he, one_mulL hC hn]
end Go.Proofs.YtmeckdgigjjjbaaDoor
