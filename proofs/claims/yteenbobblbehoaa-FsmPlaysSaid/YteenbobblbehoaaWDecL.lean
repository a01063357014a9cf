/- wire's Decode, plainly: numbers read one behind the other, and the two ways to say what bytes are. Plain laws. Conditions: each law's own premises. -/
import Derived.Test.YteenbobblbehoaaUvRd
import Derived.Test.YteenbobblbehoaaZig
import Derived.Test.YteenbobblbehoaaDecLaw
namespace Go.Proofs.Yteenbobblbehoaa
open Go Go.RowKit

/-- What a number read says of the bytes. -/
theorem rdF_canon : ∀ (l : List UInt8) (i acc v k : Nat), i ≤ 9 → rdF i acc l = (v, k, 0) →
    ∃ x, v = acc + x * 2 ^ (7 * i) ∧ i < k ∧ k ≤ i + l.length ∧ l.take (k - i) = uvF (10 - i) x ∧ (0 < i → x ≠ 0) ∧ x < 2 ^ (7 * (9 - i) + 1)
  | [], i, acc, v, k, _, h => by simp [rdF] at h
  | c :: l, i, acc, v, k, hi, h => by
    unfold rdF at h
    by_cases h1 : 128 ≤ c.toNat
    · rw [if_pos h1] at h
      by_cases h9 : i = 9
      · rw [if_pos h9] at h; simp at h
      · rw [if_neg h9] at h
        obtain ⟨x, hv, hk1, hk2, ht, h0, hx⟩ := rdF_canon l (i + 1) _ v k (by omega) h
        have hc := u8_lt c
        have hx0 := h0 (by omega)
        refine ⟨(c.toNat - 128) + 128 * x, ?_, by omega, by simp; omega, ?_, by intro _; omega, ?_⟩
        · have e2 : 2 ^ (7 * (i + 1)) = 128 * 2 ^ (7 * i) := by rw [Nat.mul_add, Nat.pow_add, Nat.mul_comm]
          rw [hv, e2, Nat.add_mul, Nat.mul_comm 128 x, Nat.mul_assoc, Nat.add_assoc]
        · have ek : k - i = (k - (i + 1)) + 1 := by omega
          rw [ek, List.take_succ_cons, ht]
          have e10 : 10 - i = (10 - (i + 1)) + 1 := by omega
          rw [e10]
          show _ = uvF ((10 - (i + 1)) + 1) _
          conv => rhs; unfold uvF
          rw [if_neg (by omega)]
          have m1 : (c.toNat - 128 + 128 * x) % 128 + 128 = c.toNat := by omega
          have m2 : (c.toNat - 128 + 128 * x) / 128 = x := by omega
          rw [m1, m2, UInt8.ofNat_toNat]
        · have e3 : 7 * (9 - i) + 1 = (7 * (9 - (i + 1)) + 1) + 7 := by omega
          rw [e3, Nat.pow_add]
          have : (2 : Nat) ^ 7 = 128 := by decide
          omega
    · rw [if_neg h1] at h
      by_cases h2 : c.toNat = 0 ∧ 0 < i
      · rw [if_pos h2] at h; simp at h
      · rw [if_neg h2] at h
        by_cases h3 : i = 9 ∧ 1 < c.toNat
        · rw [if_pos h3] at h; simp at h
        · rw [if_neg h3] at h
          simp only [Prod.mk.injEq, and_true] at h
          obtain ⟨hv, hk⟩ := h
          refine ⟨c.toNat, hv.symm, by omega, by simp; omega, ?_, by omega, ?_⟩
          · have ek : k - i = 1 := by omega
            rw [ek]
            have e10 : 10 - i = (9 - i) + 1 := by omega
            rw [e10]
            unfold uvF
            rw [if_pos (by omega), UInt8.ofNat_toNat]
            rfl
          · by_cases h9 : i = 9
            · subst h9; simp; omega
            · have : (2 : Nat) ^ (7 * (9 - i) + 1) ≥ 2 ^ 8 := Nat.pow_le_pow_right (by decide) (by omega)
              have e8 : (2 : Nat) ^ 8 = 256 := by decide
              omega

theorem rd_canon {l : List UInt8} {v k : Nat} (h : rd l = (v, k, 0)) : l.take k = uv v ∧ 0 < k ∧ k ≤ l.length ∧ v < 18446744073709551616 := by
  obtain ⟨x, hv, h1, h2, h3, _, hx⟩ := rdF_canon l 0 0 v k (by omega) h
  simp at hv h3 hx
  subst hv
  exact ⟨h3, h1, by omega, hx⟩
theorem rd_lt (l : List UInt8) : (rd l).1 < 18446744073709551616 := by
  have gen : ∀ (l : List UInt8) (i acc : Nat), i ≤ 9 → (rdF i acc l).1 < 18446744073709551616 ∨ (rdF i acc l).2.2 = 0 := by
    intro l
    induction l with
    | nil => intro i acc _; left; simp [rdF]
    | cons c l ih =>
      intro i acc hi
      unfold rdF
      by_cases h1 : 128 ≤ c.toNat
      · rw [if_pos h1]
        by_cases h9 : i = 9
        · rw [if_pos h9]; left; simp
        · rw [if_neg h9]; exact ih _ _ (by omega)
      · rw [if_neg h1]
        by_cases h2 : c.toNat = 0 ∧ 0 < i
        · rw [if_pos h2]; left; simp
        · rw [if_neg h2]
          by_cases h3 : i = 9 ∧ 1 < c.toNat
          · rw [if_pos h3]; left; simp
          · rw [if_neg h3]; right; rfl
  rcases gen l 0 0 (by omega) with h | h
  · exact h
  · obtain ⟨v, k, e, hr⟩ : ∃ v k e, rd l = (v, k, e) := ⟨_, _, _, rfl⟩
    have h : (rd l).2.2 = 0 := h
    rw [hr] at h ⊢
    simp at h
    subst h
    exact (rd_canon hr).2.2.2
theorem rd_le (l : List UInt8) (h : (rd l).2.2 = 0) : (rd l).2.1 ≤ l.length := by
  obtain ⟨v, k, e, hr⟩ : ∃ v k e, rd l = (v, k, e) := ⟨_, _, _, rfl⟩
  rw [hr] at h ⊢
  simp at h
  subst h
  exact (rd_canon hr).2.2.1

/-- So many numbers, and what is behind them. -/
def numsR : Nat → List UInt8 → Option (List Nat × List UInt8)
  | 0, l => some ([], l)
  | k + 1, l => match numsR k l with
    | none => none
    | some (vs, r) => if (rd r).2.2 = 0 then some (vs ++ [(rd r).1], r.drop (rd r).2.1) else none
theorem numsR_zero (l : List UInt8) : numsR 0 l = some ([], l) := rfl
theorem numsR_yes {k : Nat} {l r : List UInt8} {vs : List Nat} (h : numsR k l = some (vs, r)) (he : (rd r).2.2 = 0) : numsR (k + 1) l = some (vs ++ [(rd r).1], r.drop (rd r).2.1) := by
  show (match numsR k l with | none => none | some (vs, r) => _) = _
  rw [h]; simp only; rw [if_pos he]
theorem numsR_no1 {k : Nat} {l r : List UInt8} {vs : List Nat} (h : numsR k l = some (vs, r)) (he : (rd r).2.2 ≠ 0) : numsR (k + 1) l = none := by
  show (match numsR k l with | none => none | some (vs, r) => _) = _
  rw [h]; simp only; rw [if_neg he]
theorem numsR_none {k : Nat} {l : List UInt8} (h : numsR k l = none) : numsR (k + 1) l = none := by
  show (match numsR k l with | none => none | some (vs, r) => _) = _
  rw [h]
theorem numsR_none_le {k n : Nat} {l : List UInt8} (h : numsR k l = none) (hk : k ≤ n) : numsR n l = none := by
  obtain ⟨d, rfl⟩ : ∃ d, n = k + d := ⟨n - k, by omega⟩
  clear hk
  induction d with
  | zero => exact h
  | succ d ih => exact numsR_none ih
theorem numsR_no {k n : Nat} {l r : List UInt8} {vs : List Nat} (h : numsR k l = some (vs, r)) (he : (rd r).2.2 ≠ 0) (hk : k < n) : numsR n l = none := numsR_none_le (numsR_no1 h he) hk
theorem numsR_len {l : List UInt8} : ∀ {k : Nat} {r : List UInt8} {vs : List Nat}, numsR k l = some (vs, r) → vs.length = k ∧ r.length ≤ l.length ∧ ∀ v ∈ vs, v < 18446744073709551616
  | 0, r, vs, h => by simp [numsR] at h; obtain ⟨rfl, rfl⟩ := h; simp
  | k + 1, r, vs, h => by
    cases h0 : numsR k l with
    | none => rw [numsR_none h0] at h; simp at h
    | some x =>
      obtain ⟨vs0, r0⟩ := x
      obtain ⟨h1, h2, h3⟩ := numsR_len h0
      by_cases he : (rd r0).2.2 = 0
      · rw [numsR_yes h0 he] at h
        simp only [Option.some.injEq, Prod.mk.injEq] at h
        obtain ⟨rfl, rfl⟩ := h
        refine ⟨by simp; omega, by simp; omega, ?_⟩
        intro v hv
        rcases List.mem_append.1 hv with hv | hv
        · exact h3 v hv
        · simp at hv; subst hv; exact rd_lt _
      · rw [numsR_no1 h0 he] at h; simp at h

/-- A message's parts out of a record's bytes. -/
def bodyD (p : List UInt8) : Option (Nat × Nat × Nat × List Nat × List UInt8) :=
  match numsR 4 p with
  | some ([f, t, k, c], r1) => if f ≤ 2147483647 ∧ t ≤ 2147483647 ∧ k ≤ 2147483647 ∧ c ≤ 64 then
      (match numsR c r1 with
      | some (l, r2) => if (rd r2).2.2 = 0 ∧ (rd r2).1 = (r2.drop (rd r2).2.1).length ∧ (rd r2).1 ≤ 1047552 then some (f, t, k, l, r2.drop (rd r2).2.1) else none
      | none => none) else none
  | _ => none
/-- Zag of numbers. -/
def zagL (l : List Nat) : List Int := l.map fun n => zag (UInt64.ofNat n)
/-- What bytes are: a message's parts, how many bytes, the error. -/
def wDec (b : List UInt8) : (Int × Int × Int × List Int × List UInt8) × Nat × Nat :=
  if (decR b).2.2 ≠ 0 then ((0, 0, 0, [], []), 0, (decR b).2.2) else
  match bodyD (decR b).1 with
  | some (f, t, k, l, d) => ((f, t, k, zagL l, d), (decR b).2.1, 0)
  | none => ((0, 0, 0, [], []), 0, 3)

/-- The reader: what is left, and is it bad. The next number. -/
def nextS (s : List UInt8 × Bool) : Nat × List UInt8 × Bool :=
  if s.2 = true then (0, s) else if (rd s.1).2.2 = 0 then ((rd s.1).1, s.1.drop (rd s.1).2.1, false) else (0, s.1, true)
def upS (most : Nat) (s : List UInt8 × Bool) : Nat × List UInt8 × Bool :=
  if most < (nextS s).1 then (0, (nextS s).2.1, true) else nextS s
/-- So many next numbers. -/
def repS : Nat → List UInt8 × Bool → List Nat × List UInt8 × Bool
  | 0, s => ([], s)
  | k + 1, s => ((repS k s).1 ++ [(nextS (repS k s).2).1], (nextS (repS k s).2).2)
theorem repS_len (s : List UInt8 × Bool) : ∀ k, (repS k s).1.length = k
  | 0 => rfl
  | k + 1 => by show ((repS k s).1 ++ _).length = _; simp [repS_len s k]
theorem nextS_lt (s : List UInt8 × Bool) : (nextS s).1 < 18446744073709551616 := by
  unfold nextS; split
  · show 0 < _; decide
  · split
    · exact rd_lt _
    · show 0 < _; decide
theorem upS_le (most : Nat) (s : List UInt8 × Bool) : (upS most s).1 ≤ most := by
  unfold upS; split
  · exact Nat.zero_le _
  · omega
def bodyI (p : List UInt8) : Option (Nat × Nat × Nat × List Nat × List UInt8) :=
  let s1 := upS 2147483647 (p, false)
  let s2 := upS 2147483647 s1.2
  let s3 := upS 2147483647 s2.2
  let s4 := upS 64 s3.2
  let s5 := repS s4.1 s4.2
  let s6 := upS 1047552 s5.2
  if s6.2.2 = true ∨ s6.1 ≠ s6.2.1.length then none else some (s1.1, s2.1, s3.1, s5.1, s6.2.1)

theorem nextS_bad {s : List UInt8 × Bool} (h : s.2 = true) : nextS s = (0, s) := by unfold nextS; rw [if_pos h]
theorem upS_bad {s : List UInt8 × Bool} (most : Nat) (h : s.2 = true) : upS most s = (0, s) := by
  unfold upS; rw [nextS_bad h, if_neg (by omega)]
theorem repS_bad {s : List UInt8 × Bool} (h : s.2 = true) : ∀ k, (repS k s).2 = s
  | 0 => rfl
  | k + 1 => by show (nextS (repS k s).2).2 = s; rw [repS_bad h k, nextS_bad h]
/-- A number that may be read. -/
theorem upS_good {l : List UInt8} {most : Nat} (h : (upS most (l, false)).2.2 = false) : (rd l).2.2 = 0 ∧ (rd l).1 ≤ most ∧ upS most (l, false) = ((rd l).1, l.drop (rd l).2.1, false) := by
  unfold upS nextS at h ⊢
  simp only [Bool.false_eq_true, if_false] at h ⊢
  by_cases he : (rd l).2.2 = 0
  · rw [if_pos he] at h ⊢
    by_cases hm : most < (rd l).1
    · rw [if_pos hm] at h; simp at h
    · exact ⟨he, by omega, by rw [if_neg hm]⟩
  · rw [if_neg he] at h
    simp at h
theorem upS_yes {l : List UInt8} {most : Nat} (he : (rd l).2.2 = 0) (hm : (rd l).1 ≤ most) : upS most (l, false) = ((rd l).1, l.drop (rd l).2.1, false) := by
  unfold upS nextS
  simp only [Bool.false_eq_true, if_false]
  rw [if_pos he, if_neg (by simp; omega)]
theorem upS_or (most : Nat) (l : List UInt8) : ((rd l).2.2 = 0 ∧ (rd l).1 ≤ most) ∨ (upS most (l, false)).2.2 = true := by
  cases h : (upS most (l, false)).2.2 with
  | true => exact .inr rfl
  | false => obtain ⟨h1, h2, _⟩ := upS_good h; exact .inl ⟨h1, h2⟩
theorem repS_numsR {l : List UInt8} : ∀ k, (∃ vs r, numsR k l = some (vs, r) ∧ repS k (l, false) = (vs, r, false)) ∨ (numsR k l = none ∧ (repS k (l, false)).2.2 = true)
  | 0 => .inl ⟨[], l, rfl, rfl⟩
  | k + 1 => by
    rcases repS_numsR (l := l) k with ⟨vs, r, h1, h2⟩ | ⟨h1, h2⟩
    · have e : repS (k + 1) (l, false) = (vs ++ [(nextS (r, false)).1], (nextS (r, false)).2) := by
        show ((repS k (l, false)).1 ++ [(nextS (repS k (l, false)).2).1], (nextS (repS k (l, false)).2).2) = _
        rw [h2]
      have en : nextS (r, false) = if (rd r).2.2 = 0 then ((rd r).1, r.drop (rd r).2.1, false) else (0, r, true) := by
        unfold nextS; simp
      by_cases he : (rd r).2.2 = 0
      · left
        rw [if_pos he] at en
        exact ⟨_, _, numsR_yes h1 he, by rw [e, en]⟩
      · right
        rw [if_neg he] at en
        exact ⟨numsR_no1 h1 he, by rw [e, en]⟩
    · right
      refine ⟨numsR_none h1, ?_⟩
      show (nextS (repS k (l, false)).2).2.2 = true
      rw [nextS_bad h2]; exact h2

theorem upS_false {most : Nat} {s : List UInt8 × Bool} (h : (upS most s).2.2 = false) : s.2 = false := by
  cases hs : s.2 with
  | false => rfl
  | true => rw [upS_bad most hs] at h; rw [← h]; exact hs.symm
theorem repS_false {k : Nat} {s : List UInt8 × Bool} (h : (repS k s).2.2 = false) : s.2 = false := by
  cases hs : s.2 with
  | false => rfl
  | true => rw [repS_bad hs k] at h; rw [← h]; exact hs.symm
/-- A number read, out of a reader that is not bad behind it. -/
theorem upS_was {most v : Nat} {s : List UInt8 × Bool} {l' : List UInt8} (h : upS most s = (v, l', false)) : ∃ l, s = (l, false) ∧ (rd l).2.2 = 0 ∧ (rd l).1 ≤ most ∧ v = (rd l).1 ∧ l' = l.drop (rd l).2.1 := by
  obtain ⟨l, b⟩ := s
  have hb := upS_false (most := most) (s := (l, b)) (by rw [h])
  have hb : b = false := hb
  subst hb
  obtain ⟨h1, h2, h3⟩ := upS_good (l := l) (most := most) (by rw [h])
  rw [h3] at h
  simp only [Prod.mk.injEq, and_true] at h
  exact ⟨l, rfl, h1, h2, h.1.symm, h.2.symm⟩
theorem numsR_inv {k : Nat} {l r : List UInt8} {vs : List Nat} (h : numsR (k + 1) l = some (vs, r)) :
    ∃ vs0 r0, numsR k l = some (vs0, r0) ∧ (rd r0).2.2 = 0 ∧ vs = vs0 ++ [(rd r0).1] ∧ r = r0.drop (rd r0).2.1 := by
  cases h0 : numsR k l with
  | none => rw [numsR_none h0] at h; simp at h
  | some x =>
    obtain ⟨vs0, r0⟩ := x
    by_cases he : (rd r0).2.2 = 0
    · rw [numsR_yes h0 he] at h
      simp only [Option.some.injEq, Prod.mk.injEq] at h
      exact ⟨vs0, r0, rfl, he, h.1.symm, h.2.symm⟩
    · rw [numsR_no1 h0 he] at h; simp at h

/-- What bytes of a message are. -/
def BodyOf (p : List UInt8) (m : Nat × Nat × Nat × List Nat × List UInt8) : Prop :=
  ∃ c r1 r2, numsR 4 p = some ([m.1, m.2.1, m.2.2.1, c], r1) ∧ m.1 ≤ 2147483647 ∧ m.2.1 ≤ 2147483647 ∧ m.2.2.1 ≤ 2147483647 ∧ c ≤ 64 ∧ numsR c r1 = some (m.2.2.2.1, r2) ∧ (rd r2).2.2 = 0 ∧ (rd r2).1 = m.2.2.2.2.length ∧ (rd r2).1 ≤ 1047552 ∧ m.2.2.2.2 = r2.drop (rd r2).2.1
theorem bodyD_iff (p : List UInt8) (m : Nat × Nat × Nat × List Nat × List UInt8) : bodyD p = some m ↔ BodyOf p m := by
  constructor
  · intro h
    unfold bodyD at h
    split at h
    · rename_i f t k c r1 h4
      split at h
      · rename_i hb
        split at h
        · rename_i l r2 hc
          split at h
          · rename_i hz
            simp only [Option.some.injEq] at h
            subst h
            exact ⟨c, r1, r2, h4, hb.1, hb.2.1, hb.2.2.1, hb.2.2.2, hc, hz.1, hz.2.1, hz.2.2, rfl⟩
          · simp at h
        · simp at h
      · simp at h
    · simp at h
  · rintro ⟨c, r1, r2, h4, h1, h2, h3, hc, hn, e1, e2, e3, e4⟩
    obtain ⟨f, t, k, l, d⟩ := m
    simp only at h4 h1 h2 h3 hn e2 e4
    unfold bodyD
    rw [h4]
    simp only
    rw [if_pos ⟨h1, h2, h3, hc⟩, hn]
    simp only
    rw [← e4, if_pos ⟨e1, e2, e3⟩]
theorem bodyI_iff (p : List UInt8) (m : Nat × Nat × Nat × List Nat × List UInt8) : bodyI p = some m ↔ BodyOf p m := by
  obtain ⟨v1, l1, b1, h1⟩ : ∃ v l b, upS 2147483647 (p, false) = (v, l, b) := ⟨_, _, _, rfl⟩
  obtain ⟨v2, l2, b2, h2⟩ : ∃ v l b, upS 2147483647 (l1, b1) = (v, l, b) := ⟨_, _, _, rfl⟩
  obtain ⟨v3, l3, b3, h3⟩ : ∃ v l b, upS 2147483647 (l2, b2) = (v, l, b) := ⟨_, _, _, rfl⟩
  obtain ⟨v4, l4, b4, h4⟩ : ∃ v l b, upS 64 (l3, b3) = (v, l, b) := ⟨_, _, _, rfl⟩
  obtain ⟨vs, l5, b5, h5⟩ : ∃ v l b, repS v4 (l4, b4) = (v, l, b) := ⟨_, _, _, rfl⟩
  obtain ⟨v6, l6, b6, h6⟩ : ∃ v l b, upS 1047552 (l5, b5) = (v, l, b) := ⟨_, _, _, rfl⟩
  have hI : bodyI p = if b6 = true ∨ v6 ≠ l6.length then none else some (v1, v2, v3, vs, l6) := by
    unfold bodyI; simp only [h1, h2, h3, h4, h5, h6]
  rw [hI]
  constructor
  · intro h
    by_cases hb : b6 = true ∨ v6 ≠ l6.length
    · rw [if_pos hb] at h; simp at h
    · rw [if_neg hb] at h
      simp only [Option.some.injEq] at h
      subst h
      have hb6 : b6 = false := by cases b6 with | false => rfl | true => exact absurd (.inl rfl) hb
      have hv6 : v6 = l6.length := by
        rcases Nat.decEq v6 l6.length with h | h
        · exact absurd (.inr h) hb
        · exact h
      subst hb6
      obtain ⟨r5, e5, c5, m5, f5, g5⟩ := upS_was h6
      simp only [Prod.mk.injEq] at e5
      obtain ⟨rfl, rfl⟩ := e5
      have hb4 := repS_false (k := v4) (s := (l4, b4)) (by rw [h5])
      have hb4 : b4 = false := hb4
      subst hb4
      obtain ⟨r3, e3, c3, m3, f3, g3⟩ := upS_was h4
      simp only [Prod.mk.injEq] at e3
      obtain ⟨rfl, rfl⟩ := e3
      obtain ⟨r2, e2, c2, m2, f2, g2⟩ := upS_was h3
      simp only [Prod.mk.injEq] at e2
      obtain ⟨rfl, rfl⟩ := e2
      obtain ⟨r1, e1, c1, m1, f1, g1⟩ := upS_was h2
      simp only [Prod.mk.injEq] at e1
      obtain ⟨rfl, rfl⟩ := e1
      obtain ⟨r0, e0, c0, m0, f0, g0⟩ := upS_was h1
      simp only [Prod.mk.injEq, and_true] at e0
      subst e0
      have n1 := numsR_yes (numsR_zero p) c0
      rw [← g0] at n1
      have n2 := numsR_yes n1 c1
      rw [← g1] at n2
      have n3 := numsR_yes n2 c2
      rw [← g2] at n3
      have n4 := numsR_yes n3 c3
      rw [← g3, ← f0, ← f1, ← f2, ← f3] at n4
      rcases repS_numsR (l := l4) v4 with ⟨vs', r', q1, q2⟩ | ⟨_, q2⟩
      · rw [h5] at q2
        simp only [Prod.mk.injEq, and_true] at q2
        obtain ⟨rfl, rfl⟩ := q2
        exact ⟨v4, l4, l5, n4, by simp only; omega, by simp only; omega, by simp only; omega, by omega, q1, c5, by simp only; omega, m5, g5⟩
      · rw [h5] at q2; simp at q2
  · rintro ⟨c, r1, r2, hn4, m1, m2, m3, mc, hnc, e5, d5, m5, g5⟩
    obtain ⟨w3, q3, n3, c3, f3, g3⟩ := numsR_inv hn4
    obtain ⟨w2, q2, n2, c2, f2, g2⟩ := numsR_inv n3
    obtain ⟨w1, q1, n1, c1, f1, g1⟩ := numsR_inv n2
    obtain ⟨w0, q0, n0, c0, f0, g0⟩ := numsR_inv n1
    rw [numsR_zero] at n0
    simp only [Option.some.injEq, Prod.mk.injEq] at n0
    obtain ⟨rfl, rfl⟩ := n0
    subst f0 f1 f2
    simp only [List.nil_append, List.cons_append, List.cons.injEq, and_true] at f3
    obtain ⟨k1, k2, k3, k4⟩ := f3
    rw [upS_yes c0 (by omega)] at h1
    simp only [Prod.mk.injEq] at h1
    obtain ⟨rfl, rfl, rfl⟩ := h1
    rw [← g0, upS_yes c1 (by omega)] at h2
    simp only [Prod.mk.injEq] at h2
    obtain ⟨rfl, rfl, rfl⟩ := h2
    rw [← g1, upS_yes c2 (by omega)] at h3
    simp only [Prod.mk.injEq] at h3
    obtain ⟨rfl, rfl, rfl⟩ := h3
    rw [← g2, upS_yes c3 (by omega)] at h4
    simp only [Prod.mk.injEq] at h4
    obtain ⟨rfl, rfl, rfl⟩ := h4
    rw [← g3, ← k4] at h5
    rcases repS_numsR (l := r1) c with ⟨vs', r', z1, z2⟩ | ⟨z1, z2⟩
    · rw [hnc] at z1
      simp only [Option.some.injEq, Prod.mk.injEq] at z1
      obtain ⟨rfl, rfl⟩ := z1
      rw [z2] at h5
      simp only [Prod.mk.injEq] at h5
      obtain ⟨rfl, rfl, rfl⟩ := h5
      rw [upS_yes e5 m5] at h6
      simp only [Prod.mk.injEq] at h6
      obtain ⟨rfl, rfl, rfl⟩ := h6
      rw [← g5, if_neg (by simp; exact d5), ← k1, ← k2, ← k3]
    · rw [hnc] at z1; simp at z1
/-- The program's way and the document's. -/
theorem bodyI_eq (p : List UInt8) : bodyI p = bodyD p := by
  cases h : bodyD p with
  | some m => exact (bodyI_iff p m).2 ((bodyD_iff p m).1 h)
  | none =>
    cases h' : bodyI p with
    | none => rfl
    | some m => rw [(bodyD_iff p m).2 ((bodyI_iff p m).1 h')] at h; simp at h
end Go.Proofs.Yteenbobblbehoaa
