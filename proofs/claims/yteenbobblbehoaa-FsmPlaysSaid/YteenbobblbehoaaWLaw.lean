/- Messages there and back: plain laws. Conditions: each law's own premises. -/
import Derived.Test.YteenbobblbehoaaWDecL
import Derived.Test.YteenbobblbehoaaWAny
import Derived.Test.YteenbobblbehoaaDecLaw
namespace Go.Proofs.Yteenbobblbehoaa
open Go Go.RowKit

/-- Numbers' bytes, one behind the other. -/
def flatU (vs : List Nat) : List UInt8 := (vs.map uv).flatten
theorem flatU_cons (v : Nat) (vs : List Nat) : flatU (v :: vs) = uv v ++ flatU vs := rfl
theorem flatU_snoc (vs : List Nat) (v : Nat) : flatU (vs ++ [v]) = flatU vs ++ uv v := by simp [flatU]
theorem numsL_flat (l : List Int) : numsL l = flatU (l.map zigN) := by simp [numsL, flatU, Function.comp_def]

theorem numsR_flat (vs : List Nat) (m : List UInt8) (h : ∀ v ∈ vs, v < 18446744073709551616) : ∀ k, k ≤ vs.length → numsR k (flatU vs ++ m) = some (vs.take k, flatU (vs.drop k) ++ m)
  | 0, _ => by simp [numsR]
  | k + 1, hk => by
    have ih := numsR_flat vs m h k (by omega)
    have hd : vs.drop k = vs[k] :: vs.drop (k + 1) := List.drop_eq_getElem_cons (by omega)
    rw [hd, flatU_cons, List.append_assoc] at ih
    have hr := rd_uv vs[k] (h _ (List.getElem_mem _)) (flatU (vs.drop (k + 1)) ++ m)
    have := numsR_yes ih (by rw [hr])
    rw [hr] at this
    simp only at this
    rw [this, List.take_succ_eq_append_getElem (by omega), List.drop_left' rfl]
theorem numsR_all (vs : List Nat) (m : List UInt8) (h : ∀ v ∈ vs, v < 18446744073709551616) : numsR vs.length (flatU vs ++ m) = some (vs, m) := by
  have := numsR_flat vs m h vs.length (Nat.le_refl _)
  rw [List.take_length, List.drop_length] at this
  simpa [flatU] using this
/-- What was read stood there. -/
theorem numsR_back {l : List UInt8} : ∀ {k : Nat} {vs : List Nat} {r : List UInt8}, numsR k l = some (vs, r) → l = flatU vs ++ r
  | 0, vs, r, h => by simp [numsR] at h; obtain ⟨rfl, rfl⟩ := h; simp [flatU]
  | k + 1, vs, r, h => by
    obtain ⟨vs0, r0, h0, he, rfl, rfl⟩ := numsR_inv h
    have ih := numsR_back h0
    obtain ⟨v, j, e, hr⟩ : ∃ v j e, rd r0 = (v, j, e) := ⟨_, _, _, rfl⟩
    rw [hr] at he ⊢
    simp only at he ⊢
    subst he
    have hc := (rd_canon hr).1
    rw [flatU_snoc, List.append_assoc, ← hc, List.take_append_drop]
    exact ih
theorem zigN_lt {n : Int} (h : -9223372036854775808 ≤ n ∧ n ≤ 9223372036854775807) : zigN n < 18446744073709551616 := by
  unfold zigN; split <;> omega
theorem zag_zigN {n : Int} (h : -9223372036854775808 ≤ n ∧ n ≤ 9223372036854775807) : zag (UInt64.ofNat (zigN n)) = n := zag_zig h
theorem zigN_zag {v : Nat} (h : v < 18446744073709551616) : zigN (zag (UInt64.ofNat v)) = v := by
  have h1 := zig_zag (UInt64.ofNat v)
  have h2 := congrArg UInt64.toNat h1
  rw [zig_toNat (zag_range _), UInt64.toNat_ofNat', Nat.mod_eq_of_lt h] at h2
  exact h2
theorem zagL_zig (l : List Int) (h : ∀ n ∈ l, -9223372036854775808 ≤ n ∧ n ≤ 9223372036854775807) : zagL (l.map zigN) = l := by
  unfold zagL
  rw [List.map_map]
  conv => rhs; rw [← List.map_id l]
  apply List.map_congr_left
  intro n hn
  exact zag_zigN (h n hn)
theorem zig_zagL (l : List Nat) (h : ∀ v ∈ l, v < 18446744073709551616) : (zagL l).map zigN = l := by
  unfold zagL
  rw [List.map_map]
  conv => rhs; rw [← List.map_id l]
  apply List.map_congr_left
  intro v hv
  exact zigN_zag (h v hv)

theorem bodyL_flat (v0 v1 v2 : Nat) (nums : List Int) (data : List UInt8) :
    bodyL v0 v1 v2 nums data = flatU [v0, v1, v2, nums.length] ++ (flatU (nums.map zigN) ++ (uv data.length ++ data)) := by
  unfold bodyL; rw [numsL_flat]; simp [flatU]
theorem bodyL_len (v0 v1 v2 : Nat) (nums : List Int) (data : List UInt8) (hn : nums.length ≤ 64) (hd : data.length ≤ 1047552) : (bodyL v0 v1 v2 nums data).length ≤ 1048576 := by
  unfold bodyL
  have h0 := uv_len v0
  have h1 := uv_len v1
  have h2 := uv_len v2
  have h3 := uv_len nums.length
  have h4 := uv_len data.length
  have h5 := numsL_len nums
  simp only [List.length_append]; omega
theorem bodyD_bodyL (v0 v1 v2 : Nat) (h0 : v0 ≤ 2147483647) (h1 : v1 ≤ 2147483647) (h2 : v2 ≤ 2147483647) (nums : List Int) (data : List UInt8) (hb : ∀ n ∈ nums, -9223372036854775808 ≤ n ∧ n ≤ 9223372036854775807) (hn : nums.length ≤ 64) (hd : data.length ≤ 1047552) :
    bodyD (bodyL v0 v1 v2 nums data) = some (v0, v1, v2, nums.map zigN, data) := by
  rw [bodyD_iff, bodyL_flat]
  have hz : ∀ v ∈ nums.map zigN, v < 18446744073709551616 := by
    intro v hv
    obtain ⟨n, hn, rfl⟩ := List.mem_map.1 hv
    exact zigN_lt (hb n hn)
  have a1 := numsR_all [v0, v1, v2, nums.length] (flatU (nums.map zigN) ++ (uv data.length ++ data)) (by intro v hv; simp at hv; omega)
  have a2 := numsR_all (nums.map zigN) (uv data.length ++ data) hz
  have a3 := rd_uv data.length (by omega) data
  rw [List.length_map] at a2
  refine ⟨nums.length, _, _, a1, h0, h1, h2, hn, a2, by rw [a3], by rw [a3], by rw [a3]; exact hd, ?_⟩
  rw [a3]
  exact (List.drop_left' rfl).symm
/-- What was written is read, whatever stands behind. -/
theorem wDec_back (fr to kd : Int) (nums : List Int) (data more : List UInt8) (q0 : smallB fr = true) (q1 : smallB to = true) (q2 : smallB kd = true) (hb : ∀ n ∈ nums, -9223372036854775808 ≤ n ∧ n ≤ 9223372036854775807) (hn : nums.length ≤ 64) (hd : data.length ≤ 1047552) :
    wDec (encL (bodyL fr.toNat to.toNat kd.toNat nums data) ++ more) = ((fr, to, kd, nums, data), 8 + (bodyL fr.toNat to.toNat kd.toNat nums data).length, 0) := by
  simp only [smallB, Bool.and_eq_true, decide_eq_true_eq] at q0 q1 q2
  have hd1 := dec_enc (bodyL fr.toNat to.toNat kd.toNat nums data) more (bodyL_len _ _ _ _ _ hn hd)
  have hb2 := bodyD_bodyL fr.toNat to.toNat kd.toNat (by omega) (by omega) (by omega) nums data hb hn hd
  unfold wDec
  rw [hd1]
  simp only [ne_eq, not_true_eq_false, if_false]
  rw [hb2]
  simp only
  rw [zagL_zig nums hb, Int.toNat_of_nonneg (by omega), Int.toNat_of_nonneg (by omega), Int.toNat_of_nonneg (by omega)]

/-- A record that was read is the one that was written. -/
theorem decR_encL {b p : List UInt8} {n : Nat} (h : decR b = (p, n, 0)) : encL p = b.take n ∧ n ≤ b.length ∧ n = 8 + p.length := by
  unfold decR at h
  by_cases h1 : b.length < 8
  · rw [if_pos h1] at h; simp at h
  rw [if_neg h1] at h
  by_cases h2 : 1048576 < getN (b.take 4)
  · rw [if_pos h2] at h; simp at h
  rw [if_neg h2] at h
  by_cases h3 : b.length < 8 + getN (b.take 4)
  · rw [if_pos h3] at h; simp at h
  rw [if_neg h3] at h
  by_cases h4 : (crc (b.take 4 ++ (b.drop 8).take (getN (b.take 4)))).toNat = getN ((b.drop 4).take 4)
  · rw [if_pos h4] at h
    simp only [Prod.mk.injEq, and_true] at h
    obtain ⟨rfl, rfl⟩ := h
    have hl : ((b.drop 8).take (getN (b.take 4))).length = getN (b.take 4) := by rw [List.length_take, List.length_drop]; omega
    refine ⟨?_, by omega, by rw [hl]⟩
    have e1 : putL 4 (getN (b.take 4)) = b.take 4 := by
      apply getN_inj
      · rw [putL_length, List.length_take]; omega
      · rw [getN_putL]; exact Nat.mod_eq_of_lt (by omega)
    have e2 : putL 4 (getN ((b.drop 4).take 4)) = (b.drop 4).take 4 := by
      have hl4 : ((b.drop 4).take 4).length = 4 := by rw [List.length_take, List.length_drop]; omega
      have hlt := getN_lt ((b.drop 4).take 4)
      rw [hl4] at hlt
      apply getN_inj
      · rw [putL_length, hl4]
      · rw [getN_putL]; exact Nat.mod_eq_of_lt hlt
    unfold encL
    rw [hl, e1, h4, e2]
    have e3 : b.take (8 + getN (b.take 4)) = b.take 4 ++ ((b.drop 4).take 4 ++ (b.drop 8).take (getN (b.take 4))) := by
      rw [show 8 + getN (b.take 4) = 4 + (4 + getN (b.take 4)) by omega, List.take_add, List.take_add, List.drop_drop]
    rw [e3]
    simp only [List.append_assoc]
  · rw [if_neg h4] at h; simp at h

/-- What is read is written as just these bytes. -/
theorem wDec_once {b : List UInt8} {fr to kd : Int} {nums : List Int} {data : List UInt8} {n : Nat} (h : wDec b = ((fr, to, kd, nums, data), n, 0)) :
    wEnc fr to kd nums data = (b.take n, 0) ∧ n ≤ b.length ∧ 8 ≤ n ∧ ∀ x ∈ nums, -9223372036854775808 ≤ x ∧ x ≤ 9223372036854775807 := by
  unfold wDec at h
  by_cases hE : (decR b).2.2 ≠ 0
  · rw [if_pos hE] at h
    simp only [Prod.mk.injEq] at h
    exact absurd h.2.2 hE
  rw [if_neg hE] at h
  obtain ⟨p, N, E, hD⟩ : ∃ p N E, decR b = (p, N, E) := ⟨_, _, _, rfl⟩
  rw [hD] at h hE
  simp only [ne_eq, Decidable.not_not] at hE
  subst hE
  simp only at h
  obtain ⟨e1, e2, e3⟩ := decR_encL hD
  cases hB : bodyD p with
  | none => rw [hB] at h; simp at h
  | some m =>
    obtain ⟨f, t, k, l, d⟩ := m
    rw [hB] at h
    simp only [Prod.mk.injEq, and_true] at h
    obtain ⟨⟨rfl, rfl, rfl, rfl, rfl⟩, rfl⟩ := h
    obtain ⟨c, r1, r2, h4, hf, ht, hk, hc, hn, g1, g2, g3, g4⟩ := (bodyD_iff p _).1 hB
    simp only at h4 hf ht hk hn g2 g4
    obtain ⟨hl1, _, hl2⟩ := numsR_len hn
    have hp : p = bodyL f t k (zagL l) d := by
      rw [bodyL_flat, zig_zagL l hl2]
      have b1 := numsR_back h4
      have b2 := numsR_back hn
      have b3 : r2 = uv d.length ++ d := by
        obtain ⟨v, j, e, hr⟩ : ∃ v j e, rd r2 = (v, j, e) := ⟨_, _, _, rfl⟩
        rw [hr] at g1 g2 g4
        simp only at g1 g2 g4
        subst g1
        rw [← g2, ← (rd_canon hr).1, g4, List.take_append_drop]
      have b4 : (zagL l).length = c := by simp [zagL]; exact hl1
      rw [b4, ← b3, ← b2]
      exact b1
    have hzl : (zagL l).length ≤ 64 := by simp [zagL]; omega
    have hsm : ∀ v : Nat, v ≤ 2147483647 → smallB (v : Int) = true := by intro v hv; unfold smallB; simp; omega
    refine ⟨?_, e2, by omega, ?_⟩
    · rcases wEnc_cases (f : Int) (t : Int) (k : Int) (zagL l) d with ⟨hb, _⟩ | ⟨_, hb, _⟩ | ⟨_, _, _, _, _, he⟩
      · simp only [wBad, hsm f hf, hsm t ht, hsm k hk, Bool.not_true, Bool.false_or, decide_eq_true_eq] at hb
        omega
      · omega
      · rw [he]
        simp only [Int.toNat_natCast]
        rw [← hp, e1]
    · intro x hx
      unfold zagL at hx
      obtain ⟨v, _, rfl⟩ := List.mem_map.1 hx
      exact zag_range _
end Go.Proofs.Yteenbobblbehoaa
