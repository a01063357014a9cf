/- Records of which the end is torn off: the plain law. Conditions: each law's own premises. -/
import Derived.Test.YtnohhhlgfnjaoaaScanL
import Derived.Test.YtnohhhlgfnjaoaaDecLaw
namespace Go.Proofs.Ytnohhhlgfnjaoaa
open Go Go.RowKit

/-- Records one behind the other. -/
def encA (L : List (List UInt8)) : List UInt8 := (L.map encL).flatten
/-- How many bytes they take. -/
def plen : List (List UInt8) → Nat
  | [] => 0
  | l :: L => 8 + l.length + plen L
theorem encA_length : ∀ L, (encA L).length = plen L
  | [] => rfl
  | l :: L => by
    show (encL l ++ encA L).length = _
    rw [List.length_append, encL_length, encA_length L]; rfl
theorem plen_append : ∀ L M, plen (L ++ M) = plen L + plen M
  | [], M => by simp [plen]
  | l :: L, M => by show 8 + l.length + plen (L ++ M) = 8 + l.length + plen L + plen M; rw [plen_append L M]; omega
theorem encA_snoc (L : List (List UInt8)) (l : List UInt8) : encA (L ++ [l]) = encA L ++ encL l := by simp [encA]
theorem plen_snoc (L : List (List UInt8)) (l : List UInt8) : plen (L ++ [l]) = plen L + (8 + l.length) := by rw [plen_append]; rfl
theorem plen_take (L : List (List UInt8)) (k : Nat) (h : k < L.length) : plen (L.take (k + 1)) = plen (L.take k) + (8 + L[k].length) := by
  rw [List.take_succ_eq_append_getElem h, plen_snoc]
theorem plen_len : ∀ L : List (List UInt8), 8 * L.length ≤ plen L
  | [] => Nat.le_refl _
  | l :: L => by have := plen_len L; simp only [List.length_cons, plen]; omega
theorem plen_take_le (L : List (List UInt8)) (k : Nat) : plen (L.take k) ≤ plen L := by
  have h := plen_append (L.take k) (L.drop k)
  rw [List.take_append_drop] at h; omega
theorem plen_mem : ∀ (L : List (List UInt8)) (l : List UInt8), l ∈ L → 8 + l.length ≤ plen L
  | x :: L, l, h => by
    rcases List.mem_cons.1 h with rfl | h
    · show 8 + l.length ≤ 8 + l.length + plen L; omega
    · have := plen_mem L l h; show 8 + l.length ≤ 8 + x.length + plen L; omega

theorem dec_torn (l m : List UInt8) (hn : l.length ≤ 1048576) (k : Nat) (hk : k < 8 + l.length) : decR ((encL l ++ m).take k) = ([], 0, 2) := by
  have hlen : ((encL l ++ m).take k).length = k := by rw [List.length_take, List.length_append, encL_length]; omega
  unfold decR
  rw [hlen]
  by_cases h8 : k < 8
  · rw [if_pos h8]
  · rw [if_neg h8]
    have ht : ((encL l ++ m).take k).take 4 = putL 4 l.length := by
      rw [List.take_take, Nat.min_eq_left (by omega), encL_app, List.take_left' (putL_length _ _)]
    have hg : getN (putL 4 l.length) = l.length := by rw [getN_putL]; exact Nat.mod_eq_of_lt (by omega)
    rw [ht, hg, if_neg (by omega), if_pos hk]

theorem scan_tear : ∀ (L : List (List UInt8)) (k j : Nat), (∀ l ∈ L, l.length ≤ 1048576) → k ≤ plen L → j ≤ L.length → plen (L.take j) ≤ k → (j = L.length ∨ k < plen (L.take (j + 1))) →
    scanR ((encA L).take k) = (L.take j, plen (L.take j), if plen (L.take j) = k then 0 else 2)
  | [], k, j, _, hk, hj, _, _ => by
    have hk0 : k = 0 := by simpa [plen] using hk
    subst hk0
    have : j = 0 := by simpa using hj
    subst this
    rfl
  | l :: L, k, 0, hm, _, _, _, hor => by
    have hk : k < 8 + l.length := by
      rcases hor with h | h
      · simp at h
      · simpa [plen] using h
    by_cases h0 : k = 0
    · subst h0; rfl
    · have e : encA (l :: L) = encL l ++ encA L := rfl
      have hl : l.length ≤ 1048576 := hm l (by simp)
      rw [e, scanR_cons _ (by rw [List.length_take, List.length_append, encL_length]; omega), dec_torn l _ hl k hk]
      have : ¬ 0 = k := by omega
      simp [plen, this]
  | l :: L, k, j + 1, hm, hk, hj, hp, hor => by
    have e : encA (l :: L) = encL l ++ encA L := rfl
    have hl : l.length ≤ 1048576 := hm l (by simp)
    have hp : 8 + l.length + plen (L.take j) ≤ k := hp
    have hk : k ≤ 8 + l.length + plen L := hk
    have hor : j = L.length ∨ k < 8 + l.length + plen (L.take (j + 1)) := by
      rcases hor with h | h
      · left; simpa using h
      · right; exact h
    have et : (encL l ++ encA L).take k = encL l ++ (encA L).take (k - (8 + l.length)) := by
      rw [List.take_append, encL_length, List.take_of_length_le (by rw [encL_length]; omega)]
    have ih := scan_tear L (k - (8 + l.length)) j (fun x hx => hm x (by simp [hx])) (by omega) (by simpa using hj) (by omega) (by rcases hor with h | h; exact .inl h; right; omega)
    rw [e, et, scanR_cons _ (by rw [List.length_append, encL_length]; omega), dec_enc l _ hl]
    simp only [if_true]
    rw [List.drop_left' (encL_length l), ih]
    show (l :: L.take j, 8 + l.length + plen (L.take j), if plen (L.take j) = k - (8 + l.length) then 0 else 2) = (l :: L.take j, 8 + l.length + plen (L.take j), if 8 + l.length + plen (L.take j) = k then 0 else 2)
    by_cases hq : plen (L.take j) = k - (8 + l.length)
    · rw [if_pos hq, if_pos (by omega)]
    · rw [if_neg hq, if_neg (by omega)]
end Go.Proofs.Ytnohhhlgfnjaoaa
