/- Records one behind the other: the plain function and its laws. Conditions: each law's own premises. -/
import Derived.Test.YtnohhhlgfnjaoaaDecode
namespace Go.Proofs.Ytnohhhlgfnjaoaa
open Go Go.RowKit

def scanF : Nat → List UInt8 → List (List UInt8) × Nat × Nat
  | 0, _ => ([], 0, 0)
  | f + 1, b => if b.length = 0 then ([], 0, 0) else if (decR b).2.2 = 0 then
      ((decR b).1 :: (scanF f (b.drop (decR b).2.1)).1, (decR b).2.1 + (scanF f (b.drop (decR b).2.1)).2.1, (scanF f (b.drop (decR b).2.1)).2.2) else ([], 0, (decR b).2.2)
/-- The records from the beginning on, how many bytes they take, and why there are no more. -/
def scanR (b : List UInt8) : List (List UInt8) × Nat × Nat := scanF b.length b

theorem decR_ok (b : List UInt8) (h : (decR b).2.2 = 0) : (decR b).2.1 = 8 + (decR b).1.length ∧ (decR b).2.1 ≤ b.length := by
  unfold decR at h ⊢
  by_cases h1 : b.length < 8
  · rw [if_pos h1] at h; simp at h
  rw [if_neg h1] at h ⊢
  by_cases h2 : 1048576 < getN (b.take 4)
  · rw [if_pos h2] at h; simp at h
  rw [if_neg h2] at h ⊢
  by_cases h3 : b.length < 8 + getN (b.take 4)
  · rw [if_pos h3] at h; simp at h
  rw [if_neg h3] at h ⊢
  by_cases h4 : (crc (b.take 4 ++ (b.drop 8).take (getN (b.take 4)))).toNat = getN ((b.drop 4).take 4)
  · rw [if_pos h4]
    refine ⟨?_, by show 8 + getN (b.take 4) ≤ _; omega⟩
    show 8 + getN (b.take 4) = 8 + ((b.drop 8).take (getN (b.take 4))).length
    rw [List.length_take, List.length_drop]; omega
  · rw [if_neg h4] at h; simp at h

theorem scanF_fuel : ∀ (f g : Nat) (b : List UInt8), b.length ≤ f → b.length ≤ g → scanF f b = scanF g b
  | 0, 0, _, _, _ => rfl
  | 0, g + 1, b, h, _ => by
    have : b.length = 0 := by omega
    unfold scanF; rw [if_pos this]
  | f + 1, 0, b, _, h => by
    have : b.length = 0 := by omega
    unfold scanF; rw [if_pos this]
  | f + 1, g + 1, b, hf, hg => by
    unfold scanF
    by_cases h0 : b.length = 0
    · rw [if_pos h0, if_pos h0]
    · rw [if_neg h0, if_neg h0]
      by_cases h1 : (decR b).2.2 = 0
      · have := decR_ok b h1
        rw [if_pos h1, if_pos h1, scanF_fuel f g (b.drop (decR b).2.1) (by rw [List.length_drop]; omega) (by rw [List.length_drop]; omega)]
      · rw [if_neg h1, if_neg h1]
theorem scanR_nil : scanR [] = ([], 0, 0) := rfl
theorem scanR_cons (b : List UInt8) (h0 : 0 < b.length) : scanR b = if (decR b).2.2 = 0 then
      ((decR b).1 :: (scanR (b.drop (decR b).2.1)).1, (decR b).2.1 + (scanR (b.drop (decR b).2.1)).2.1, (scanR (b.drop (decR b).2.1)).2.2) else ([], 0, (decR b).2.2) := by
  unfold scanR
  obtain ⟨f, hf⟩ : ∃ f, b.length = f + 1 := ⟨b.length - 1, by omega⟩
  by_cases h1 : (decR b).2.2 = 0
  · have := decR_ok b h1
    rw [if_pos h1, hf]
    conv => lhs; unfold scanF
    rw [if_neg (by omega), if_pos h1, scanF_fuel f (b.drop (decR b).2.1).length (b.drop (decR b).2.1) (by rw [List.length_drop]; omega) (Nat.le_refl _)]
  · rw [if_neg h1, hf]
    conv => lhs; unfold scanF
    rw [if_neg (by omega), if_neg h1]

/-- What a scan that has come to k holds. -/
def ScanAt (l : List UInt8) (k : Nat) (L : List (List UInt8)) : Prop :=
  k ≤ l.length ∧ 8 * L.length ≤ k ∧ scanR l = (L ++ (scanR (l.drop k)).1, k + (scanR (l.drop k)).2.1, (scanR (l.drop k)).2.2)
theorem ScanAt.start (l : List UInt8) : ScanAt l 0 [] := ⟨Nat.zero_le _, Nat.le_refl _, by simp⟩
theorem ScanAt.next {l : List UInt8} {k : Nat} {L : List (List UInt8)} (h : ScanAt l k L) (hk : k < l.length) (P : List UInt8) (N : Nat) (hd : decR (l.drop k) = (P, N, 0)) :
    ScanAt l (k + N) (L ++ [P]) ∧ k + N ≤ l.length ∧ 0 < N ∧ N = 8 + P.length := by
  obtain ⟨h1, h2, h3⟩ := h
  have hok := decR_ok (l.drop k) (by rw [hd])
  rw [hd] at hok
  have hok : N = 8 + P.length ∧ N ≤ (l.drop k).length := hok
  rw [List.length_drop] at hok
  refine ⟨⟨by omega, by rw [List.length_append, List.length_singleton]; omega, ?_⟩, by omega, by omega, hok.1⟩
  rw [h3, scanR_cons (l.drop k) (by rw [List.length_drop]; omega), hd]
  simp only [if_true, List.drop_drop, List.append_assoc, List.singleton_append, Nat.add_assoc]
theorem ScanAt.stop {l : List UInt8} {k : Nat} {L : List (List UInt8)} (h : ScanAt l k L) (hk : k < l.length) (P : List UInt8) (N E : Nat) (hd : decR (l.drop k) = (P, N, E)) (hE : E ≠ 0) :
    scanR l = (L, k, E) := by
  rw [h.2.2, scanR_cons (l.drop k) (by rw [List.length_drop]; omega), hd]
  simp [hE]
theorem ScanAt.done {l : List UInt8} {k : Nat} {L : List (List UInt8)} (h : ScanAt l k L) (hk : ¬ k < l.length) : scanR l = (L, k, 0) := by
  have := h.1
  rw [h.2.2, List.drop_of_length_le (by omega), scanR_nil]
  simp
end Go.Proofs.Ytnohhhlgfnjaoaa
