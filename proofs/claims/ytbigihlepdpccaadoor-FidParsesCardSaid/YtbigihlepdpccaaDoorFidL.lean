/- File ids as text: the plain laws (no program): digits there and back; a text cut at its commas. -/
import Derived.Lib.SplitLaws
import Derived.Lib.Index
import Derived.Test.YtbigihlepdpccaaDoorDec
namespace Go.Proofs.YtbigihlepdpccaaDoor
open Go

def dv (c : UInt8) : Nat := if 97 ≤ c.toNat then c.toNat - 97 + 10 else c.toNat - 48
def DOk (base : Nat) (c : UInt8) : Prop := 48 ≤ c.toNat ∧ (c.toNat ≤ 57 ∨ 97 ≤ c.toNat) ∧ dv c < base
def valN (base : Nat) (l : List UInt8) : Nat := l.foldl (fun a c => a * base + dv c) 0
theorem valN_nil (base : Nat) : valN base [] = 0 := rfl
theorem valN_snoc (base : Nat) (l : List UInt8) (c : UInt8) : valN base (l ++ [c]) = valN base l * base + dv c := by
  unfold valN; rw [List.foldl_append]; rfl
theorem fold_lt (base : Nat) : ∀ (l : List UInt8) (a : Nat), (∀ c ∈ l, DOk base c) → l.foldl (fun a c => a * base + dv c) a < (a + 1) * base ^ l.length
  | [], a, _ => by simp
  | c :: r, a, h => by
    have h1 := fold_lt base r (a * base + dv c) (fun x hx => h x (List.mem_cons_of_mem _ hx))
    have h2 := (h c (by simp)).2.2
    refine Nat.lt_of_lt_of_le h1 ?_
    rw [List.length_cons, Nat.pow_succ, Nat.mul_comm (base ^ r.length) base, ← Nat.mul_assoc]
    refine Nat.mul_le_mul_right _ ?_
    rw [Nat.add_mul]; omega
theorem valN_lt (base : Nat) (l : List UInt8) (h : ∀ c ∈ l, DOk base c) : valN base l < base ^ l.length := by
  have := fold_lt base l 0 h
  simpa [valN] using this

theorem dv_dec (n : Nat) : dv (UInt8.ofNat (48 + n % 10)) = n % 10 := by
  have : (UInt8.ofNat (48 + n % 10)).toNat = 48 + n % 10 := by rw [UInt8.toNat_ofNat', Nat.mod_eq_of_lt (show 48 + n % 10 < 2 ^ 8 by omega)]
  unfold dv; rw [this, if_neg (by omega)]; omega
theorem dok_dec (n : Nat) : DOk 10 (UInt8.ofNat (48 + n % 10)) := by
  have : (UInt8.ofNat (48 + n % 10)).toNat = 48 + n % 10 := by rw [UInt8.toNat_ofNat', Nat.mod_eq_of_lt (show 48 + n % 10 < 2 ^ 8 by omega)]
  refine ⟨by omega, by omega, ?_⟩
  rw [dv_dec]; omega
theorem decF_val : ∀ f n, n < 10 ^ f → valN 10 (decF f n) = n
  | 0, n, h => by rw [Nat.pow_zero] at h; unfold decF; rw [valN_nil]; omega
  | f + 1, n, h => by
    by_cases h0 : n = 0
    · subst h0; rw [decF_zero]; rfl
    · rw [decF_step f n h0, valN_snoc, decF_val f (n / 10) (by rw [Nat.pow_succ] at h; omega), dv_dec]
      omega
theorem decF_ok : ∀ f n, ∀ c ∈ decF f n, DOk 10 c
  | 0, n, c, h => by unfold decF at h; cases h
  | f + 1, n, c, h => by
    by_cases h0 : n = 0
    · subst h0; rw [decF_zero] at h; cases h
    · rw [decF_step f n h0] at h
      rcases List.mem_append.1 h with h | h
      · exact decF_ok f (n / 10) c h
      · rw [List.mem_singleton.1 h]; exact dok_dec n
theorem decF_len : ∀ f k n, n < 10 ^ k → (decF f n).length ≤ k
  | 0, k, n, h => Nat.zero_le _
  | f + 1, 0, n, h => by
    rw [Nat.pow_zero] at h
    have : n = 0 := by omega
    subst this; rw [decF_zero]; exact Nat.le_refl _
  | f + 1, k + 1, n, h => by
    by_cases h0 : n = 0
    · subst h0; rw [decF_zero]; exact Nat.zero_le _
    · rw [decF_step f n h0, List.length_append]
      have := decF_len f k (n / 10) (by rw [Nat.pow_succ] at h; omega)
      simp only [List.length_singleton]; omega
theorem decL_pos (n : Nat) (h : n ≠ 0) : 1 ≤ (decL n).length := by
  unfold decL; rw [decF_step 19 n h, List.length_append]; simp
theorem decL_val (n : Nat) (h : n < 100000000) : valN 10 (decL n) = n := decF_val 20 n (Nat.lt_of_lt_of_le h (by decide))
theorem decL_len (n : Nat) (h : n < 100000000) : (decL n).length ≤ 8 := decF_len 20 8 n h
theorem decL_ok (n : Nat) : ∀ c ∈ decL n, DOk 10 c := decF_ok 20 n

theorem hexD_toNat (n : Nat) (h : n < 16) : (hexD n).toNat = if n < 10 then 48 + n else 87 + n := by
  unfold hexD; split
  · rw [UInt8.toNat_ofNat', Nat.mod_eq_of_lt (by omega)]
  · rw [UInt8.toNat_ofNat', Nat.mod_eq_of_lt (by omega)]
theorem dv_hex (n : Nat) (h : n < 16) : dv (hexD n) = n := by
  unfold dv; rw [hexD_toNat n h]; split <;> split <;> omega
theorem dok_hex (n : Nat) (h : n < 16) : DOk 16 (hexD n) := by
  refine ⟨?_, ?_, by rw [dv_hex n h]; exact h⟩
  · rw [hexD_toNat n h]; split <;> omega
  · rw [hexD_toNat n h]; split <;> omega
theorem hexN_lt (v j : Nat) : hexN v j < 16 := Nat.mod_lt _ (by decide)
theorem hexP_ok (v least : Nat) : ∀ j, ∀ c ∈ hexP v least j, DOk 16 c
  | 0, c, h => by unfold hexP at h; cases h
  | j + 1, c, h => by
    unfold hexP at h
    split at h
    · cases h
    · rcases List.mem_append.1 h with h | h
      · exact hexP_ok v least j c h
      · rw [List.mem_singleton.1 h]; exact dok_hex _ (hexN_lt v j)
theorem hex_step (v j : Nat) (h : j < 16) : v / 2 ^ (64 - 4 * (j + 1)) = v / 2 ^ (64 - 4 * j) * 16 + hexN v j := by
  unfold hexN
  rw [show 64 - 4 * (j + 1) = 60 - 4 * j by omega, show 64 - 4 * j = (60 - 4 * j) + 4 by omega, Nat.pow_add, ← Nat.div_div_eq_div_mul]
  omega
theorem hexP_val (v least : Nat) (hv : v < 2 ^ 64) : ∀ j, j ≤ 16 → valN 16 (hexP v least j) = v / 2 ^ (64 - 4 * j)
  | 0, _ => by unfold hexP; rw [valN_nil, show 64 - 4 * 0 = 64 from rfl, Nat.div_eq_of_lt hv]
  | j + 1, h => by
    have ih := hexP_val v least hv j (by omega)
    rw [hex_step v j (by omega)]
    unfold hexP
    split
    · rename_i hc
      obtain ⟨h1, h2, _⟩ := hc
      rw [List.eq_nil_of_length_eq_zero h2, valN_nil] at ih
      rw [valN_nil, h1, ← ih]
    · rw [valN_snoc, ih, dv_hex _ (hexN_lt v j)]
theorem hexL_val (v least : Nat) (hv : v < 2 ^ 64) : valN 16 (hexL v least) = v := by
  unfold hexL; rw [hexP_val v least hv 16 (by decide)]; simp
theorem hexL_ok (v least : Nat) : ∀ c ∈ hexL v least, DOk 16 c := hexP_ok v least 16
theorem hexL8_lo (c : Nat) (hc : c < 2 ^ 32) : ∀ j, j ≤ 8 → hexP c 8 j = []
  | 0, _ => rfl
  | j + 1, h => by
    have ih := hexL8_lo c hc j (by omega)
    refine hexP_skip c 8 j ?_ (by rw [ih]; rfl) (by omega)
    unfold hexN
    rw [Nat.div_eq_of_lt (Nat.lt_of_lt_of_le hc (Nat.pow_le_pow_right (by decide) (by omega)))]
theorem hexL8_hi (c : Nat) (hc : c < 2 ^ 32) : ∀ j, (hexP c 8 (8 + j)).length = j
  | 0 => by rw [hexL8_lo c hc 8 (Nat.le_refl _)]; rfl
  | j + 1 => by
    rw [show 8 + (j + 1) = (8 + j) + 1 by omega, hexP_next c 8 (8 + j) (by omega), List.length_append, hexL8_hi c hc j]; rfl
theorem hexL8_len (c : Nat) (hc : c < 2 ^ 32) : (hexL c 8).length = 8 := hexL8_hi c hc 8

theorem dok_ne {base : Nat} {c : UInt8} (h : DOk base c) : c ≠ 44 := by
  rintro rfl; exact absurd h.1 (by decide)

theorem index_comma (A B : List UInt8) (h : ∀ c ∈ A, c ≠ 44) : Lib.index (A ++ 44 :: B) [44] = A.length := by
  induction A with
  | nil => simp [Lib.index]
  | cons a A ih =>
    have ha := h a (by simp)
    have hi := ih (fun c hc => h c (by simp [hc]))
    have hp : ([44] : List UInt8).isPrefixOf (a :: (A ++ 44 :: B)) = false := by
      simp only [List.isPrefixOf, Bool.and_true]
      exact beq_eq_false_iff_ne.2 (fun e => ha e.symm)
    show Lib.index (a :: (A ++ 44 :: B)) [44] = _
    unfold Lib.index
    rw [hp, hi]
    have : ((A.length : Int) == -1) = false := by rw [beq_eq_false_iff_ne]; omega
    simp [this]
theorem index_nocomma (A : List UInt8) (h : ∀ c ∈ A, c ≠ 44) : Lib.index A [44] = -1 := by
  induction A with
  | nil => rfl
  | cons a A ih =>
    have ha := h a (by simp)
    have hi := ih (fun c hc => h c (by simp [hc]))
    have hp : ([44] : List UInt8).isPrefixOf (a :: A) = false := by
      simp only [List.isPrefixOf, Bool.and_true]
      exact beq_eq_false_iff_ne.2 (fun e => ha e.symm)
    unfold Lib.index
    rw [hp, hi]
    simp
theorem splitK_hit (k : Nat) (A B : List UInt8) (h : ∀ c ∈ A, c ≠ 44) : Lib.splitK [44] 0 (k + 1) (A ++ 44 :: B) = A :: Lib.splitK [44] 0 k B := by
  have hi := index_comma A B h
  have : ((A.length : Int) == -1) = false := by rw [beq_eq_false_iff_ne]; omega
  conv => lhs; unfold Lib.splitK
  rw [hi, this]
  have e1 : ((A.length : Int)).toNat = A.length := rfl
  simp only [Bool.false_eq_true, if_false, e1, Nat.add_zero, List.length_singleton]
  congr 1
  · simp
  · congr 1
    rw [List.drop_append]
    simp
theorem splitK_miss (k : Nat) (A : List UInt8) (h : ∀ c ∈ A, c ≠ 44) : Lib.splitK [44] 0 k A = [A] := by
  cases k with
  | zero => rfl
  | succ k => unfold Lib.splitK; rw [index_nocomma A h]; rfl
theorem split3 (A B C : List UInt8) (hA : ∀ c ∈ A, c ≠ 44) (hB : ∀ c ∈ B, c ≠ 44) (hC : ∀ c ∈ C, c ≠ 44) :
    Lib.splitK [44] 0 3 (A ++ [44] ++ B ++ [44] ++ C) = [A, B, C] := by
  rw [show A ++ [44] ++ B ++ [44] ++ C = A ++ 44 :: (B ++ 44 :: C) by simp, splitK_hit 2 A _ hA, splitK_hit 1 B C hB, splitK_miss 1 C hC]
end Go.Proofs.YtbigihlepdpccaaDoor
