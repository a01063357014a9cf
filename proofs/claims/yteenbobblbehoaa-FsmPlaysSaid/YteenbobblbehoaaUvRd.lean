/- What Uvarint wrote ReadUvarint reads: plain laws. Conditions: none. -/
import Derived.Test.YteenbobblbehoaaVar
import Derived.Test.YteenbobblbehoaaRead
namespace Go.Proofs.Yteenbobblbehoaa
open Go Go.RowKit

theorem rdF_uvF : ∀ (j i acc x : Nat) (m : List UInt8), i + j = 10 → x < 2 ^ (7 * j) → acc + x * 2 ^ (7 * i) < 18446744073709551616 → (0 < i → x ≠ 0) →
    rdF i acc (uvF j x ++ m) = (acc + x * 2 ^ (7 * i), i + (uvF j x).length, 0)
  | 0, i, acc, x, m, hij, hx, ha, h0 => by simp at hx; omega
  | j + 1, i, acc, x, m, hij, hx, ha, h0 => by
    have h9 : i = 9 → x ≤ 1 := by
      intro e
      subst e
      have h3 : (2 : Nat) ^ (7 * 9) = 9223372036854775808 := by decide
      rw [h3] at ha
      omega
    unfold uvF
    by_cases hs : x < 128
    · rw [if_pos hs]
      show rdF i acc (UInt8.ofNat x :: m) = _
      unfold rdF
      have hc : (UInt8.ofNat x).toNat = x := by rw [UInt8.toNat_ofNat', Nat.mod_eq_of_lt (by omega)]
      rw [hc, if_neg (by omega), if_neg (by omega), if_neg (by omega)]
      rfl
    · rw [if_neg hs]
      have hc : (UInt8.ofNat (x % 128 + 128)).toNat = x % 128 + 128 := by rw [UInt8.toNat_ofNat', Nat.mod_eq_of_lt (by omega)]
      show rdF i acc (UInt8.ofNat (x % 128 + 128) :: (uvF j (x / 128) ++ m)) = _
      unfold rdF
      rw [hc, if_pos (by omega), if_neg (by omega)]
      have e1 : x % 128 + 128 - 128 = x % 128 := by omega
      have e2 : 2 ^ (7 * (i + 1)) = 128 * 2 ^ (7 * i) := by rw [Nat.mul_add, Nat.pow_add, Nat.mul_comm]
      have e3 : acc + x % 128 * 2 ^ (7 * i) + x / 128 * 2 ^ (7 * (i + 1)) = acc + x * 2 ^ (7 * i) := by
        rw [e2, ← Nat.mul_assoc, Nat.add_assoc, ← Nat.add_mul]
        have e4 : x % 128 + x / 128 * 128 = x := by omega
        rw [e4]
      have := rdF_uvF j (i + 1) (acc + x % 128 * 2 ^ (7 * i)) (x / 128) m (by omega)
        (by rw [Nat.mul_add, Nat.pow_add] at hx; exact Nat.div_lt_of_lt_mul (by rw [Nat.mul_comm]; exact hx)) (by rw [e3]; exact ha) (by omega)
      rw [e1, this, e3]
      rw [List.length_cons]
      have e5 : i + 1 + (uvF j (x / 128)).length = i + ((uvF j (x / 128)).length + 1) := by omega
      rw [e5]
theorem rd_uv (x : Nat) (hx : x < 18446744073709551616) (m : List UInt8) : rd (uv x ++ m) = (x, (uv x).length, 0) := by
  have := rdF_uvF 10 0 0 x m rfl (Nat.lt_trans hx (by decide)) (by simpa using hx) (by omega)
  simp only [Nat.mul_zero, Nat.pow_zero, Nat.mul_one, Nat.zero_add] at this
  exact this
end Go.Proofs.Yteenbobblbehoaa
