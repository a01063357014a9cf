/- Turn, back: plain. Conditions: none. -/
import Derived.Test.YteenbobblbehoaaTurn
namespace Go.Proofs.Yteenbobblbehoaa
open Go Go.RowKit

theorem turnN_eq (v k : Nat) (hv : v < 4294967296) (hk : k ≤ 32) : turnN v k = (v % 2 ^ (32 - k)) * 2 ^ k + v / 2 ^ (32 - k) := by
  have hp : 2 ^ (32 - k) * 2 ^ k = 4294967296 := by rw [← Nat.pow_add, show 32 - k + k = 32 by omega]
  have hlt : v / 2 ^ (32 - k) < 2 ^ k := by
    apply Nat.div_lt_of_lt_mul
    rw [hp]; exact hv
  unfold turnN
  rw [← hp, Nat.mul_mod_mul_right, Nat.mul_comm (v % 2 ^ (32 - k)) (2 ^ k), ← Nat.two_pow_add_eq_or_of_lt hlt]
theorem turnN_back (v k : Nat) (hv : v < 4294967296) (hk : k ≤ 32) : turnN (turnN v k) (32 - k) = v := by
  have hp : 2 ^ (32 - k) * 2 ^ k = 4294967296 := by rw [← Nat.pow_add, show 32 - k + k = 32 by omega]
  have hlt : v / 2 ^ (32 - k) < 2 ^ k := by
    apply Nat.div_lt_of_lt_mul
    rw [hp]; exact hv
  rw [turnN_eq (turnN v k) (32 - k) (turnN_lt v k hv) (by omega), turnN_eq v k hv hk, show 32 - (32 - k) = k by omega]
  have e1 : (v % 2 ^ (32 - k) * 2 ^ k + v / 2 ^ (32 - k)) % 2 ^ k = v / 2 ^ (32 - k) := by
    rw [Nat.mul_comm, Nat.mul_add_mod, Nat.mod_eq_of_lt hlt]
  have e2 : (v % 2 ^ (32 - k) * 2 ^ k + v / 2 ^ (32 - k)) / 2 ^ k = v % 2 ^ (32 - k) := by
    rw [Nat.mul_comm, Nat.mul_add_div (Nat.two_pow_pos _), Nat.div_eq_of_lt hlt, Nat.add_zero]
  rw [e1, e2, Nat.mul_comm, Nat.div_add_mod]
theorem turnN_zero (v : Nat) (hv : v < 4294967296) : turnN v 0 = v := by
  have := turnN_eq v 0 hv (by omega)
  rw [this]
  simp
  omega
theorem turn_back (v : UInt32) (n : Int) : turn (turn v n) (-n) = v := by
  apply UInt32.toNat_inj.1
  rw [turn_toNat, turn_toNat]
  by_cases h : n % 32 = 0
  · have h' : -n % 32 = 0 := by omega
    rw [h, h']
    show turnN (turnN v.toNat 0) 0 = v.toNat
    rw [turnN_zero _ (u32_lt v), turnN_zero _ (u32_lt v)]
  · have h' : (-n % 32).toNat = 32 - (n % 32).toNat := by omega
    rw [h']
    exact turnN_back _ _ (u32_lt v) (by omega)
end Go.Proofs.Yteenbobblbehoaa
