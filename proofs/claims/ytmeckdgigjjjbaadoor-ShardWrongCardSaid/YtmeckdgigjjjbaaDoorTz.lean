/- bits.TrailingZeros64, and sets of rows as digits. Conditions: each law's own premises. -/
import Derived.Test.YtmeckdgigjjjbaaDoorCom0
import Derived.Shelf.Spec.TrailingZeros
namespace Go.Proofs.YtmeckdgigjjjbaaDoor
open Go Go.RowKit

set_option maxRecDepth 100000 in
set_option maxHeartbeats 1000000 in
theorem tz64_core (x k idx : Nat) (w : World) (hx0 : ((x : Int) == 0) = false)
    (key : IntKind.u64.wrap (bits BinOp.and IntKind.u64 (x : Int) (IntKind.u64.wrap (-(x : Int))) * 285870213051353865) / 288230376151711744 = (idx : Int))
    (hi : idx < 64) (hk : k < 64) (hcell : w.cell? ⟨0, idx, none⟩ = some (.int .u8 k)) :
    Calls Tryd.prog 47 #[.int .u64 x] w fun e w' => e = .returned (.int .i64 k) ∧ w' = w := by
  go_enter Tryd.func47, Tryd.ntmps47
  go_wp2_with (simp only [key])
  go_ret
  exact ⟨rfl, rfl⟩
theorem tz64_any (x : Nat) (hx : x < 2 ^ 64) (hx0 : x ≠ 0) (w : World) (hT : TabAt 0 Lib.deBruijn64tab w) :
    Calls Tryd.prog 47 #[.int .u64 x] w fun e w' => e = .returned (.int .i64 (Lib.ctz 64 x : Nat)) ∧ w' = w := by
  obtain ⟨hlow, hk⟩ := Lib.lowest_bit 64 x hx0 hx
  obtain ⟨hi, htab⟩ := Lib.deBruijn64_at _ hk
  have hcell := hT _ hi
  rw [htab] at hcell
  exact tz64_core x _ _ w (by simp; omega) (tz64_key x _ hx hx0 hlow) hi hk hcell

/-- The lowest of a set, and the set without it. -/
theorem ctz_spec (x : Nat) (h0 : x ≠ 0) (hx : x < 2 ^ 64) : ∃ k, Lib.ctz 64 x = k ∧ k < 64 ∧ x.testBit k = true ∧ (∀ i, (x &&& (x - 1)).testBit i = (x.testBit i && !decide (i = k))) ∧ x &&& (x - 1) < x := by
  obtain ⟨q, hq, hk⟩ := Lib.ctzFrom_spec 64 x (by omega) hx
  refine ⟨_, rfl, ?_⟩
  have hc : Lib.ctz 64 x = Lib.ctzFrom 64 x := by unfold Lib.ctz; rw [if_neg h0]
  rw [hc]
  obtain ⟨k, hkk⟩ : ∃ k, k = Lib.ctzFrom 64 x := ⟨_, rfl⟩
  rw [← hkk] at hq hk ⊢
  have hp : 0 < 2 ^ k := Nat.two_pow_pos k
  have e1 : x = 2 ^ (k + 1) * q + 2 ^ k := by rw [hq, Nat.pow_succ, Nat.mul_add, Nat.mul_one, ← Nat.mul_assoc]
  have e2 : x - 1 = 2 ^ (k + 1) * q + (2 ^ k - 1) := by omega
  have l1 : 2 ^ k < 2 ^ (k + 1) := by rw [Nat.pow_succ]; omega
  have t1 : ∀ i, x.testBit i = if i < k + 1 then (2 ^ k).testBit i else q.testBit (i - (k + 1)) := fun i => by
    rw [e1, Nat.testBit_two_pow_mul_add q l1]
  have t2 : ∀ i, (x - 1).testBit i = if i < k + 1 then (2 ^ k - 1).testBit i else q.testBit (i - (k + 1)) := fun i => by
    rw [e2, Nat.testBit_two_pow_mul_add q (by omega)]
  refine ⟨hk, ?_, fun i => ?_, ?_⟩
  · rw [t1, if_pos (by omega), Nat.testBit_two_pow_self]
  · rw [Nat.testBit_and, t1, t2]
    by_cases h : i < k + 1
    · rw [if_pos h, if_pos h, Nat.testBit_two_pow, Nat.testBit_two_pow_sub_one]
      by_cases h2 : i = k
      · subst h2; simp
      · have : ¬ k = i := fun e => h2 e.symm
        simp [this]
    · rw [if_neg h, if_neg h]
      have : ¬ i = k := by omega
      simp [this]
  · have : x &&& (x - 1) ≤ x - 1 := Nat.and_le_right
    omega
theorem and_low (S : Nat) (h0 : S ≠ 0) (h : S < 2 ^ 64) : bits BinOp.and IntKind.u64 (S : Int) (IntKind.u64.wrap ((S : Int) - 1)) = ((S &&& (S - 1) : Nat) : Int) := by
  have e : IntKind.u64.wrap ((S : Int) - 1) = ((S - 1 : Nat) : Int) := by rw [IntKind.wrap_u64]; omega
  rw [e, bits_and_u64_nat S _ (by omega) (by omega)]
theorem and_not_bit (lf k : Nat) (h : lf < 2 ^ 64) (hk : k < 64) : ∃ lf' : Nat, bits BinOp.andNot IntKind.u64 (lf : Int) (IntKind.u64.wrap (2 ^ k)) = (lf' : Int) ∧ lf' < 2 ^ 64 ∧ ∀ i, lf'.testBit i = (lf.testBit i && !decide (i = k)) := by
  have hk2 : 2 ^ k < 2 ^ 64 := Nat.pow_lt_pow_right (by decide) hk
  have e0 : IntKind.u64.wrap (2 ^ k) = ((2 ^ k : Nat) : Int) := by
    rw [show (2 : Int) ^ k = ((2 ^ k : Nat) : Int) by rw [Int.natCast_pow]; rfl, IntKind.wrap_u64]
    obtain ⟨q, hq⟩ : ∃ q, q = 2 ^ k := ⟨_, rfl⟩
    rw [← hq] at hk2 ⊢
    omega
  have h1 : BitVec.ofInt 64 (lf : Int) = BitVec.ofNat 64 lf := by rw [BitVec.ofInt_natCast]
  have h2 : BitVec.ofInt 64 ((2 ^ k : Nat) : Int) = BitVec.ofNat 64 (2 ^ k) := by rw [BitVec.ofInt_natCast]
  refine ⟨(BitVec.ofNat 64 lf &&& ~~~ BitVec.ofNat 64 (2 ^ k)).toNat, ?_, BitVec.isLt _, fun i => ?_⟩
  · rw [e0]
    show IntKind.u64.wrap ((BitVec.ofInt 64 (lf : Int) &&& ~~~ BitVec.ofInt 64 ((2 ^ k : Nat) : Int)).toNat : Int) = _
    rw [h1, h2]
    have := (BitVec.ofNat 64 lf &&& ~~~ BitVec.ofNat 64 (2 ^ k)).isLt
    rw [IntKind.wrap_u64]; omega
  · rw [show ((BitVec.ofNat 64 lf &&& ~~~ BitVec.ofNat 64 (2 ^ k)).toNat).testBit i = (BitVec.ofNat 64 lf &&& ~~~ BitVec.ofNat 64 (2 ^ k)).getLsbD i from rfl]
    rw [BitVec.getLsbD_and, BitVec.getLsbD_not, BitVec.getLsbD_ofNat, BitVec.getLsbD_ofNat, Nat.testBit_two_pow]
    by_cases hi : i < 64
    · simp only [hi, decide_true, Bool.true_and]
      by_cases e : k = i
      · subst e; simp
      · have : ¬ i = k := fun h => e h.symm
        simp [e, this]
    · have : lf.testBit i = false := Nat.testBit_lt_two_pow (Nat.lt_of_lt_of_le h (Nat.pow_le_pow_right (by decide) (by omega)))
      simp [hi, this]
/-- The set of all below n. -/
theorem full_bit (n : Nat) (i : Nat) : (2 ^ n - 1).testBit i = decide (i < n) := Nat.testBit_two_pow_sub_one n i
end Go.Proofs.YtmeckdgigjjjbaaDoor
