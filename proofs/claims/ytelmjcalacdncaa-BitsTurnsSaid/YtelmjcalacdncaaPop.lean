/- How many digits are 1, and turned digits: plain laws. Conditions: none. -/
import Derived.Test.YtelmjcalacdncaaTurn
namespace Go.Proofs.Ytelmjcalacdncaa
open Go Go.RowKit

def popF : Nat → Nat → Nat
  | 0, _ => 0
  | k + 1, v => v % 2 + popF k (v / 2)
def pop (v : Nat) : Nat := popF 64 v

theorem popF_zero : ∀ k, popF k 0 = 0
  | 0 => rfl
  | k + 1 => by show 0 % 2 + popF k (0 / 2) = 0; rw [Nat.zero_div, popF_zero k]
theorem popF_add : ∀ (j k a b : Nat), b < 2 ^ j → popF (j + k) (a * 2 ^ j + b) = popF j b + popF k a
  | 0, k, a, b, h => by
    have : b = 0 := by simpa using h
    subst this
    simp [popF]
  | j + 1, k, a, b, h => by
    have e : j + 1 + k = (j + k) + 1 := by omega
    rw [e]
    show (a * 2 ^ (j + 1) + b) % 2 + popF (j + k) ((a * 2 ^ (j + 1) + b) / 2) = b % 2 + popF j (b / 2) + popF k a
    have h1 : a * 2 ^ (j + 1) + b = 2 * (a * 2 ^ j) + b := by rw [Nat.pow_succ, Nat.mul_comm 2 (a * 2 ^ j), Nat.mul_assoc]
    have h2 : (a * 2 ^ (j + 1) + b) / 2 = a * 2 ^ j + b / 2 := by rw [h1]; omega
    have h3 : (a * 2 ^ (j + 1) + b) % 2 = b % 2 := by rw [h1]; omega
    rw [h2, h3, popF_add j k a (b / 2) (by rw [Nat.pow_succ] at h; omega)]
    omega
theorem popF_more (j k x : Nat) (h : x < 2 ^ j) : popF (j + k) x = popF j x := by
  have := popF_add j k 0 x h
  rw [Nat.zero_mul, Nat.zero_add, popF_zero] at this
  exact this
theorem popF_clear : ∀ (k x : Nat), 0 < x → x < 2 ^ k → popF k (x &&& (x - 1)) + 1 = popF k x
  | 0, x, h0, h => by simp at h; omega
  | k + 1, x, h0, h => by
    show (x &&& (x - 1)) % 2 + popF k ((x &&& (x - 1)) / 2) + 1 = x % 2 + popF k (x / 2)
    have hand2 : (x &&& (x - 1)) / 2 = (x / 2) &&& ((x - 1) / 2) := Nat.and_div_two
    have hmod : (x &&& (x - 1)) % 2 = 0 := by
      have : (x &&& (x - 1)).testBit 0 = false := by
        rw [Nat.testBit_and, Nat.testBit_zero, Nat.testBit_zero]
        rcases Nat.mod_two_eq_zero_or_one x with h1 | h1
        · simp [h1]
        · have : (x - 1) % 2 = 0 := by omega
          simp [this]
      rw [Nat.testBit_zero] at this
      have := of_decide_eq_false this
      omega
    rw [hmod, hand2]
    rcases Nat.mod_two_eq_zero_or_one x with h1 | h1
    · have e : (x - 1) / 2 = x / 2 - 1 := by omega
      rw [e, h1]
      have := popF_clear k (x / 2) (by omega) (by rw [Nat.pow_succ] at h; omega)
      omega
    · have e : (x - 1) / 2 = x / 2 := by omega
      rw [e, h1, Nat.and_self]
      omega
theorem pop_clear (x : Nat) (h0 : 0 < x) (h : x < 18446744073709551616) : pop (x &&& (x - 1)) + 1 = pop x := popF_clear 64 x h0 h
theorem popF_le : ∀ k x, popF k x ≤ k
  | 0, _ => Nat.le_refl _
  | k + 1, x => by have := popF_le k (x / 2); show x % 2 + popF k (x / 2) ≤ k + 1; omega
theorem pop_le (x : Nat) : pop x ≤ 64 := popF_le 64 x
theorem pop_half (x : Nat) (h : x < 18446744073709551616) : pop x = x % 2 + pop (x / 2) := by
  show x % 2 + popF 63 (x / 2) = x % 2 + popF (63 + 1) (x / 2)
  rw [popF_more 63 1 (x / 2) (by omega)]

theorem turnN_eq (v k : Nat) (hv : v < 4294967296) (hk : k ≤ 32) : turnN v k = (v % 2 ^ (32 - k)) * 2 ^ k + v / 2 ^ (32 - k) := by
  have hp : 2 ^ (32 - k) * 2 ^ k = 4294967296 := by rw [← Nat.pow_add, show 32 - k + k = 32 by omega]
  have hlt : v / 2 ^ (32 - k) < 2 ^ k := by
    apply Nat.div_lt_of_lt_mul
    rw [hp]; exact hv
  unfold turnN
  rw [← hp, Nat.mul_mod_mul_right, Nat.mul_comm (v % 2 ^ (32 - k)) (2 ^ k), ← Nat.two_pow_add_eq_or_of_lt hlt]

theorem pop_turnN (v k : Nat) (hv : v < 4294967296) (hk : k ≤ 32) : pop (turnN v k) = pop v := by
  have hp : 2 ^ (32 - k) * 2 ^ k = 4294967296 := by rw [← Nat.pow_add, show 32 - k + k = 32 by omega]
  have hlt : v / 2 ^ (32 - k) < 2 ^ k := by
    apply Nat.div_lt_of_lt_mul
    rw [hp]; exact hv
  have hlo : v % 2 ^ (32 - k) < 2 ^ (32 - k) := Nat.mod_lt _ (Nat.two_pow_pos _)
  rw [turnN_eq v k hv hk]
  have e1 := popF_add k (64 - k) (v % 2 ^ (32 - k)) (v / 2 ^ (32 - k)) hlt
  rw [show k + (64 - k) = 64 by omega] at e1
  have e2 := popF_add (32 - k) (32 + k) (v / 2 ^ (32 - k)) (v % 2 ^ (32 - k)) hlo
  rw [show 32 - k + (32 + k) = 64 by omega, Nat.mul_comm (v / 2 ^ (32 - k)), Nat.div_add_mod] at e2
  have e3 := popF_more k 32 _ hlt
  have e4 := popF_more (32 - k) 32 _ hlo
  rw [show 32 - k + 32 = 64 - k by omega] at e4
  rw [show k + 32 = 32 + k by omega] at e3
  unfold pop
  rw [e1, e2, e3, e4, Nat.add_comm]
theorem pop_turn (v : UInt32) (n : Int) : pop (turn v n).toNat = pop v.toNat := by
  rw [turn_toNat]
  exact pop_turnN _ _ (u32_lt v) (by omega)

theorem turnN_back (v k : Nat) (hv : v < 4294967296) (hk : k ≤ 32) : turnN (turnN v k) (32 - k) = v := by
  have hp : 2 ^ (32 - k) * 2 ^ k = 4294967296 := by rw [← Nat.pow_add, show 32 - k + k = 32 by omega]
  have hlt : v / 2 ^ (32 - k) < 2 ^ k := by
    apply Nat.div_lt_of_lt_mul
    rw [hp]; exact hv
  rw [turnN_eq (turnN v k) (32 - k) (turnN_lt v k hv) (by omega), turnN_eq v k hv hk, show 32 - (32 - k) = k by omega]
  have e1 : (v % 2 ^ (32 - k) * 2 ^ k + v / 2 ^ (32 - k)) % 2 ^ k = v / 2 ^ (32 - k) := by
    rw [Nat.mul_comm, Nat.mul_add_mod, Nat.mod_eq_of_lt hlt]
  have e2 : (v % 2 ^ (32 - k) * 2 ^ k + v / 2 ^ (32 - k)) / 2 ^ k = v % 2 ^ (32 - k) := by
    rw [Nat.mul_comm, Nat.mul_add_div (Nat.two_pow_pos _), Nat.div_eq_of_lt hlt, Nat.add_zero]
  rw [e1, e2, Nat.mul_comm, Nat.div_add_mod]
theorem turnN_zero (v : Nat) (hv : v < 4294967296) : turnN v 0 = v := by
  have := turnN_eq v 0 hv (by omega)
  rw [this]
  simp
  omega
theorem turn_back (v : UInt32) (n : Int) : turn (turn v n) (-n) = v := by
  apply UInt32.toNat_inj.1
  rw [turn_toNat, turn_toNat]
  by_cases h : n % 32 = 0
  · have h' : -n % 32 = 0 := by omega
    rw [h, h']
    show turnN (turnN v.toNat 0) 0 = v.toNat
    rw [turnN_zero _ (u32_lt v), turnN_zero _ (u32_lt v)]
  · have h' : (-n % 32).toNat = 32 - (n % 32).toNat := by omega
    rw [h']
    exact turnN_back _ _ (u32_lt v) (by omega)

theorem clear_int (x : UInt64) (h : x.toNat ≠ 0) : bits BinOp.and IntKind.u64 (x.toNat : Int) (IntKind.u64.wrap ((x.toNat : Int) - 1)) = ((x.toNat &&& (x.toNat - 1) : Nat) : Int) := by
  have hx := u64_lt x
  have e : IntKind.u64.wrap ((x.toNat : Int) - 1) = ((x.toNat - 1 : Nat) : Int) := by rw [IntKind.wrap_u64]; omega
  rw [e, u64_and_nat _ _ hx (by omega)]

set_option maxRecDepth 100000 in
set_option maxHeartbeats 400000 in
theorem count_u64 (v : UInt64) (w : World) :
    Calls Try.prog 22 #[.int .u64 v.toNat] w fun e w' => e = .returned (.int .i64 (pop v.toNat : Nat)) ∧ w' = w := by
  go_enter Try.func22, Try.ntmps22
  go_wp2
  go_loop [0, 3] (fun s0 s3 => ∃ (x : UInt64) (c : Nat), s0 = .int .u64 x.toNat ∧ s3 = .int .i64 c ∧ c + pop x.toNat = pop v.toNat) (fun s0 _ => (intOf s0).toNat)
  case atStart => exact ⟨v, 0, rfl, rfl, by simp⟩
  case round =>
    obtain ⟨x, c, rfl, rfl, hc⟩ := hrel
    have hc64 : c ≤ 64 := by have := pop_le v.toNat; omega
    have HC := Lib.hid hc; clear hc
    by_cases h : x.toNat = 0
    · have h' : ((x.toNat : Int) != 0) = false := by rw [h]; rfl
      have HX := Lib.hid h; clear h
      go_wp2
      go_ret
      refine ⟨ret_int ?_, rfl⟩
      have := HC.out
      rw [HX.out] at this
      have h0 : pop 0 = 0 := popF_zero 64
      rw [h0] at this
      show (c : Int) = _
      omega
    · have h' : ((x.toNat : Int) != 0) = true := by rw [bne_iff_ne]; omega
      have e := clear_int x h
      have hy : ∃ y : UInt64, y.toNat = x.toNat &&& (x.toNat - 1) := ⟨UInt64.ofNat (x.toNat &&& (x.toNat - 1)), by
        rw [UInt64.toNat_ofNat', Nat.mod_eq_of_lt (Nat.lt_of_le_of_lt Nat.and_le_left (u64_lt x))]⟩
      obtain ⟨y, hy⟩ := hy
      rw [← hy] at e
      have HY := Lib.hid hy; clear hy
      have HX := Lib.hid h; clear h
      go_wp2
      go_round
      case rel =>
        refine ⟨y, c + 1, rfl, by go_num, ?_⟩
        have h1 := pop_clear x.toNat (Nat.pos_of_ne_zero HX.out) (u64_lt x)
        rw [← HY.out] at h1
        have := HC.out
        omega
      case measure =>
        have h1 : y.toNat ≤ x.toNat - 1 := by rw [HY.out]; exact Nat.and_le_right
        have := HX.out
        simp [intOf]; omega

set_option maxRecDepth 100000 in
set_option maxHeartbeats 400000 in
theorem refCount_u64 (v : UInt64) (w : World) :
    Calls Try.prog 23 #[.int .u64 v.toNat] w fun e w' => e = .returned (.int .i64 (pop v.toNat : Nat)) ∧ w' = w := by
  go_enter Try.func23, Try.ntmps23
  go_wp2
  go_loop [0, 3] (fun s0 s3 => ∃ (x : UInt64) (c : Nat), s0 = .int .u64 x.toNat ∧ s3 = .int .i64 c ∧ c + pop x.toNat = pop v.toNat) (fun s0 _ => (intOf s0).toNat)
  case atStart => exact ⟨v, 0, rfl, rfl, by simp⟩
  case round =>
    obtain ⟨x, c, rfl, rfl, hc⟩ := hrel
    have hc64 : c ≤ 64 := by have := pop_le v.toNat; omega
    have HC := Lib.hid hc; clear hc
    by_cases h : x.toNat = 0
    · have h' : ((x.toNat : Int) != 0) = false := by rw [h]; rfl
      have HX := Lib.hid h; clear h
      go_wp2
      go_ret
      refine ⟨ret_int ?_, rfl⟩
      have := HC.out
      rw [HX.out] at this
      have h0 : pop 0 = 0 := popF_zero 64
      rw [h0] at this
      show (c : Int) = _
      omega
    · have h' : ((x.toNat : Int) != 0) = true := by rw [bne_iff_ne]; omega
      have hwr : IntKind.u64.wrap ((x.toNat : Int) / 2) = (x.toNat : Int) / 2 := IntWalk.u64_in _ (by have := u64_lt x; omega)
      obtain ⟨r, hr⟩ : ∃ r, r = x.toNat % 2 := ⟨_, rfl⟩
      have e : (x.toNat : Int) % 2 = (r : Int) := by omega
      have hr2 : r ≤ 1 := by omega
      have HR := Lib.hid hr; clear hr
      have HX := Lib.hid h; clear h
      go_wp2
      go_round
      case rel =>
        refine ⟨x >>> 1, c + r, by rw [← u64_shr1], by go_num, ?_⟩
        have h1 := pop_half x.toNat (u64_lt x)
        have e2 : (x >>> 1).toNat = x.toNat / 2 := by have := u64_shr1 x; omega
        rw [e2]
        have := HC.out
        have := HR.out
        omega
      case measure =>
        have := HX.out
        simp [intOf]; omega

/-- Count, of a number. -/
theorem count_any (x : Nat) (hx : x < 18446744073709551616) (w : World) :
    Calls Try.prog 22 #[.int .u64 (x : Int)] w fun e w' => e = .returned (.int .i64 (pop x : Nat)) ∧ w' = w := by
  have h := count_u64 (UInt64.ofNat x) w
  rwa [UInt64.toNat_ofNat', Nat.mod_eq_of_lt hx] at h
end Go.Proofs.Ytelmjcalacdncaa
