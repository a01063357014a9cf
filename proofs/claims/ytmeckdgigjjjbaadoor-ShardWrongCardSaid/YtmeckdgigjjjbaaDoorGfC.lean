/- The contracts of gf's Mul, power, Inv. Conditions: each contract's own premises. -/
import Derived.Test.YtmeckdgigjjjbaaDoorProg
import Derived.Test.YtmeckdgigjjjbaaDoorMem
import Derived.Test.YtmeckdgigjjjbaaDoorU
import Derived.Test.YtmeckdgigjjjbaaDoorGf
namespace Go.Proofs.YtmeckdgigjjjbaaDoor
open Go Go.RowKit

theorem retv {k : IntKind} {a b : Int} (h : a = b) : Ending.returned (.int k a) = .returned (.int k b) := by rw [h]

theorem u8_shl1 (x : UInt8) : (x.toNat : Int) * (2 : Int) % (256 : Int) = ((x <<< 1).toNat : Int) := by
  rw [UInt8.toNat_shiftLeft]
  have e : x.toNat <<< ((1 : UInt8).toNat % 8) = x.toNat * 2 := by
    show x.toNat <<< 1 = x.toNat * 2
    rw [Nat.shiftLeft_eq]
  rw [e]
  omega
theorem mul_p (p a b : UInt8) : bits BinOp.xor IntKind.u8 (p.toNat : Int) (bits BinOp.and IntKind.u8 (a.toNat : Int) (-bits BinOp.and IntKind.u8 (b.toNat : Int) 1 % 256)) = ((p ^^^ (a &&& -(b &&& 1))).toNat : Int) := by
  rw [u8_and_r b 1 (by decide), u8_neg, u8_bin_and, u8_bin_xor]
theorem mul_a (a : UInt8) : bits BinOp.xor IntKind.u8 ((a.toNat : Int) * 2 % 256) (bits BinOp.and IntKind.u8 29 (-((a.toNat : Int) / 128) % 256)) = ((gStep a).toNat : Int) := by
  rw [u8_shl1, u8_shr7, u8_neg, u8_and_l _ _ (by decide), u8_bin_xor]; rfl

set_option maxRecDepth 100000 in
set_option maxHeartbeats 400000 in
/-- gf's Mul. -/
theorem mul_any (a b : UInt8) (w : World) :
    Calls Tryd.prog 45 #[.int .u8 a.toNat, .int .u8 b.toNat] w fun e w' => e = .returned (.int .u8 (gm a b).toNat) ∧ w' = w := by
  go_enter Tryd.func45, Tryd.ntmps45
  go_wp2
  go_loop [0, 1, 5, 6] (fun s0 s1 s5 s6 => ∃ (k : Nat) (p x y : UInt8), k ≤ 8 ∧ s6 = .int .i64 k ∧ s0 = .int .u8 x.toNat ∧ s1 = .int .u8 y.toNat ∧ s5 = .int .u8 p.toNat ∧ gmF (8 - k) p x y = gm a b) (fun _ _ _ s6 => 8 - (intOf s6).toNat)
  case atStart => exact ⟨0, 0, a, b, by omega, rfl, rfl, rfl, rfl, rfl⟩
  case round =>
    obtain ⟨k, p, x, y, hk, rfl, rfl, rfl, rfl, hg⟩ := hrel
    by_cases hlt : k < 8
    · have h1 := mul_p p x y
      have h2 := mul_a x
      have h3 := u8_shr1 y
      obtain ⟨j, hj⟩ : ∃ j, 8 - k = j + 1 := ⟨7 - k, by omega⟩
      rw [hj] at hg
      have hg' : gmF j (p ^^^ (x &&& -(y &&& 1))) (gStep x) (y >>> 1) = gm a b := hg
      obtain ⟨p', hp'⟩ : ∃ p', p' = p ^^^ (x &&& -(y &&& 1)) := ⟨_, rfl⟩
      obtain ⟨y', hy'⟩ : ∃ y', y' = y >>> 1 := ⟨_, rfl⟩
      obtain ⟨x', hx'⟩ : ∃ x', x' = gStep x := ⟨_, rfl⟩
      rw [← hp'] at h1 hg'
      rw [← hy'] at h3 hg'
      rw [← hx'] at h2 hg'
      have HG := Lib.hid hg'
      have HJ := Lib.hid hj
      clear hg hg' hj hp' hy' hx'
      go_wp2
      go_round
      case rel => exact ⟨k + 1, p', x', y', by omega, by go_num, rfl, rfl, rfl, by rw [show 8 - (k + 1) = j by have := HJ.out; omega]; exact HG.out⟩
      case measure => simp [intOf]; omega
    · obtain rfl : k = 8 := by omega
      have HG := Lib.hid hg; clear hg
      go_wp2
      go_ret
      exact ⟨retv (by rw [← HG.out]; rfl), rfl⟩

set_option maxRecDepth 100000 in
set_option maxHeartbeats 400000 in
/-- gf's power: by squares. -/
theorem power_any (a : UInt8) (n : UInt64) (w : World) :
    Calls Tryd.prog 44 #[.int .u8 a.toNat, .int .u64 n.toNat] w fun e w' => e = .returned (.int .u8 (gpow a n.toNat).toNat) ∧ w' = w := by
  go_enter Tryd.func44, Tryd.ntmps44
  go_wp2
  go_loop [0, 1, 5] (fun s0 s1 s5 => ∃ (p x : UInt8) (m : UInt64), s0 = .int .u8 x.toNat ∧ s1 = .int .u64 m.toNat ∧ s5 = .int .u8 p.toNat ∧ gm p (gpow x m.toNat) = gpow a n.toNat) (fun _ s1 _ => (intOf s1).toNat)
  case atStart => exact ⟨1, a, n, rfl, rfl, rfl, one_gm _⟩
  case round =>
    obtain ⟨p, x, m, rfl, rfl, rfl, hg⟩ := hrel
    have HG := Lib.hid hg; clear hg
    by_cases h0 : 0 < m.toNat
    · have hs := u64_shr1 m
      obtain ⟨m', hm'⟩ : ∃ m', m' = m >>> 1 := ⟨_, rfl⟩
      rw [← hm'] at hs
      clear hm'
      have hs2 : m'.toNat = m.toNat / 2 := by omega
      have e1 : bits BinOp.and IntKind.u64 (m.toNat : Int) 1 = ((m.toNat % 2 : Nat) : Int) := by
        have h1 : (1 : Int) = ((1 : Nat) : Int) := rfl
        rw [h1, u64_and_nat _ _ (u64_lt m) (by decide), nat_mask1]
      rcases Nat.mod_two_eq_zero_or_one m.toNat with h | h
      · rw [h] at e1
        have e2 : bits BinOp.and IntKind.u64 (m.toNat : Int) 1 = 0 := e1
        have hpow : gpow x m.toNat = gpow (gm x x) m'.toNat := by rw [gpow_sq, hs2]; congr 1; omega
        have HP := Lib.hid hpow
        have HS := Lib.hid hs2
        clear e1 h hpow hs2
        go_wp2_with fail
        refine (mul_any x x w).mono ?_
        rintro e w1 ⟨rfl, hw⟩
        subst hw
        go_wp2
        go_round
        case rel => exact ⟨p, gm x x, m', rfl, rfl, rfl, by rw [← HG.out, HP.out]⟩
        case measure => have := HS.out; simp [intOf]; omega
      · rw [h] at e1
        have e2 : bits BinOp.and IntKind.u64 (m.toNat : Int) 1 = 1 := e1
        have hpow : gm p (gpow x m.toNat) = gm (gm p x) (gpow (gm x x) m'.toNat) := by
          rw [gpow_sq, hs2, ← gm_assoc]
          congr 1
          have : m.toNat = 1 + 2 * (m.toNat / 2) := by omega
          conv => lhs; rw [this]
          rw [gpow_add, gpow_one]
        have HP := Lib.hid hpow
        have HS := Lib.hid hs2
        clear e1 h hpow hs2
        go_wp2_with fail
        refine (mul_any p x w).mono ?_
        rintro e w1 ⟨rfl, hw⟩
        subst hw
        go_wp2_with fail
        refine (mul_any x x w1).mono ?_
        rintro e w2 ⟨rfl, hw⟩
        subst hw
        go_wp2
        go_round
        case rel => exact ⟨gm p x, gm x x, m', rfl, rfl, rfl, by rw [← HG.out, HP.out]⟩
        case measure => have := HS.out; simp [intOf]; omega
    · have hz : m.toNat = 0 := by omega
      have HZ := Lib.hid hz
      clear hz
      go_wp2
      go_ret
      exact ⟨retv (by rw [← HG.out, HZ.out]; show _ = ((gm p 1).toNat : Int); rw [gm_one]), rfl⟩

/-- The two results of Inv. -/
def invV (a : UInt8) : Value := if a = 0 then .tuple #[.int .u8 0, .int .i64 1] else .tuple #[.int .u8 (ginv a).toNat, .int .i64 0]
theorem power254 (a : UInt8) (w : World) : Calls Tryd.prog 44 #[.int .u8 a.toNat, .int .u64 254] w fun e w' => e = .returned (.int .u8 (ginv a).toNat) ∧ w' = w := power_any a 254 w

set_option maxRecDepth 100000 in
theorem inv_zero (w : World) :
    Calls Tryd.prog 37 #[.int .u8 0] w fun e w' => e = .returned (.tuple #[.int .u8 0, .int .i64 1]) ∧ w' = w := by
  go_enter Tryd.func37, Tryd.ntmps37
  go_wp2
  go_ret2
  exact ⟨rfl, rfl⟩
set_option maxRecDepth 100000 in
theorem inv_some (a : UInt8) (h : a ≠ 0) (w : World) :
    Calls Tryd.prog 37 #[.int .u8 a.toNat] w fun e w' => e = .returned (.tuple #[.int .u8 (ginv a).toNat, .int .i64 0]) ∧ w' = w := by
  have h0 : ((a.toNat : Int) == 0) = false := by
    rw [beq_eq_false_iff_ne]; intro e; apply h; apply UInt8.toNat_inj.1; have : (0 : UInt8).toNat = 0 := rfl; omega
  clear h
  go_enter Tryd.func37, Tryd.ntmps37
  go_wp2_with fail
  refine (power254 a w).mono ?_
  rintro e w1 ⟨rfl, hw⟩
  subst hw
  go_wp2
  go_ret2
  exact ⟨rfl, rfl⟩
/-- gf's Inv. -/
theorem inv_any (a : UInt8) (w : World) : Calls Tryd.prog 37 #[.int .u8 a.toNat] w fun e w' => e = .returned (invV a) ∧ w' = w := by
  by_cases h : a = 0
  · subst h
    exact inv_zero w
  · unfold invV
    rw [if_neg h]
    exact inv_some a h w
end Go.Proofs.YtmeckdgigjjjbaaDoor
