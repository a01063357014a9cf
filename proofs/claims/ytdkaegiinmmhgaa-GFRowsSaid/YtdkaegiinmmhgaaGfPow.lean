/- Powers, the program's and the document's: contracts; and the law's known. Conditions: each contract's own premises. -/
import Derived.Test.YtdkaegiinmmhgaaGfRef
namespace Go.Proofs.Ytdkaegiinmmhgaa
open Go Go.RowKit

set_option maxRecDepth 100000 in
set_option maxHeartbeats 400000 in
/-- gf's Pow. -/
theorem pow_any (a : UInt8) (n : Int) (hn : -9223372036854775808 ≤ n ∧ n ≤ 9223372036854775807) (w : World) :
    Calls Try.prog 12 #[.int .u8 a.toNat, .int .i64 n] w fun e w' => e = .returned (.int .u8 (pw a n).toNat) ∧ w' = w := by
  by_cases h0 : 0 ≤ n
  · obtain ⟨x, hx⟩ : ∃ x : UInt64, (x.toNat : Int) = n := ⟨UInt64.ofNat n.toNat, by rw [UInt64.toNat_ofNat', Nat.mod_eq_of_lt (by omega)]; omega⟩
    have hp : gpow a x.toNat = pw a n := by rw [pw_nat, hx]
    have hwr : IntKind.u64.wrap n = (x.toNat : Int) := by rw [hx]; exact IntWalk.u64_in _ (by omega)
    have HP := Lib.hid hp
    have HX := Lib.hid hx
    clear hp hx hn
    go_enter Try.func12, Try.ntmps12
    go_wp2_with fail
    refine (power_any a x w).mono ?_
    rintro e w1 ⟨rfl, hw⟩
    subst hw
    go_wp2
    go_ret
    exact ⟨retv (by rw [HP.out]), rfl⟩
  · obtain ⟨y, hy⟩ : ∃ y : UInt64, (y.toNat : Int) = n + 18446744073709551616 := ⟨UInt64.ofNat (n + 18446744073709551616).toNat, by rw [UInt64.toNat_ofNat', Nat.mod_eq_of_lt (by omega)]; omega⟩
    have hwr : IntKind.u64.wrap n = (y.toNat : Int) := by rw [hy, IntKind.wrap_u64]; omega
    have hny := u64_neg y
    obtain ⟨x, hx⟩ : ∃ x, x = -y := ⟨_, rfl⟩
    rw [← hx] at hny
    have hny2 : IntKind.u64.wrap (-(y.toNat : Int)) = (x.toNat : Int) := by rw [IntKind.wrap_u64]; exact hny
    have hxn : (x.toNat : Int) = -n := by rw [← hny, hy]; omega
    have HX := Lib.hid hxn
    clear hx hy hxn
    by_cases ha : a = 0
    · subst ha
      have hp : pw 0 n = 0 := by unfold pw; rw [if_pos rfl, if_neg (by omega)]
      have HP := Lib.hid hp
      clear hp hn
      go_enter Try.func12, Try.ntmps12
      go_wp2_with fail
      refine (inv_any 0 w).mono ?_
      rintro e w1 ⟨rfl, hw⟩
      subst hw
      unfold invV
      rw [if_pos rfl]
      go_wp2
      go_ret
      exact ⟨retv (by rw [HP.out]; rfl), rfl⟩
    · have hp : gpow (ginv a) x.toNat = pw a n := by rw [pw_neg a ha, HX.out]; congr 1; omega
      have HP := Lib.hid hp
      have HA := Lib.hid ha
      clear hp hn ha
      go_enter Try.func12, Try.ntmps12
      go_wp2_with fail
      refine (inv_any a w).mono ?_
      rintro e w1 ⟨rfl, hw⟩
      subst hw
      unfold invV
      rw [if_neg HA.out]
      go_wp2_with fail
      refine (power_any (ginv a) x w1).mono ?_
      rintro e w2 ⟨rfl, hw⟩
      subst hw
      go_wp2
      go_ret
      exact ⟨retv (by rw [HP.out]), rfl⟩
theorem gpow_ref (a : UInt8) (k : Nat) : gpow a (k + 1) = gm (gpow a k) a := rfl

set_option maxRecDepth 100000 in
set_option maxHeartbeats 1000000 in
/-- The document's Pow. -/
theorem refPow_any (a : UInt8) (n : Int) (_hn : -9223372036854775808 ≤ n ∧ n ≤ 9223372036854775807) (w : World) :
    Calls Try.prog 13 #[.int .u8 a.toNat, .int .i64 n] w fun e w' => e = .returned (.int .u8 (pw a n).toNat) ∧ w' = w := by
  by_cases ha : a = 0
  · have ha0 : ((a.toNat : Int) == 0) = true := by rw [ha]; rfl
    by_cases h0 : n = 0
    · have hn0 : (n == 0) = true := by rw [h0]; rfl
      have hp : pw a n = 1 := by unfold pw; rw [if_pos ha, if_pos h0]
      have HP := Lib.hid hp
      clear hp ha h0 _hn
      go_enter Try.func13, Try.ntmps13
      go_wp2
      go_ret
      exact ⟨retv (by rw [HP.out]; rfl), rfl⟩
    · have hn0 : (n == 0) = false := by rw [beq_eq_false_iff_ne]; exact h0
      have hp : pw a n = 0 := by unfold pw; rw [if_pos ha, if_neg h0]
      have HP := Lib.hid hp
      clear hp ha h0 _hn
      go_enter Try.func13, Try.ntmps13
      go_wp2
      go_ret
      exact ⟨retv (by rw [HP.out]; rfl), rfl⟩
  · have ha0 : ((a.toNat : Int) == 0) = false := by
      rw [beq_eq_false_iff_ne]; intro e; apply ha; apply UInt8.toNat_inj.1; have : (0 : UInt8).toNat = 0 := rfl; omega
    have hp : pw a n = gpow a (n % 255).toNat := by unfold pw; rw [if_neg ha]
    obtain ⟨m, hm⟩ : ∃ m, m = (n % 255).toNat := ⟨_, rfl⟩
    rw [← hm] at hp
    have hm255 : m < 255 := by omega
    have hlo : -255 < n.tmod 255 := by have := Int.lt_tmod_of_pos n (show (0 : Int) < 255 by decide); omega
    have hhi : n.tmod 255 < 255 := Int.tmod_lt_of_pos n (by decide)
    have hmod : n.tmod 255 % 255 = n % 255 := by rw [Int.tmod_eq_emod]; split <;> simp
    have hw0 : IntKind.i64.wrap (n.tmod 255) = n.tmod 255 := IntWalk.i64_in _ (by omega)
    have HP := Lib.hid hp
    have hcs : (n.tmod 255 < 0 ∧ n.tmod 255 + 255 = (m : Int)) ∨ (¬ n.tmod 255 < 0 ∧ n.tmod 255 = (m : Int)) := by omega
    clear hp hm hmod _hn ha
    rcases hcs with ⟨hneg, e1⟩ | ⟨hneg, e1⟩
    all_goals
      have HE := Lib.hid e1; clear e1
      have e1 := HE.out
      go_enter Try.func13, Try.ntmps13
      go_wp2
      clear e1
      go_loop [6, 7] (fun s6 s7 => ∃ (k : Nat), k ≤ m ∧ s7 = .int .i64 k ∧ s6 = .int .u8 (gpow a k).toNat) (fun _ s7 => m - (intOf s7).toNat)
      case atStart => exact ⟨0, by omega, rfl, rfl⟩
      case round =>
        obtain ⟨k, hk, rfl, rfl⟩ := hrel
        by_cases hlt : k < m
        · go_wp2_with fail
          refine (refMul_any (gpow a k) a w).mono ?_
          rintro e w1 ⟨rfl, hw⟩
          subst hw
          rw [← gpow_ref]
          go_wp2
          go_round
          case rel => exact ⟨k + 1, by omega, by go_num, rfl⟩
          case measure => simp [intOf]; omega
        · obtain rfl : k = m := by omega
          go_wp2
          go_ret
          exact ⟨retv (by rw [HP.out]), rfl⟩

/-! ### known -/
theorem known_inv2 (w : World) : Calls Try.prog 11 #[.int .u8 2] w fun e w' => e = .returned (.tuple #[.int .u8 142, .int .i64 0]) ∧ w' = w := by
  have h := inv_some 2 (by decide) w
  have e : ginv 2 = 142 := by decide +kernel
  rw [e] at h
  exact h
theorem known_mul (w : World) : Calls Try.prog 8 #[.int .u8 2, .int .u8 128] w fun e w' => e = .returned (.int .u8 29) ∧ w' = w := by
  have h := mul_any 2 128 w
  have e : gm 2 128 = 29 := by decide +kernel
  rw [e] at h
  exact h
theorem known_pow (w : World) : Calls Try.prog 12 #[.int .u8 2, .int .i64 8] w fun e w' => e = .returned (.int .u8 29) ∧ w' = w := by
  have h := pow_any 2 8 (by decide) w
  have e : pw 2 8 = 29 := by decide +kernel
  rw [e] at h
  exact h
set_option maxRecDepth 100000 in
theorem gfKnown_any (w : World) : Calls Try.prog 10 #[] w fun e w' => e = .returned (.bool true) ∧ w' = w := by
  go_enter Try.func10, Try.ntmps10
  go_wp2_with fail
  refine (known_inv2 w).mono ?_
  rintro e w1 ⟨rfl, hw⟩
  subst hw
  go_wp2_with fail
  refine (known_mul _).mono ?_
  rintro e w2 ⟨rfl, hw⟩
  subst hw
  go_wp2_with fail
  refine (known_pow _).mono ?_
  rintro e w3 ⟨rfl, hw⟩
  subst hw
  go_wp2
  go_ret
  exact ⟨rfl, rfl⟩
end Go.Proofs.Ytdkaegiinmmhgaa
