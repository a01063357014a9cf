/- fsm's different: the contract. Conditions: its own premises. -/
import Derived.Test.YteenbobblbehoaaFsmL
namespace Go.Proofs.Yteenbobblbehoaa
open Go Go.RowKit

theorem diffF_drop {l : List Int} {k : Nat} (hk : k < l.length) (m : UInt64) : diffF (l.drop k) m = (if l[k] < -1 then false else if 64 ≤ l[k] then false else if l[k] = -1 then diffF (l.drop (k + 1)) m else if (m >>> UInt64.ofNat l[k].toNat) &&& 1 = 1 then false else diffF (l.drop (k + 1)) (m ||| (1 <<< UInt64.ofNat l[k].toNat))) := by
  rw [List.drop_eq_getElem_cons hk]
  rfl

theorem diff_shr (x : UInt64) (n : Int) (h : n < 64) : bits .and .u64 ((x.toNat : Int) / 2 ^ n.toNat) 1 = (((x >>> UInt64.ofNat n.toNat) &&& 1).toNat : Int) := by
  have h1 : (x.toNat : Int) / 2 ^ n.toNat = ((x.toNat / 2 ^ n.toNat : Nat) : Int) := by rw [Int.natCast_ediv, Int.natCast_pow]; rfl
  have h2 : (1 : Int) = ((1 : Nat) : Int) := rfl
  have hn : n.toNat < 64 := by omega
  rw [h1, h2, u64_and_nat _ _ (Nat.lt_of_le_of_lt (Nat.div_le_self _ _) (u64_lt x)) (by omega), UInt64.toNat_and, UInt64.toNat_shiftRight, UInt64.toNat_ofNat', Nat.mod_eq_of_lt (show n.toNat < 2 ^ 64 by omega), Nat.mod_eq_of_lt hn, Nat.shiftRight_eq_div_pow]
  rfl
theorem diff_shl (x : UInt64) (n : Int) (h : n < 64) : bits .or .u64 (x.toNat : Int) (IntKind.u64.wrap (2 ^ n.toNat)) = ((x ||| (1 <<< UInt64.ofNat n.toNat)).toNat : Int) := by
  have hn : n.toNat < 64 := by omega
  have hp : 2 ^ n.toNat < 2 ^ 64 := Nat.pow_lt_pow_right (by decide) hn
  have h1 : IntKind.u64.wrap (2 ^ n.toNat) = ((2 ^ n.toNat : Nat) : Int) := by
    rw [IntKind.wrap_u64, Int.natCast_pow]
    have : ((2 ^ n.toNat : Nat) : Int) < 18446744073709551616 := by omega
    rw [Int.natCast_pow] at this
    have h0 : (0 : Int) ≤ ((2 : Nat) : Int) ^ n.toNat := Int.pow_nonneg (by decide)
    exact Int.emod_eq_of_lt h0 this
  rw [h1, u64_or_nat _ _ (u64_lt x) (by omega), UInt64.toNat_or, UInt64.toNat_shiftLeft, UInt64.toNat_ofNat', Nat.mod_eq_of_lt (show n.toNat < 2 ^ 64 by omega), Nat.mod_eq_of_lt hn, Nat.shiftLeft_eq, show (1 : UInt64).toNat = 1 from rfl, Nat.one_mul, Nat.mod_eq_of_lt hp]
theorem and_one (y : UInt64) : (y &&& 1 = 1 ∧ (y &&& 1).toNat = 1) ∨ (¬ y &&& 1 = 1 ∧ (y &&& 1).toNat = 0) := by
  have h : (y &&& 1).toNat = y.toNat % 2 := by rw [UInt64.toNat_and]; exact Nat.and_one_is_mod _
  by_cases hy : y &&& 1 = 1
  · exact .inl ⟨hy, by rw [hy]; rfl⟩
  · refine .inr ⟨hy, ?_⟩
    have : (y &&& 1).toNat ≠ 1 := fun e => hy (UInt64.toNat_inj.1 e)
    omega

set_option maxRecDepth 100000 in
set_option maxHeartbeats 1000000 in
theorem different_any (w : World) (a : Option Addr) (c m : Nat) (l : List Int) (hm : m = l.length) (hr : Rd w a c (BI l)) :
    Calls Try.prog 45 #[.slice a m c] w fun e w' => e = .returned (.bool (diffF l 0)) ∧ w' = w := by
  obtain ⟨R, hR⟩ : ∃ R, R = diffF l 0 := ⟨_, rfl⟩
  rw [← hR]
  have hl := hr.le
  rw [BI_length, ← hm] at hl
  have HR := Lib.hid hR
  have HM := Lib.hid hm
  clear hR hm
  go_enter Try.func45, Try.ntmps45
  go_wp2
  go_loopw [3, 8] (fun s3 s8 wr => ∃ (k : Nat) (x : UInt64), k ≤ m ∧ s8 = .int .i64 k ∧ s3 = .int .u64 (x.toNat : Int) ∧ wr = w ∧ Hid (R = diffF (l.drop k) x)) (fun _ s8 _ => m - (intOf s8).toNat)
  case atStart => exact ⟨0, 0, by omega, rfl, rfl, rfl, by rw [List.drop_zero]; exact HR⟩
  case round =>
    obtain ⟨k, x, hk, rfl, rfl, rfl, hK⟩ := hrel
    by_cases hlt : k < m
    · have hkl : k < l.length := by have := HM.out; omega
      have hki : (k : Int) < (m : Int) := by omega
      obtain ⟨b, o, rfl, u⟩ := hr.cs.bi k hkl
      have hK1 := hK.out
      rw [diffF_drop hkl] at hK1
      obtain ⟨n, hn⟩ : ∃ n, n = l[k] := ⟨_, rfl⟩
      rw [← hn] at u hK1
      have HX := Lib.hid hn
      clear hn hK
      by_cases h1 : n < -1
      · rw [if_pos h1] at hK1
        have HK := Lib.hid hK1
        clear hK1
        go_wp2
        go_ret
        rw [HK.out]
        exact ⟨rfl, rfl⟩
      · rw [if_neg h1] at hK1
        by_cases h2 : 64 ≤ n
        · rw [if_pos h2] at hK1
          have HK := Lib.hid hK1
          clear hK1
          go_wp2
          go_ret
          rw [HK.out]
          exact ⟨rfl, rfl⟩
        · rw [if_neg h2] at hK1
          by_cases h3 : n = -1
          · rw [if_pos h3] at hK1
            subst h3
            have HK := Lib.hid hK1
            clear hK1
            go_wp2
            go_roundw
            case rel => exact ⟨k + 1, x, by omega, by go_num, rfl, by trivial, HK⟩
            case measure => simp [intOf]; omega
          · rw [if_neg h3] at hK1
            have h0 : 0 ≤ n := by omega
            have h4 : (n == -1) = false := by simpa using h3
            have e1 := diff_shr x n (by omega)
            have e2 := diff_shl x n (by omega)
            obtain ⟨y, hy⟩ : ∃ y, y = x >>> UInt64.ofNat n.toNat := ⟨_, rfl⟩
            obtain ⟨z, hz⟩ : ∃ z, z = x ||| (1 <<< UInt64.ofNat n.toNat) := ⟨_, rfl⟩
            rw [← hy] at e1 hK1
            rw [← hz] at e2 hK1
            clear hy hz
            rcases and_one y with ⟨g1, g2⟩ | ⟨g1, g2⟩
            · rw [if_pos g1] at hK1
              rw [g2] at e1
              have e1 : bits .and .u64 ((x.toNat : Int) / 2 ^ n.toNat) 1 = 1 := e1
              have HK := Lib.hid hK1
              clear hK1 g1 g2
              go_wp2
              go_ret
              rw [HK.out]
              exact ⟨rfl, rfl⟩
            · rw [if_neg g1] at hK1
              rw [g2] at e1
              have e1 : bits .and .u64 ((x.toNat : Int) / 2 ^ n.toNat) 1 = 0 := e1
              have HK := Lib.hid hK1
              clear hK1 g1 g2
              go_wp2
              go_roundw
              case rel => exact ⟨k + 1, z, by omega, by go_num, rfl, by trivial, HK⟩
              case measure => simp [intOf]; omega
    · have hK1 : R = (x != 0) := by rw [hK.out, List.drop_of_length_le (by have := HM.out; omega)]; rfl
      have hz : ((x.toNat : Int) != 0) = (x != 0) := by
        by_cases h0 : x = 0
        · subst h0; rfl
        · have h1 : x.toNat ≠ 0 := fun e => h0 (UInt64.toNat_inj.1 e)
          rw [bne_iff_ne.2 h0, bne_iff_ne.2 (by omega)]
      have HK := Lib.hid hK1
      clear hK hK1
      go_wp2
      go_ret
      rw [HK.out]
      exact ⟨rfl, rfl⟩
end Go.Proofs.Yteenbobblbehoaa
