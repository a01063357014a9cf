/- GFInverts: for all numbers the law returns true. Conditions: none. -/
import Derived.Test.YtdkaegiinmmhgaaGfPow
namespace Go.Proofs.Ytdkaegiinmmhgaa
open Go Go.RowKit

set_option maxRecDepth 100000 in
set_option maxHeartbeats 1000000 in
theorem gFInverts_walk (a b : UInt8) (w : World) :
    Calls Try.prog 5 #[.int .u8 a.toNat, .int .u8 b.toNat] w fun e w' => e = .returned (.bool true) ∧ Below w.heap.size w w' := by
  have z : ∀ x : UInt8, x = 0 ∨ (((x.toNat : Int) == 0) = false ∧ x ≠ 0) := by
    intro x
    by_cases h : x = 0
    · exact .inl h
    · right
      refine ⟨?_, h⟩
      rw [beq_eq_false_iff_ne]; intro e; apply h; apply UInt8.toNat_inj.1; have : (0 : UInt8).toNat = 0 := rfl; omega
  by_cases ha : a = 0
  · subst ha
    have hi : Calls Try.prog 11 #[.int .u8 ((0 : UInt8).toNat : Int)] w fun e w' => e = .returned (.tuple #[.int .u8 0, .int .i64 1]) ∧ w' = w := inv_zero w
    have HI := Lib.hid (inv_zero w)
    clear z hi
    go_enter Try.func5, Try.ntmps5
    go_wp2_with fail
    refine HI.out.mono ?_
    rintro e w1 ⟨rfl, hw⟩
    subst hw
    go_wp2_with fail
    refine (gfKnown_any _).mono ?_
    rintro e w2 ⟨rfl, hw⟩
    subst hw
    go_wp2
    go_ret
    exact ⟨rfl, Below.refl _ _⟩
  · have ha0 : ((a.toNat : Int) == 0) = false := by
      rcases z a with h | h
      · exact absurd h ha
      · exact h.1
    have HA := Lib.hid ha; clear ha
    rcases z b with hb | ⟨hb, hb'⟩
    · have hb0 : ((b.toNat : Int) == 0) = true := by rw [hb]; rfl
      clear hb z
      go_enter Try.func5, Try.ntmps5
      go_wp2_with fail
      refine (inv_some a HA.out _).mono ?_
      rintro e w1 ⟨rfl, hw⟩
      subst hw
      go_wp2_with fail
      refine (mul_any a (ginv a) _).mono ?_
      rintro e w1 ⟨rfl, hw⟩
      subst hw
      rw [gm_ginv a HA.out]
      have h1 : ((1 : UInt8).toNat : Int) = 1 := rfl
      rw [h1]
      clear h1
      go_wp2_with fail
      refine (gfKnown_any _).mono ?_
      rintro e w1 ⟨rfl, hw⟩
      subst hw
      go_wp2
      go_ret
      exact ⟨rfl, Below.refl _ _⟩
    · have hm : (((gm a b).toNat : Int) != 0) = true := by
        rw [bne_iff_ne]; intro e; apply gm_ne_zero HA.out hb'; apply UInt8.toNat_inj.1; have : (0 : UInt8).toNat = 0 := rfl; omega
      clear hb' z
      go_enter Try.func5, Try.ntmps5
      go_wp2_with fail
      refine (inv_some a HA.out _).mono ?_
      rintro e w1 ⟨rfl, hw⟩
      subst hw
      go_wp2_with fail
      refine (mul_any a (ginv a) _).mono ?_
      rintro e w1 ⟨rfl, hw⟩
      subst hw
      rw [gm_ginv a HA.out]
      have h1 : ((1 : UInt8).toNat : Int) = 1 := rfl
      rw [h1]
      clear h1
      go_wp2_with fail
      refine (mul_any a b _).mono ?_
      rintro e w1 ⟨rfl, hw⟩
      subst hw
      go_wp2_with fail
      refine (gfKnown_any _).mono ?_
      rintro e w1 ⟨rfl, hw⟩
      subst hw
      go_wp2
      go_ret
      exact ⟨rfl, Below.refl _ _⟩
end Go.Proofs.Ytdkaegiinmmhgaa
