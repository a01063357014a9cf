/- GFField: for all numbers the law returns true. Conditions: none. -/
import Derived.Test.YtdkaegiinmmhgaaGfPow
namespace Go.Proofs.Ytdkaegiinmmhgaa
open Go Go.RowKit

set_option maxRecDepth 100000 in
set_option maxHeartbeats 1000000 in
theorem gFField_walk (a b c : UInt8) (w : World) :
    Calls Try.prog 4 #[.int .u8 a.toNat, .int .u8 b.toNat, .int .u8 c.toNat] w fun e w' => e = .returned (.bool true) ∧ Below w.heap.size w w' := by
  have hx := u8_bin_xor b c
  obtain ⟨d, hd⟩ : ∃ d, d = b ^^^ c := ⟨_, rfl⟩
  rw [← hd] at hx
  have HD := Lib.hid hd; clear hd
  have hy := u8_bin_xor (gm a b) (gm a c)
  rw [← gm_xor_right, ← HD.out] at hy
  have hz : ((0 : UInt8).toNat : Int) = 0 := rfl
  have HZ := Lib.hid hz; clear hz
  have h1 := fun (x : UInt8) (w : World) => mul_any x 1 w
  have h0 := fun (x : UInt8) (w : World) => mul_any x 0 w
  have H1 : Hid (∀ (x : UInt8) (w : World), Calls Try.prog 8 #[.int .u8 x.toNat, .int .u8 1] w fun e w' => e = .returned (.int .u8 (gm x 1).toNat) ∧ w' = w) := h1
  have H0 : Hid (∀ (x : UInt8) (w : World), Calls Try.prog 8 #[.int .u8 x.toNat, .int .u8 0] w fun e w' => e = .returned (.int .u8 (gm x 0).toNat) ∧ w' = w) := h0
  clear h1 h0
  go_enter Try.func4, Try.ntmps4
  go_wp2_with fail
  refine (mul_any a b _).mono ?_
  rintro e w1 ⟨rfl, hw⟩
  subst hw
  go_wp2_with fail
  refine (mul_any b a _).mono ?_
  rintro e w1 ⟨rfl, hw⟩
  subst hw
  rw [gm_comm b a]
  go_wp2_with fail
  refine (mul_any b c _).mono ?_
  rintro e w1 ⟨rfl, hw⟩
  subst hw
  go_wp2_with fail
  refine (mul_any a (gm b c) _).mono ?_
  rintro e w1 ⟨rfl, hw⟩
  subst hw
  go_wp2_with fail
  refine (mul_any a b _).mono ?_
  rintro e w1 ⟨rfl, hw⟩
  subst hw
  go_wp2_with fail
  refine (mul_any (gm a b) c _).mono ?_
  rintro e w1 ⟨rfl, hw⟩
  subst hw
  rw [← gm_assoc]
  go_wp2_with fail
  refine (mul_any a d _).mono ?_
  rintro e w1 ⟨rfl, hw⟩
  subst hw
  go_wp2_with fail
  refine (mul_any a b _).mono ?_
  rintro e w1 ⟨rfl, hw⟩
  subst hw
  go_wp2_with fail
  refine (mul_any a c _).mono ?_
  rintro e w1 ⟨rfl, hw⟩
  subst hw
  go_wp2_with fail
  refine (H1.out a _).mono ?_
  rintro e w1 ⟨rfl, hw⟩
  subst hw
  rw [gm_one]
  go_wp2_with fail
  refine (H0.out a _).mono ?_
  rintro e w1 ⟨rfl, hw⟩
  subst hw
  rw [gm_zero, HZ.out]
  go_wp2_with fail
  refine (gfKnown_any _).mono ?_
  rintro e w1 ⟨rfl, hw⟩
  subst hw
  go_wp2
  go_ret
  exact ⟨rfl, Below.refl _ _⟩
end Go.Proofs.Ytdkaegiinmmhgaa
