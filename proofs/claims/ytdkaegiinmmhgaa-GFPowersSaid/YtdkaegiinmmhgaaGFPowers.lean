/- GFPowers: for all numbers the law returns true. Conditions: none. -/
import Derived.Test.YtdkaegiinmmhgaaGfPow
namespace Go.Proofs.Ytdkaegiinmmhgaa
open Go Go.RowKit

set_option maxRecDepth 100000 in
set_option maxHeartbeats 1000000 in
theorem gFPowers_walk (a : UInt8) (n m : Int) (w : World) (hn : -9223372036854775808 ≤ n ∧ n ≤ 9223372036854775807) (hm : -9223372036854775808 ≤ m ∧ m ≤ 9223372036854775807) :
    Calls Try.prog 6 #[.int .u8 a.toNat, .int .i64 n, .int .i64 m] w fun e w' => e = .returned (.bool true) ∧ Below w.heap.size w w' := by
  have hcs : ((a.toNat : Int) == 0) = true ∨ (((a.toNat : Int) == 0) = false ∧ a ≠ 0) := by
    by_cases h : a = 0
    · left; rw [h]; rfl
    · right
      refine ⟨?_, h⟩
      rw [beq_eq_false_iff_ne]; intro e; apply h; apply UInt8.toNat_inj.1; have : (0 : UInt8).toNat = 0 := rfl; omega
  have HN := Lib.hid hn
  have HM := Lib.hid hm
  have hcs2 : (((a.toNat : Int) == 0) = true ∧ True ∧ True ∧ True ∧ True) ∨ ((((a.toNat : Int) == 0) = false) ∧ n < -1099511627776 ∧ True ∧ True ∧ True) ∨ ((((a.toNat : Int) == 0) = false) ∧ ¬ n < -1099511627776 ∧ 1099511627776 < n ∧ True ∧ True) ∨
      ((((a.toNat : Int) == 0) = false) ∧ ¬ n < -1099511627776 ∧ ¬ 1099511627776 < n ∧ m < -1099511627776 ∧ True) ∨ ((((a.toNat : Int) == 0) = false) ∧ ¬ n < -1099511627776 ∧ ¬ 1099511627776 < n ∧ ¬ m < -1099511627776 ∧ 1099511627776 < m) ∨
      (a ≠ 0 ∧ ((a.toNat : Int) == 0) = false ∧ ¬ n < -1099511627776 ∧ ¬ 1099511627776 < n ∧ ¬ m < -1099511627776 ∧ ¬ 1099511627776 < m) := by
    rcases hcs with h | ⟨h, h'⟩
    · exact .inl ⟨h, trivial, trivial, trivial, trivial⟩
    · by_cases h1 : n < -1099511627776
      · exact .inr (.inl ⟨h, h1, trivial, trivial, trivial⟩)
      · by_cases h2 : 1099511627776 < n
        · exact .inr (.inr (.inl ⟨h, h1, h2, trivial, trivial⟩))
        · by_cases h3 : m < -1099511627776
          · exact .inr (.inr (.inr (.inl ⟨h, h1, h2, h3, trivial⟩)))
          · by_cases h4 : 1099511627776 < m
            · exact .inr (.inr (.inr (.inr (.inl ⟨h, h1, h2, h3, h4⟩))))
            · exact .inr (.inr (.inr (.inr (.inr ⟨h', h, h1, h2, h3, h4⟩))))
  clear hcs hn hm
  rcases hcs2 with ⟨c0, c1, c2, c3, c4⟩ | ⟨c0, c1, c2, c3, c4⟩ | ⟨c0, c1, c2, c3, c4⟩ | ⟨c0, c1, c2, c3, c4⟩ | ⟨c0, c1, c2, c3, c4⟩ | ⟨ha, c0, c1, c2, c3, c4⟩
  rotate_left 5
  · have hs : pw a 255 = 1 := pw_255 a ha
    have HS := Lib.hid hs
    have hsum := pw_add a ha n m
    have HSUM := Lib.hid hsum
    have hnm : -9223372036854775808 ≤ n + m ∧ n + m ≤ 9223372036854775807 := by omega
    have HNM := Lib.hid hnm
    have h255 := pow_any a 255 (by decide)
    have H255 := Lib.hid h255
    have c1' : -1099511627776 ≤ n := by omega
    have c2' : n ≤ 1099511627776 := by omega
    have c3' : -1099511627776 ≤ m := by omega
    have c4' : m ≤ 1099511627776 := by omega
    clear ha hs hsum hnm h255 c1 c2 c3 c4
    go_enter Try.func6, Try.ntmps6
    go_wp2_with fail
    refine (pow_any a n HN.out _).mono ?_
    rintro e w1 ⟨rfl, hw⟩
    subst hw
    go_wp2_with fail
    refine (refPow_any a n HN.out _).mono ?_
    rintro e w1 ⟨rfl, hw⟩
    subst hw
    go_wp2_with fail
    refine (pow_any a n HN.out _).mono ?_
    rintro e w1 ⟨rfl, hw⟩
    subst hw
    go_wp2_with fail
    refine (pow_any a m HM.out _).mono ?_
    rintro e w1 ⟨rfl, hw⟩
    subst hw
    go_wp2_with fail
    refine (mul_any _ _ _).mono ?_
    rintro e w1 ⟨rfl, hw⟩
    subst hw
    rw [HSUM.out]
    go_wp2_with fail
    refine (pow_any a (n + m) HNM.out _).mono ?_
    rintro e w1 ⟨rfl, hw⟩
    subst hw
    go_wp2_with fail
    refine (H255.out _).mono ?_
    rintro e w1 ⟨rfl, hw⟩
    subst hw
    rw [HS.out]
    have h1 : ((1 : UInt8).toNat : Int) = 1 := rfl
    rw [h1]
    clear h1
    go_wp2_with fail
    refine (gfKnown_any _).mono ?_
    rintro e w1 ⟨rfl, hw⟩
    subst hw
    go_wp2
    go_ret
    exact ⟨rfl, Below.refl _ _⟩
  all_goals
    go_enter Try.func6, Try.ntmps6
    go_wp2_with fail
    refine (pow_any a n HN.out _).mono ?_
    rintro e w1 ⟨rfl, hw⟩
    subst hw
    go_wp2_with fail
    refine (refPow_any a n HN.out _).mono ?_
    rintro e w1 ⟨rfl, hw⟩
    subst hw
    go_wp2_with fail
    refine (gfKnown_any _).mono ?_
    rintro e w1 ⟨rfl, hw⟩
    subst hw
    go_wp2
    go_ret
    exact ⟨rfl, Below.refl _ _⟩
end Go.Proofs.Ytdkaegiinmmhgaa
