/- WireOnce: for all bytes the law returns true. Conditions: none. -/
import Derived.Test.YtalccaolbadncaaWLaw
import Derived.Test.YtalccaolbadncaaWDec
import Derived.Test.YtalccaolbadncaaWKnown
import Derived.Test.YtalccaolbadncaaMsgs
namespace Go.Proofs.Ytalccaolbadncaa
open Go Go.RowKit

theorem wDec_noN {b : List UInt8} (h : (wDec b).2.2 ≠ 0) : (wDec b).2.1 = 0 := by
  unfold wDec at h ⊢
  by_cases hE : (decR b).2.2 ≠ 0
  · rw [if_pos hE]
  · rw [if_neg hE] at h ⊢
    cases hB : bodyD (decR b).1 with
    | none => rfl
    | some m => rw [hB] at h; exact absurd rfl h

set_option maxRecDepth 100000 in
set_option maxHeartbeats 4000000 in
theorem wireOnce_any (a : Option Addr) (c : Nat) (b : List UInt8) (w : World) (hr : Rd w a c (B8 b)) :
    Calls Try.prog 7 #[.slice a b.length c] w fun e w' => e = .returned (.bool true) ∧ Below w.heap.size w w' := by
  by_cases hbig : 4000 < b.length
  · have hbd : (4000 : Int) < (b.length : Int) := by omega
    go_enter Try.func7, Try.ntmps7
    go_wp2
    go_ret
    exact ⟨rfl, Below.refl _ _⟩
  have hbd : (b.length : Int) ≤ 4000 := by omega
  have hcap := hr.1
  rw [B8_length] at hcap
  obtain ⟨f, t, kd, nums, data, N, E, hX⟩ : ∃ f t kd nums data N E, wDec b = ((f, t, kd, nums, data), N, E) := ⟨_, _, _, _, _, _, _, rfl⟩
  have hD : Calls Try.prog 14 #[.slice a b.length c] w fun e w' => ∃ an cn ad cd,
      e = .returned (.tuple #[.agg #[.int .i64 f, .int .i64 t, .int .i64 kd, .slice an nums.length cn, .slice ad data.length cd], .int .i64 (N : Int), .int .i64 (E : Int)]) ∧
      Rd w' an cn (BI nums) ∧ w'.ownsRow w.heap.size 5 1 (.slice ad data.length cd) data.length (B8 data) ∧ Below w.heap.size w w' := by
    have := wDecode_any w a c b hr
    rw [hX] at this
    exact this
  by_cases hE : E = 0
  · subst hE
    obtain ⟨h1, h2, h3, hbn⟩ := wDec_once hX
    obtain ⟨ba, bo, rfl, _⟩ := hr.cs.b8 0 (by omega)
    have hlN : (b.take N).length = N := by rw [List.length_take]; omega
    have hEn : ∀ (W : World) (an : Option Addr) (cn : Nat) (ad : Option Addr) (cd : Nat), Rd W an cn (BI nums) → Rd W ad cd (B8 data) → Calls Try.prog 9 #[.agg #[.int .i64 f, .int .i64 t, .int .i64 kd, .slice an nums.length cn, .slice ad data.length cd]] W fun e w' => ∃ a c,
        e = .returned (.tuple #[.slice a N c, .int .i64 0]) ∧ Rd w' a c (B8 (b.take N)) ∧ Below W.heap.size W w' := by
      intro W an cn ad cd hn hd
      have := wEncode_any f t kd an cn nums ad cd data W hn hbn hd
      rw [h1] at this
      refine this.mono ?_
      rintro e w' ⟨a', c', rfl, hr', hb'⟩
      exact ⟨a', c', by show Ending.returned (.tuple #[.slice a' (b.take N).length c', .int .i64 0]) = _; rw [hlN], hr', hb'⟩
    have hSame : ∀ (W : World) (a1 a2 : Option Addr) (c1 c2 : Nat), Rd W a1 c1 (B8 (b.take N)) → Rd W a2 c2 (B8 (b.take N)) → Calls Try.prog 11 #[.slice a1 N c1, .slice a2 N c2] W fun e w' => e = .returned (.bool true) ∧ Qt W w' := by
      intro W a1 a2 c1 c2 h1 h2
      have := same_true W a1 a2 c1 c2 (b.take N) h1 h2
      rw [hlN] at this
      exact this
    have hNi : (N : Int) ≤ (b.length : Int) := by omega
    have hNc : (N : Int) ≤ (c : Int) := by omega
    have HD := Lib.hid hD
    have HE := Lib.hid hEn
    have HS := Lib.hid hSame
    clear hD hEn hSame hX h1 hlN hbn
    go_enter Try.func7, Try.ntmps7
    go_wp2_with fail
    refine HD.out.mono ?_
    rintro e w1 ⟨an, cn, ad, cd, rfl, hn1, ho1, hb1⟩
    have hst1 : ∀ o, Below w1.heap.size w1 (w1.alloc o) := fun o => (Below.refl _ _).alloc (Nat.le_refl _) o
    have hr1 := Rd.own3 ho1
    clear ho1
    go_wp2_with fail
    refine (HE.out _ an cn ad cd (hn1.kept (hst1 _)) (hr1.kept (hst1 _))).mono ?_
    rintro e w2 ⟨a2, c2, rfl, hr2, hb2⟩
    have hb12 : Below w1.heap.size w1 w2 := (hst1 _).trans (hb2.mono (by simp))
    have hbw2 := hb1.trans (hb12.mono hb1.size)
    clear hb2
    go_wp2_with fail
    refine (HS.out w2 a2 (some ⟨ba, bo, none⟩) c2 c hr2 ((hr.kept hbw2).take8 N)).mono ?_
    rintro e w3 ⟨rfl, hq3⟩
    have hbw3 := hbw2.trans (hq3.below _)
    go_wp2_with fail
    refine (wKnown_any _).mono ?_
    rintro e w4 ⟨rfl, hb4⟩
    go_wp2
    go_ret
    exact ⟨rfl, hbw3.trans (hb4.mono hbw3.size)⟩
  · have hN0 := wDec_noN (b := b) (by rw [hX]; exact hE)
    rw [hX] at hN0
    have hN0 : N = 0 := hN0
    subst hN0
    have hEi : ((E : Int) != 0) = true := by rw [bne_iff_ne]; omega
    have HD := Lib.hid hD
    clear hD hX hE
    go_enter Try.func7, Try.ntmps7
    go_wp2_with fail
    refine HD.out.mono ?_
    rintro e w1 ⟨an, cn, ad, cd, rfl, hn1, ho1, hb1⟩
    have hbw1 : ∀ o, Below w.heap.size w (w1.alloc o) := fun o => hb1.alloc hb1.size o
    go_wp2_with fail
    refine (wKnown_any _).mono ?_
    rintro e w4 ⟨rfl, hb4⟩
    go_wp2
    go_ret
    exact ⟨rfl, (hbw1 _).trans (hb4.mono (hbw1 _).size)⟩
end Go.Proofs.Ytalccaolbadncaa
