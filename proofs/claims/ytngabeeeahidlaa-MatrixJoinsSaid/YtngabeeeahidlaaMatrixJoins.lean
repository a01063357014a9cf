/- MatrixJoins: for all three lists of rows the law returns true. Conditions: the reach of each slice. -/
import Derived.Test.YtngabeeeahidlaaMatLaw
namespace Go.Proofs.Ytngabeeeahidlaa
open Go Go.RowKit

theorem mulR_cases (A B : Mx) : (IsM A ∧ IsM B ∧ wid A = B.length ∧ mulR A B = (mulL A B, 0)) ∨ mulR A B = ([], 1) := by
  unfold mulR
  by_cases h : IsM A ∧ IsM B ∧ wid A = B.length
  · left; exact ⟨h.1, h.2.1, h.2.2, if_pos h⟩
  · right; exact if_neg h

set_option maxRecDepth 100000 in
set_option maxHeartbeats 4000000 in
theorem matrixJoins_any (a1 : Option Addr) (c1 : Nat) (A : Mx) (a2 : Option Addr) (c2 : Nat) (B : Mx) (a3 : Option Addr) (c3 : Nat) (C : Mx) (w : World) (h1 : RdLL w a1 c1 A) (z1 : Reach A) (h2 : RdLL w a2 c2 B) (z2 : Reach B) (h3 : RdLL w a3 c3 C) (z3 : Reach C) :
    Calls Try.prog 5 #[.slice a1 A.length c1, .slice a2 B.length c2, .slice a3 C.length c3] w fun e w' => e = .returned (.bool true) ∧ Below w.heap.size w w' := by
  have gA := great_any w a1 c1 A h1 z1
  have gB := great_any w a2 c2 B h2 z2
  have gC := great_any w a3 c3 C h3 z3
  have GA := Lib.hid gA
  have GB := Lib.hid gB
  have GC := Lib.hid gC
  clear gA gB gC
  cases hA : great 1200 A with
  | true =>
    rw [hA] at GA
    go_enter Try.func5, Try.ntmps5
    go_wp2_with fail
    refine GA.out.mono ?_
    rintro e w' ⟨rfl, rfl⟩
    go_wp2
    go_ret
    exact ⟨rfl, Below.refl _ _⟩
  | false =>
  rw [hA] at GA
  cases hB : great 1200 B with
  | true =>
    rw [hB] at GB
    go_enter Try.func5, Try.ntmps5
    go_wp2_with fail
    refine GA.out.mono ?_
    rintro e w' ⟨rfl, hw⟩
    have hw := hw.symm
    subst hw
    go_wp2_with fail
    refine GB.out.mono ?_
    rintro e w' ⟨rfl, hw⟩
    have hw := hw.symm
    subst hw
    go_wp2
    go_ret
    exact ⟨rfl, Below.refl _ _⟩
  | false =>
  rw [hB] at GB
  cases hC : great 1200 C with
  | true =>
    rw [hC] at GC
    go_enter Try.func5, Try.ntmps5
    go_wp2_with fail
    refine GA.out.mono ?_
    rintro e w' ⟨rfl, hw⟩
    have hw := hw.symm
    subst hw
    go_wp2_with fail
    refine GB.out.mono ?_
    rintro e w' ⟨rfl, hw⟩
    have hw := hw.symm
    subst hw
    go_wp2_with fail
    refine GC.out.mono ?_
    rintro e w' ⟨rfl, hw⟩
    have hw := hw.symm
    subst hw
    go_wp2
    go_ret
    exact ⟨rfl, Below.refl _ _⟩
  | false =>
  rw [hC] at GC
  clear hA hB hC
  have hM := mul_mx w a1 a2 c1 c2 A B h1 h2
  have hN := fun W (hb : Below w.heap.size w W) => mul_mx W a2 a3 c2 c3 B C (h2.kept hb) (h3.kept hb)
  obtain ⟨X, F, hX⟩ : ∃ X F, mulR A B = (X, F) := ⟨_, _, rfl⟩
  obtain ⟨Y, E, hY⟩ : ∃ Y E, mulR B C = (Y, E) := ⟨_, _, rfl⟩
  rw [hX] at hM
  simp only [hY] at hN
  have HM := Lib.hid hM
  have HN := Lib.hid hN
  clear hM hN
  by_cases hF : F = 0
  · by_cases hE : E = 0
    · subst hF hE
      have hend : mulR X C = (mulL X C, 0) ∧ mulR A Y = (mulL X C, 0) := by
        rcases mulR_cases A B with ⟨iA, iB, d1, e1⟩ | e1
        · rcases mulR_cases B C with ⟨_, iC, d2, e2⟩ | e2
          · rw [hX] at e1
            rw [hY] at e2
            simp only [Prod.mk.injEq, and_true] at e1 e2
            subst e1 e2
            have wB := iB.wid1
            have wC := iC.wid1
            have wA := iA.wid1
            have dX : Dim (mulL A B) A.length (wid B) := mulL_dim rfl
            have dY : Dim (mulL B C) B.length (wid C) := mulL_dim rfl
            have iX := dX.isM iA.1 iA.2.1 wB.1 wB.2
            have iY := dY.isM iB.1 iB.2.1 wC.1 wC.2
            refine ⟨if_pos ⟨iX, iC, by rw [dX.wid iA.1, d2]⟩, ?_⟩
            rw [mulL_assoc iA.dim (d1 ▸ iB.dim) (d2 ▸ iC.dim) (by omega) wB.1]
            exact if_pos ⟨iA, iY, by rw [dY.1, d1]⟩
          · rw [hY] at e2; simp at e2
        · rw [hX] at e1; simp at e1
      obtain ⟨Z, hZ⟩ : ∃ Z, Z = mulL X C := ⟨_, rfl⟩
      rw [← hZ] at hend
      have hP : ∀ (W : World) (a : Option Addr) (c : Nat), Below w.heap.size w W → RdLL W a c X → Calls Try.prog 7 #[.slice a X.length c, .slice a3 C.length c3] W (MxP W (Z, 0)) := by
        intro W a c hb hr
        have := mul_mx W a a3 c c3 X C hr (h3.kept hb)
        rw [hend.1] at this
        exact this
      have hQ : ∀ (W : World) (a : Option Addr) (c : Nat), Below w.heap.size w W → RdLL W a c Y → Calls Try.prog 7 #[.slice a1 A.length c1, .slice a Y.length c] W (MxP W (Z, 0)) := by
        intro W a c hb hr
        have := mul_mx W a1 a c1 c A Y (h1.kept hb) hr
        rw [hend.2] at this
        exact this
      have HP := Lib.hid hP
      have HQ := Lib.hid hQ
      clear hX hY hend hZ hP hQ
      go_enter Try.func5, Try.ntmps5
      go_wp2_with fail
      refine GA.out.mono ?_
      rintro e w' ⟨rfl, hw⟩
      have hw := hw.symm
      subst hw
      go_wp2_with fail
      refine GB.out.mono ?_
      rintro e w' ⟨rfl, hw⟩
      have hw := hw.symm
      subst hw
      go_wp2_with fail
      refine GC.out.mono ?_
      rintro e w' ⟨rfl, hw⟩
      have hw := hw.symm
      subst hw
      clear GA GB GC
      go_wp2_with fail
      refine HM.out.mono ?_
      intro e w1 h
      obtain ⟨ac, cc, rfl, hrc, hb1⟩ := MxP.rd h
      clear h HM
      go_wp2_with fail
      refine (HN.out w1 hb1).mono ?_
      intro e w2 h
      obtain ⟨ad, cd, rfl, hrd, hb2⟩ := MxP.rd h
      have hb2' := hb1.trans (hb2.mono hb1.size)
      have hrc2 := hrc.kept hb2
      clear h HN hrc hb1 hb2
      go_wp2_with fail
      refine (HP.out w2 ac cc hb2' hrc2).mono ?_
      intro e w3 h
      obtain ⟨ae, ce, rfl, hre, hb3⟩ := MxP.rd h
      have hb3' := hb2'.trans (hb3.mono hb2'.size)
      have hrd3 := hrd.kept hb3
      clear h HP hrd hb2' hb3 hrc2
      go_wp2_with fail
      refine (HQ.out w3 ad cd hb3' hrd3).mono ?_
      intro e w4 h
      obtain ⟨af, cf, rfl, hrf, hb4⟩ := MxP.rd h
      have hb4' := hb3'.trans (hb4.mono hb3'.size)
      have hre4 := hre.kept hb4
      clear h HQ hre hb3' hb4 hrd3
      go_wp2_with fail
      refine (rows_true w4 ae af ce cf Z hre4 hrf).mono ?_
      rintro e w7 ⟨rfl, hq7⟩
      have hb7 : Below w.heap.size w w7 := hb4'.trans (hq7.below _)
      clear hq7 hrf hb4' hre4
      go_wp2_with fail
      refine (matKnown_any _).mono ?_
      rintro e w8 ⟨rfl, hb8⟩
      go_wp2
      go_ret
      exact ⟨rfl, hb7.trans (hb8.mono hb7.size)⟩
    · have hEi : ((E : Int) != 0) = true := by rw [bne_iff_ne]; omega
      subst hF
      clear hX hY hE
      go_enter Try.func5, Try.ntmps5
      go_wp2_with fail
      refine GA.out.mono ?_
      rintro e w' ⟨rfl, hw⟩
      have hw := hw.symm
      subst hw
      go_wp2_with fail
      refine GB.out.mono ?_
      rintro e w' ⟨rfl, hw⟩
      have hw := hw.symm
      subst hw
      go_wp2_with fail
      refine GC.out.mono ?_
      rintro e w' ⟨rfl, hw⟩
      have hw := hw.symm
      subst hw
      clear GA GB GC
      go_wp2_with fail
      refine HM.out.mono ?_
      intro e w1 h
      obtain ⟨ac, cc, rfl, hrc, hb1⟩ := MxP.rd h
      clear h HM hrc
      go_wp2_with fail
      refine (HN.out w1 hb1).mono ?_
      intro e w2 h
      obtain ⟨ad, cd, rfl, hrd, hb2⟩ := MxP.rd h
      have hb2' := hb1.trans (hb2.mono hb1.size)
      clear h HN hb1 hb2 hrd
      go_wp2_with fail
      refine (matKnown_any _).mono ?_
      rintro e w8 ⟨rfl, hb8⟩
      go_wp2
      go_ret
      exact ⟨rfl, hb2'.trans (hb8.mono hb2'.size)⟩
  · have hFi : ((F : Int) != 0) = true := by rw [bne_iff_ne]; omega
    clear hX hY hF
    go_enter Try.func5, Try.ntmps5
    go_wp2_with fail
    refine GA.out.mono ?_
    rintro e w' ⟨rfl, hw⟩
    have hw := hw.symm
    subst hw
    go_wp2_with fail
    refine GB.out.mono ?_
    rintro e w' ⟨rfl, hw⟩
    have hw := hw.symm
    subst hw
    go_wp2_with fail
    refine GC.out.mono ?_
    rintro e w' ⟨rfl, hw⟩
    have hw := hw.symm
    subst hw
    clear GA GB GC
    go_wp2_with fail
    refine HM.out.mono ?_
    intro e w1 h
    obtain ⟨ac, cc, rfl, hrc, hb1⟩ := MxP.rd h
    clear h HM hrc
    go_wp2_with fail
    refine (HN.out w1 hb1).mono ?_
    intro e w2 h
    obtain ⟨ad, cd, rfl, hrd, hb2⟩ := MxP.rd h
    have hb2' := hb1.trans (hb2.mono hb1.size)
    clear h HN hb1 hb2 hrd
    go_wp2_with fail
    refine (matKnown_any _).mono ?_
    rintro e w8 ⟨rfl, hb8⟩
    go_wp2
    go_ret
    exact ⟨rfl, hb2'.trans (hb8.mono hb2'.size)⟩
end Go.Proofs.Ytngabeeeahidlaa
