/- MatrixOnes: for all rows and numbers the law returns true. Conditions: the reach of each slice. -/
import Derived.Test.YtngabeeeahidlaaMatLaw
import Derived.Test.YtngabeeeahidlaaRefMat
namespace Go.Proofs.Ytngabeeeahidlaa
open Go Go.RowKit

set_option maxRecDepth 100000 in
set_option maxHeartbeats 2000000 in
theorem matrixOnes_any (a1 : Option Addr) (c1 : Nat) (A : Mx) (n : Int) (w : World) (h1 : RdLL w a1 c1 A) (z1 : Reach A) (_hn : -9223372036854775808 ≤ n ∧ n ≤ 9223372036854775807) :
    Calls Try.prog 4 #[.slice a1 A.length c1, .int .i64 n] w fun e w' => e = .returned (.bool true) ∧ Below w.heap.size w w' := by
  have gA := great_any w a1 c1 A h1 z1
  cases hA : great 1200 A with
  | true =>
    rw [hA] at gA
    have GA := Lib.hid gA
    clear gA hA
    go_enter Try.func4, Try.ntmps4
    go_wp2_with fail
    refine GA.out.mono ?_
    rintro e w' ⟨rfl, rfl⟩
    go_wp2
    go_ret
    exact ⟨rfl, Below.refl _ _⟩
  | false =>
    rw [hA] at gA
    have GA := Lib.hid gA
    have hO := one_any w n
    have hR := fun W => refOne_any W n
    obtain ⟨X, F, hX⟩ : ∃ X F, oneR n = (X, F) := ⟨_, _, rfl⟩
    rw [hX] at hO
    simp only [hX] at hR
    have hI := fun W (hb : Below w.heap.size w W) => refIs_any W a1 c1 A (h1.kept hb)
    have HO := Lib.hid hO
    have HR := Lib.hid hR
    clear gA hA hX hO hR
    by_cases iA : IsM A
    · simp only [show isMat A = true from decide_eq_true iA] at hI
      have hA1 := iA.1
      have hA2 := iA.2.1
      have hone : ∀ W, Calls Try.prog 11 #[.int .i64 (A.length : Int)] W (MxP W (oneL A.length, 0)) := by
        intro W
        have := one_any W (A.length : Int)
        rw [show oneR (A.length : Int) = (oneL A.length, 0) by unfold oneR; rw [if_neg (by omega)]; rfl] at this
        exact this
      have hol : (oneL A.length).length = A.length := (oneL_dim _).1
      have hmul : ∀ (W : World) (a : Option Addr) (c : Nat), Below w.heap.size w W → RdLL W a c (oneL A.length) → Calls Try.prog 7 #[.slice a A.length c, .slice a1 A.length c1] W (MxP W (A, 0)) := by
        intro W a c hb hr
        have := mul_mx W a a1 c c1 (oneL A.length) A hr (h1.kept hb)
        rw [show mulR (oneL A.length) A = (A, 0) by
          unfold mulR
          rw [if_pos ⟨(oneL_dim A.length).isM hA1 hA2 hA1 hA2, iA, (oneL_dim A.length).wid hA1⟩, one_mulL iA.dim hA1], hol] at this
        exact this
      have HI := Lib.hid hI
      have HOne := Lib.hid hone
      have HMul := Lib.hid hmul
      have HOl := Lib.hid hol
      clear hI hone hmul iA hol
      go_enter Try.func4, Try.ntmps4
      go_wp2_with fail
      refine GA.out.mono ?_
      rintro e w' ⟨rfl, hw⟩
      have hw := hw.symm
      subst hw
      clear GA
      go_wp2_with fail
      refine HO.out.mono ?_
      intro e w1 h
      obtain ⟨ac, cc, rfl, hrc, hb1⟩ := MxP.rd h
      clear h HO
      go_wp2_with fail
      refine (HR.out w1).mono ?_
      intro e w2 h
      obtain ⟨ad, cd, rfl, hrd, hb2⟩ := MxP.rd h
      clear h HR
      go_wp2_with fail
      refine (rows_true w2 ac ad cc cd X (hrc.kept hb2) hrd).mono ?_
      rintro e w3 ⟨rfl, hq3⟩
      have hb3 : Below w.heap.size w w3 := (hb1.trans (hb2.mono hb1.size)).trans (hq3.below _)
      clear hrc hrd hb2 hq3 hb1
      go_wp2_with fail
      refine (HI.out w3 hb3).mono ?_
      rintro e w4 ⟨rfl, hq4⟩
      have hb4 : Below w.heap.size w w4 := hb3.trans (hq4.below _)
      clear hq4 hb3 HI
      go_wp2_with fail
      refine (HOne.out w4).mono ?_
      intro e w5 h
      obtain ⟨ae, ce, rfl, hre, hb5⟩ := MxP.rd h
      have hb5' := hb4.trans (hb5.mono hb4.size)
      rw [show ((oneL A.length, 0) : Mx × Nat).1.length = A.length from HOl.out]
      clear h hb5 hb4 HOne
      go_wp2_with fail
      refine (HMul.out w5 ae ce hb5' hre).mono ?_
      intro e w6 h
      obtain ⟨af, cf, rfl, hrf, hb6⟩ := MxP.rd h
      have hb6' := hb5'.trans (hb6.mono hb5'.size)
      clear h hb6 hb5' HMul
      go_wp2_with fail
      refine (rows_true w6 a1 af c1 cf A (h1.kept hb6') hrf).mono ?_
      rintro e w7 ⟨rfl, hq7⟩
      have hb7 : Below w.heap.size w w7 := hb6'.trans (hq7.below _)
      clear hq7 hrf hb6'
      go_wp2_with fail
      refine (matKnown_any _).mono ?_
      rintro e w8 ⟨rfl, hb8⟩
      go_wp2
      go_ret
      exact ⟨rfl, hb7.trans (hb8.mono hb7.size)⟩
    · simp only [isM_not iA] at hI
      have HI := Lib.hid hI
      clear hI iA
      go_enter Try.func4, Try.ntmps4
      go_wp2_with fail
      refine GA.out.mono ?_
      rintro e w' ⟨rfl, hw⟩
      have hw := hw.symm
      subst hw
      clear GA
      go_wp2_with fail
      refine HO.out.mono ?_
      intro e w1 h
      obtain ⟨ac, cc, rfl, hrc, hb1⟩ := MxP.rd h
      clear h HO
      go_wp2_with fail
      refine (HR.out w1).mono ?_
      intro e w2 h
      obtain ⟨ad, cd, rfl, hrd, hb2⟩ := MxP.rd h
      clear h HR
      go_wp2_with fail
      refine (rows_true w2 ac ad cc cd X (hrc.kept hb2) hrd).mono ?_
      rintro e w3 ⟨rfl, hq3⟩
      have hb3 : Below w.heap.size w w3 := (hb1.trans (hb2.mono hb1.size)).trans (hq3.below _)
      clear hrc hrd hb2 hq3 hb1
      go_wp2_with fail
      refine (HI.out w3 hb3).mono ?_
      rintro e w4 ⟨rfl, hq4⟩
      have hb4 : Below w.heap.size w w4 := hb3.trans (hq4.below _)
      clear hq4 hb3 HI
      go_wp2_with fail
      refine (matKnown_any _).mono ?_
      rintro e w8 ⟨rfl, hb8⟩
      go_wp2
      go_ret
      exact ⟨rfl, hb4.trans (hb8.mono hb4.size)⟩
end Go.Proofs.Ytngabeeeahidlaa
