/- MatrixProducts: for all two lists of rows the law returns true. Conditions: the reach of each slice. -/
import Derived.Test.YtngabeeeahidlaaMatLaw
import Derived.Test.YtngabeeeahidlaaRefMat
namespace Go.Proofs.Ytngabeeeahidlaa
open Go Go.RowKit

set_option maxRecDepth 100000 in
set_option maxHeartbeats 1000000 in
theorem matrixProducts_any (a1 : Option Addr) (c1 : Nat) (A : Mx) (a2 : Option Addr) (c2 : Nat) (B : Mx) (w : World) (h1 : RdLL w a1 c1 A) (z1 : Reach A) (h2 : RdLL w a2 c2 B) (z2 : Reach B) :
    Calls Try.prog 3 #[.slice a1 A.length c1, .slice a2 B.length c2] w fun e w' => e = .returned (.bool true) ∧ Below w.heap.size w w' := by
  have gA := great_any w a1 c1 A h1 z1
  have gB := great_any w a2 c2 B h2 z2
  cases hA : great 1200 A with
  | true =>
    rw [hA] at gA
    have GA := Lib.hid gA
    clear gA gB hA
    go_enter Try.func3, Try.ntmps3
    go_wp2_with fail
    refine GA.out.mono ?_
    rintro e w' ⟨rfl, rfl⟩
    go_wp2
    go_ret
    exact ⟨rfl, Below.refl _ _⟩
  | false =>
    cases hB : great 1200 B with
    | true =>
      rw [hA] at gA
      rw [hB] at gB
      have GA := Lib.hid gA
      have GB := Lib.hid gB
      clear gA gB hA hB
      go_enter Try.func3, Try.ntmps3
      go_wp2_with fail
      refine GA.out.mono ?_
      rintro e w' ⟨rfl, hw⟩
      have hw := hw.symm
      subst hw
      go_wp2_with fail
      refine GB.out.mono ?_
      rintro e w' ⟨rfl, hw⟩
      have hw := hw.symm
      subst hw
      go_wp2
      go_ret
      exact ⟨rfl, Below.refl _ _⟩
    | false =>
      rw [hA] at gA
      rw [hB] at gB
      have GA := Lib.hid gA
      have GB := Lib.hid gB
      have hM := mul_mx w a1 a2 c1 c2 A B h1 h2
      have hR := fun W (hb : Below w.heap.size w W) => refMul_mx W a1 a2 c1 c2 A B (h1.kept hb) (h2.kept hb)
      obtain ⟨X, F, hX⟩ : ∃ X F, mulR A B = (X, F) := ⟨_, _, rfl⟩
      rw [hX] at hM
      simp only [hX] at hR
      have HM := Lib.hid hM
      have HR := Lib.hid hR
      clear gA gB hA hB hX hM hR
      go_enter Try.func3, Try.ntmps3
      go_wp2_with fail
      refine GA.out.mono ?_
      rintro e w' ⟨rfl, hw⟩
      have hw := hw.symm
      subst hw
      go_wp2_with fail
      refine GB.out.mono ?_
      rintro e w' ⟨rfl, hw⟩
      have hw := hw.symm
      subst hw
      clear GA GB
      go_wp2_with fail
      refine HM.out.mono ?_
      intro e w1 h
      obtain ⟨ac, cc, rfl, hrc, hb1⟩ := MxP.rd h
      clear h HM
      go_wp2_with fail
      refine (HR.out w1 hb1).mono ?_
      intro e w2 h
      obtain ⟨ad, cd, rfl, hrd, hb2⟩ := MxP.rd h
      clear h HR
      go_wp2_with fail
      refine (rows_true w2 ac ad cc cd X (hrc.kept hb2) hrd).mono ?_
      rintro e w3 ⟨rfl, hq3⟩
      have hb3 : Below w.heap.size w w3 := (hb1.trans (hb2.mono hb1.size)).trans (hq3.below _)
      clear hrc hrd hb2 hq3
      go_wp2_with fail
      refine (matKnown_any _).mono ?_
      rintro e w4 ⟨rfl, hb4⟩
      go_wp2
      go_ret
      exact ⟨rfl, hb3.trans (hb4.mono hb3.size)⟩
end Go.Proofs.Ytngabeeeahidlaa
