/- The law MatrixInverts: the walk. Conditions: the reach of each slice, the table of math/bits. -/
import Derived.Test.YtngabeeeahidlaaDoorMatLaw
import Derived.Test.YtngabeeeahidlaaDoorInv
import Derived.Test.YtngabeeeahidlaaDoorRefInv
namespace Go.Proofs.YtngabeeeahidlaaDoor
open Go Go.RowKit

theorem inv_code {A B : Mx} {f : Nat} (h : InvOk A B f) : f = 1 ∨ f = 18 ∨ f = 0 := by
  rcases h with ⟨_, _, h⟩ | ⟨_, _, ⟨h, _⟩ | ⟨h, _⟩⟩
  · exact .inl h
  · exact .inr (.inl h)
  · exact .inr (.inr h)
/-- The inverse, either way round. -/
theorem inv_both {A B : Mx} (h : InvOk A B 0) (h' : InvRef A B 0) : IsM A ∧ Dim B A.length A.length ∧ mulR A B = (oneL A.length, 0) ∧ mulR B A = (oneL A.length, 0) := by
  rcases h with ⟨_, _, h⟩ | ⟨h1, h2, ⟨h, _⟩ | ⟨_, hu⟩⟩
  · omega
  · omega
  · rcases h' with ⟨k, _, _⟩ | ⟨_, _, ⟨k, _⟩ | ⟨_, _, kr⟩⟩
    · exact absurd ⟨h1, h2⟩ k
    · omega
    · have a1 := h1.1
      have a2 := h1.2.1
      have hB := hu.1.isM a1 a2 a1 a2
      have wB := hu.1.wid a1
      refine ⟨h1, hu.1, ?_, ?_⟩
      · unfold mulR; rw [if_pos ⟨h1, hB, by rw [h2]; exact hu.1.1.symm⟩, kr]
      · unfold mulR; rw [if_pos ⟨hB, h1, wB⟩, hu.2]

set_option maxRecDepth 100000 in
set_option maxHeartbeats 2000000 in
theorem matrixInverts_any (a1 : Option Addr) (c1 : Nat) (A : Mx) (w : World) (h1 : RdLL w a1 c1 A) (z1 : Reach A) (hT : TabAt 0 Lib.deBruijn64tab w) :
    Calls Tryd.prog 4 #[.slice a1 A.length c1] w fun e w' => e = .returned (.bool true) ∧ Below w.heap.size w w' := by
  have gA := great_any w a1 c1 A h1 z1
  cases hA : great 1200 A with
  | true =>
    rw [hA] at gA
    have GA := Lib.hid gA
    clear gA hA
    go_enter Tryd.func4, Tryd.ntmps4
    go_wp2_with fail
    refine GA.out.mono ?_
    rintro e w' ⟨rfl, rfl⟩
    go_wp2
    go_ret
    exact ⟨rfl, Below.refl _ _⟩
  | false =>
    rw [hA] at gA
    have GA := Lib.hid gA
    clear gA hA
    by_cases hbig : 16 < A.length
    · have hi : (16 : Int) < (A.length : Int) := by omega
      go_enter Tryd.func4, Tryd.ntmps4
      go_wp2_with fail
      refine GA.out.mono ?_
      rintro e w' ⟨rfl, rfl⟩
      go_wp2
      go_ret
      exact ⟨rfl, Below.refl _ _⟩
    · have hi : (A.length : Int) ≤ 16 := by omega
      have HI := Lib.hid (invert_any w a1 c1 A h1 hT)
      have HR := Lib.hid (fun W (hb : Below w.heap.size w W) => refInvert_any W a1 c1 A (h1.kept hb))
      go_enter Tryd.func4, Tryd.ntmps4
      go_wp2_with fail
      refine GA.out.mono ?_
      rintro e w' ⟨rfl, hw⟩
      have hw := hw.symm
      subst hw
      clear GA
      go_wp2_with fail
      refine HI.out.mono ?_
      rintro e w1 ⟨B, f, hok, h⟩
      obtain ⟨ac, cc, rfl, hrc, hb1⟩ := MxP.rd h
      have HOK := Lib.hid hok
      clear h HI hok
      go_wp2_with fail
      refine (HR.out w1 hb1).mono ?_
      rintro e w2 ⟨C, g, ad, cd, hrf, rfl, hrd, hb2⟩
      obtain ⟨hBC, hfg⟩ := inv_same HOK.out hrf
      subst hBC hfg
      have HRF := Lib.hid hrf
      clear HR hrf
      go_wp2_with fail
      refine (rows_true w2 ac ad cc cd B (hrc.kept hb2) hrd).mono ?_
      rintro e w3 ⟨rfl, hq3⟩
      have hb3 : Below w.heap.size w w3 := (hb1.trans (hb2.mono hb1.size)).trans (hq3.below _)
      have hrc3 := (hrc.kept hb2).kept (hq3.below _)
      clear hrd hb2 hq3 hrc
      by_cases hf0 : f = 0
      · subst hf0
        obtain ⟨iA, dB, hm1, hm2⟩ := inv_both HOK.out HRF.out
        have hA1 := iA.1
        have hA2 := iA.2.1
        have hBl := dB.1
        have hol : (oneL A.length).length = A.length := (oneL_dim _).1
        have hone : ∀ W, Calls Tryd.prog 12 #[.int .i64 (A.length : Int)] W (MxP W (oneL A.length, 0)) := by
          intro W
          have := one_any W (A.length : Int)
          rw [show oneR (A.length : Int) = (oneL A.length, 0) by unfold oneR; rw [if_neg (by omega)]; rfl] at this
          exact this
        have hmulA : ∀ W, Below w.heap.size w W → RdLL W ac cc B → Calls Tryd.prog 13 #[.slice a1 A.length c1, .slice ac A.length cc] W (MxP W (oneL A.length, 0)) := fun W hb hr => by
          have := mul_mx W a1 ac c1 cc A B (h1.kept hb) hr
          rwa [hm1, hBl] at this
        have hmulB : ∀ W, Below w.heap.size w W → RdLL W ac cc B → Calls Tryd.prog 13 #[.slice ac A.length cc, .slice a1 A.length c1] W (MxP W (oneL A.length, 0)) := fun W hb hr => by
          have := mul_mx W ac a1 cc c1 B A hr (h1.kept hb)
          rwa [hm2, hBl] at this
        have hrows : ∀ (W : World) (x y : Option Addr) (p q : Nat), RdLL W x p (oneL A.length) → RdLL W y q (oneL A.length) → _ := fun W x y p q hx hy => rows_true_n W x y p q A.length A.length (oneL A.length) hol.symm hol.symm hx hy
        have HOne := Lib.hid hone
        have HMA := Lib.hid hmulA
        have HMB := Lib.hid hmulB
        have HRW := Lib.hid hrows
        have HOl := Lib.hid hol
        rw [hBl]
        clear hone hmulA hmulB hrows hol hm1 hm2 dB iA hBl
        go_wp2_with fail
        refine (HOne.out w3).mono ?_
        intro e w4 h
        obtain ⟨ao, co, rfl, hro, hb4⟩ := MxP.rd h
        have hb4' := hb3.trans (hb4.mono hb3.size)
        have hrc4 := hrc3.kept hb4
        rw [show ((oneL A.length, 0) : Mx × Nat).1.length = A.length from HOl.out]
        have hro' : RdLL w4 ao co (oneL A.length) := hro
        clear h hb4 hb3 hrc3 HOne hro
        go_wp2_with fail
        refine (HMA.out w4 hb4' hrc4).mono ?_
        intro e w5 h
        obtain ⟨ap, cp, rfl, hrp, hb5⟩ := MxP.rd h
        have hb5' := hb4'.trans (hb5.mono hb4'.size)
        have hrc5 := hrc4.kept hb5
        have hro5 := hro'.kept hb5
        have hrp' : RdLL w5 ap cp (oneL A.length) := hrp
        rw [show ((oneL A.length, 0) : Mx × Nat).1.length = A.length from HOl.out]
        clear h hb5 hb4' hrc4 hro' hrp HMA
        go_wp2_with fail
        refine (HMB.out w5 hb5' hrc5).mono ?_
        intro e w6 h
        obtain ⟨aq, cq, rfl, hrq, hb6⟩ := MxP.rd h
        have hb6' := hb5'.trans (hb6.mono hb5'.size)
        have hro6 := hro5.kept hb6
        have hrp6 := hrp'.kept hb6
        have hrq' : RdLL w6 aq cq (oneL A.length) := hrq
        rw [show ((oneL A.length, 0) : Mx × Nat).1.length = A.length from HOl.out]
        clear h hb6 hb5' hrc5 hro5 hrp' hrq HMB
        go_wp2_with fail
        refine (HRW.out w6 ap ao cp co hrp6 hro6).mono ?_
        rintro e w7 ⟨rfl, hq7⟩
        have hb7 := hb6'.trans (hq7.below _)
        have hro7 := hro6.kept (hq7.below _)
        have hrq7 := hrq'.kept (hq7.below _)
        clear hq7 hb6' hro6 hrp6 hrq'
        go_wp2_with fail
        refine (HRW.out w7 aq ao cq co hrq7 hro7).mono ?_
        rintro e w8 ⟨rfl, hq8⟩
        have hb8 := hb7.trans (hq8.below _)
        clear hq8 hb7 hro7 hrq7
        go_wp2_with fail
        refine (matKnown_any _).mono ?_
        rintro e w9 ⟨rfl, hb9⟩
        go_wp2
        go_ret
        exact ⟨rfl, hb8.trans (hb9.mono hb8.size)⟩
      · have hfi : ((f : Int) != 0) = true := by rw [bne_iff_ne]; omega
        clear hf0 hrc3
        go_wp2_with fail
        refine (matKnown_any _).mono ?_
        rintro e w9 ⟨rfl, hb9⟩
        go_wp2
        go_ret
        exact ⟨rfl, hb3.trans (hb9.mono hb3.size)⟩
end Go.Proofs.YtngabeeeahidlaaDoor
