/- ShardLost: for all rows, numbers and places the law returns true. Conditions: the reach of each slice, the table of math/bits. -/
import Derived.Test.YtmeckdgigjjjbaaDoorLayA
import Derived.Deep.CutRange
namespace Go.Proofs.YtmeckdgigjjjbaaDoor
open Go Go.RowKit

set_option maxRecDepth 100000 in
set_option maxHeartbeats 2000000 in
theorem shardLost_any (a : Option Addr) (c : Nat) (D : Mx) (m : Int) (a2 : Option Addr) (c2 : Nat) (Z : List Int) (w : World) (hr : RdLL w a c D) (hz : Reach D) (hm : -9223372036854775808 ≤ m ∧ m ≤ 9223372036854775807) 
    (hrZ : Rd w a2 c2 (BI Z)) (_hbZ : ∀ n ∈ Z, -9223372036854775808 ≤ n ∧ n ≤ 9223372036854775807) (_hzZ : c2 * 8 ≤ 140737488351232)
    (hT : TabAt 0 Lib.deBruijn64tab w) :
    Calls Tryd.prog 4 #[.slice a D.length c, .int .i64 m, .slice a2 Z.length c2] w fun e w' => e = .returned (.bool true) ∧ Below w.heap.size w w' := by
  have gA := great_any w a c D hr hz
  have hZl : Z.length ≤ 9223372036854775807 := by have := hrZ.le; rwa [BI_length] at this
  cases hA : great 1500 D with
  | true =>
    rw [hA] at gA
    have GA := Lib.hid gA
    clear gA hA
    go_enter Tryd.func4, Tryd.ntmps4
    go_wp2_with fail
    refine GA.out.mono ?_
    rintro e w' ⟨rfl, rfl⟩
    go_wp2
    go_ret
    exact ⟨rfl, Below.refl _ _⟩
  | false =>
    obtain ⟨l1, l2⟩ := great_le hA
    rw [hA] at gA
    have GA := Lib.hid gA
    by_cases hZ : 100 < Z.length
    · have hZi : (100 : Int) < (Z.length : Int) := by omega
      clear gA hA l1 l2 hz hr hT
      go_enter Tryd.func4, Tryd.ntmps4
      go_wp2_with fail
      refine GA.out.mono ?_
      rintro e w' ⟨rfl, rfl⟩
      go_wp2
      go_ret
      exact ⟨rfl, Below.refl _ _⟩
    have hZi : (Z.length : Int) ≤ 100 := by omega
    clear hZ
    have hS := sums_any w a c D m hr hm (by omega) (fun r hr => by have := l2 r hr; omega)
    obtain ⟨S, F, hX⟩ : ∃ S F, sumsR D m = (S, F) := ⟨_, _, rfl⟩
    rw [hX] at hS
    have HS := Lib.hid hS
    clear gA hA hS
    by_cases hF : F = 0
    · subst hF
      obtain ⟨mn, s, rfl, hcb, hs1, hD, hall, hSl, hk1, hkm⟩ := sums_word hX
      obtain ⟨kn, hkn⟩ : ∃ kn, kn = D.length := ⟨_, rfl⟩
      have hA := word_dim (m := mn) hD hk1
      rw [← hkn] at hcb hD hall hk1 hkm hA ⊢
      obtain ⟨N, hN⟩ : ∃ N, N = kn + mn := ⟨_, rfl⟩
      obtain ⟨A, hAA⟩ : ∃ A, A = timesL (codeL kn mn) D := ⟨_, rfl⟩
      rw [← hAA] at hall hA
      have hs2 : s ≤ 1500 := by
        have h1 := hD.2 (D[0]'(by omega)) (List.getElem_mem (by omega))
        have h2 := l2 (D[0]'(by omega)) (List.getElem_mem (by omega))
        omega
      have hNp : 0 < N := by omega
      have HR := Lib.hid hr
      have HT := Lib.hid hT
      have HKN := Lib.hid hkn
      have HSL := Lib.hid hSl
      have HALL := Lib.hid hall
      have HCB := Lib.hid hcb
      have HD := Lib.hid hD
      have HA := Lib.hid hA
      have HAA := Lib.hid hAA
      have HN := Lib.hid hN
      clear hX hr hT hkn hSl hall hcb hD hA hAA hN hm l2 hz
      go_enter Tryd.func4, Tryd.ntmps4
      go_wp2_with fail
      rw [HKN.out]
      refine GA.out.mono ?_
      rintro e w' ⟨rfl, hw⟩
      have hw := hw.symm
      subst hw
      rw [← HKN.out]
      clear GA
      go_wp2_with fail
      rw [HKN.out]
      refine HS.out.mono ?_
      intro e w1 h
      obtain ⟨ac, cc, rfl, hrc, hb1⟩ := MxP.rd h
      rw [← HKN.out, show ((S, 0) : Mx × Nat).1.length = mn from HSL.out]
      obtain ⟨vD, hvD, hrD⟩ := (HR.out.kept hb1).rowsAt
      obtain ⟨vS, hvS, hrS⟩ := (show RdLL w1 ac cc S from hrc).rowsAt
      have hrA := hrD.append hrS
      rw [HALL.out] at hrA
      have hvDl : vD.length = kn := by rw [hrD.1]; exact HKN.out.symm
      have hvSl : vS.length = mn := by rw [hrS.1]; exact HSL.out
      obtain ⟨G, hG⟩ : ∃ G, G = w1.heap.size := ⟨_, rfl⟩
      have hemp := own_empty w1 34
      rw [← hG] at hemp
      have HG := Lib.hid hG
      have hGs : G ≤ w1.heap.size := by omega
      have hvD2 := hvD.kept ((Below.refl w1.heap.size w1).alloc (Nat.le_refl _) (.cells #[] 34))
      have hbe := (Below.refl G w1).alloc hGs (.cells #[] 34)
      have HOD := Lib.hid hrD.one
      have HOS := Lib.hid hrS.one
      have HRA := Lib.hid hrA
      have HVS := Lib.hid hvS
      clear h HS hrc hG hvD hvS hrD hrS hrA
      go_wp2_with (with_reducible refine At.slot 33 ?_)
      rw [← HG.out]
      refine At.out (wpList_app rfl (.tmp 31) (.tmp 32) 22 rfl elemR rfl G _ 0 [] rfl hemp _ kn c vD rfl hvDl.symm hvD2 HOD.out (by unfold maxLen; omega) (by omega) (by simp; omega) ?_)
      intro v2 w2 ho2 hb2 _
      rw [Nat.zero_add, List.nil_append] at ho2
      have hb3 : Below G w1 w2 := hbe.trans hb2
      clear hb2 hbe hemp hvD2
      go_wp2_with (with_reducible refine At.slot 35 ?_)
      refine At.out (wpList_app rfl (.tmp 33) (.tmp 34) 22 rfl elemR rfl G _ kn vD rfl ho2 _ mn cc vS rfl hvSl.symm (HVS.out.kept (HG.out ▸ hb3)) HOS.out (by unfold maxLen; omega) (by omega) (by have := hb3.size; have := HG.out; omega) ?_)
      intro v3 w3 ho3 hb4 _
      have hb5 : Below G w1 w3 := hb3.trans hb4
      rw [← HN.out] at ho3
      have hlay : ∃ g cap, v3 = .slice (some ⟨g, 0, none⟩) N cap ∧ G ≤ g ∧ Lay w1 w3 G g N cap (vD ++ vS) A := by
        obtain ⟨g, cap, he, h1, _⟩ := own_pos ho3 hNp
        subst he
        exact ⟨g, cap, rfl, h1, HRA.out.lay (by rw [HA.out.1, HN.out]) ho3⟩
      obtain ⟨g, cap, rfl, hGg, hlay⟩ := hlay
      clear ho2 hb3 hb4 ho3 hvDl hvSl
      have hN14 : N ≤ 14 := by have := HN.out; omega
      have hN14i : (N : Int) ≤ 14 := by omega
      have hnz : ¬ (N : Int) = 0 := by omega
      have HKM := Lib.hid hkm
      have hAl : A.length = N := by rw [HA.out.1, HN.out]
      have hrd3 := hlay.rd (HG.out ▸ hb5)
      have hw3 := hb1.trans (hb5.mono (by have := hb1.size; have := HG.out; omega) : Below w.heap.size w1 w3)
      obtain ⟨G2, hG2⟩ : ∃ G2, G2 = w3.heap.size := ⟨_, rfl⟩
      have hemp := own_empty w3 34
      rw [← hG2] at hemp
      have HG2 := Lib.hid hG2
      have hGs2 : G2 ≤ w3.heap.size := by omega
      have hG12 : w1.heap.size ≤ G2 := by have := hb5.size; omega
      have hvA := (own_rd hlay.outer).kept ((Below.refl w3.heap.size w3).alloc (Nat.le_refl _) (.cells #[] 34))
      have hvAl : (vD ++ vS).length = N := by have := hlay.outer.1; omega
      have hbe := (Below.refl G2 w3).alloc hGs2 (.cells #[] 34)
      have HRD3 := Lib.hid hrd3
      have HW3 := Lib.hid hw3
      have HB5 := Lib.hid hb5
      clear hkm hlay hb5 hrd3 hw3 hG2
      go_wp2_with (with_reducible refine At.slot 38 ?_)
      rw [← HG2.out]
      refine At.out (wpList_app rfl (.tmp 36) (.tmp 37) 22 rfl elemR rfl G2 _ 0 [] rfl hemp _ N cap (vD ++ vS) rfl hvAl.symm hvA HRA.out.one (by unfold maxLen; omega) (by omega) (by simp; omega) ?_)
      intro v4 w4 ho4 hb6 _
      rw [Nat.zero_add, List.nil_append] at ho4
      have hb7 : Below G2 w3 w4 := hbe.trans hb6
      have hlay2 : ∃ g2 cap2, v4 = .slice (some ⟨g2, 0, none⟩) N cap2 ∧ G2 ≤ g2 ∧ Lay w1 w4 G2 g2 N cap2 (vD ++ vS) A := by
        obtain ⟨g2, cap2, he, h1, _⟩ := own_pos ho4 hNp
        subst he
        exact ⟨g2, cap2, rfl, h1, HRA.out.lay hAl ho4⟩
      obtain ⟨g2, cap2, rfl, hGg2, hlay2⟩ := hlay2
      have HLAY := Lib.hid hlay2
      have HB7 := Lib.hid hb7
      clear hemp hvA hbe hb6 hb7 ho4 hlay2
      go_wp2
      go_loopw [11, 12] (fun s11 _ wr => ∃ (i : Nat) (L : Mx) (vs : List Value) (J : List Nat), i ≤ mn ∧ s11 = .int .i64 i ∧ Hid (Lay w1 wr G2 g2 N cap2 vs L) ∧ Hid (Struck A L J) ∧ J.length ≤ i ∧ Below G2 w3 wr) (fun s11 _ _ => mn + 1 - (intOf s11).toNat)
      case atStart => exact ⟨0, A, _, [], by omega, rfl, HLAY, Lib.hid (Struck.start A), by simp, HB7.out⟩
      case round =>
        clear HLAY HB7
        obtain ⟨i, L, vs, J, hi, rfl, HL, HST, hJ, hb⟩ := hrel
        by_cases hlt : i < mn ∧ i < Z.length
        · obtain ⟨hlm, hlz⟩ := hlt
          have hii : (i : Int) < (mn : Int) := by omega
          have hiz : (i : Int) < (Z.length : Int) := by omega
          obtain ⟨t, ht⟩ : ∃ t, t = Z[i] := ⟨_, rfl⟩
          have hbw : Below w.heap.size w wr := HW3.out.trans (hb.mono (by have := HW3.out.size; have := HG2.out; omega))
          obtain ⟨bz, oz, rfl, hcz⟩ := (hrZ.kept hbw).cs.bi i hlz
          rw [← ht] at hcz
          obtain ⟨K, hK, hplace⟩ := place t hNp
          have hwr := place_wrap (at' := t) hNp (by omega)
          have hKi : (K : Int) < (N : Int) := by omega
          obtain ⟨ad5, cd5, hc5, hf5, _⟩ := HL.out.cell K hK
          have HP := Lib.hid (HL.out.put K none 0 0 [] rfl (Rd.none w1))
          have HS2 := Lib.hid (HST.out.next K)
          have hb8 := hb.setCell (p := ⟨g2, K, none⟩) (by show G2 ≤ g2; exact hGg2) (.slice none 0 0)
          clear ht hb hbw
          rcases hplace with ⟨h1, h2⟩ | ⟨h1, h2⟩
          · have hwr2 : IntKind.i64.wrap (t.tmod N + N) = (K : Int) := by rw [h2]; exact IntWalk.i64_in _ (by omega)
            go_wp2
            go_roundw
            case rel => exact ⟨i + 1, L.set K [], _, K :: J, by omega, by go_num, HP, HS2, by simp only [List.length_cons]; omega, hb8⟩
            case measure => simp [intOf]; omega
          · have h1' : 0 ≤ t.tmod N := by omega
            clear h1
            go_wp2
            go_roundw
            case rel => exact ⟨i + 1, L.set K [], _, K :: J, by omega, by go_num, HP, HS2, by simp only [List.length_cons]; omega, hb8⟩
            case measure => simp [intOf]; omega
        · go_upto_region 9 with (fail)
          go_cut [47] from 39 to 65 (fun s47 wx => s47 = .bool false ∧ wx = wr)
          case first =>
            by_cases hlm : i < mn
            · have hii : (i : Int) < (mn : Int) := by omega
              have hiz : (Z.length : Int) ≤ (i : Int) := by omega
              go_wp2_with fail
              go_meet
              first
                | exact ⟨rfl, rfl⟩
                | exact ⟨by rw [decide_eq_false (by omega)], rfl⟩
            · have hii : (mn : Int) ≤ (i : Int) := by omega
              go_wp2_with fail
              go_meet
              exact ⟨rfl, rfl⟩
          case rest =>
            obtain ⟨rfl, rfl⟩ := hcut
            have hbw : Below w.heap.size w wc := HW3.out.trans (hb.mono (by have := HW3.out.size; have := HG2.out; omega))
            have hb1c : Below w1.heap.size w1 wc := (HG.out ▸ HB5.out).trans (hb.mono hG12)
            have hll : L.length = N := by rw [HST.out.len, hAl]
            have hmr : mendR L kn mn = (A, 0) := by
              rw [HAA.out]
              exact lost_mend HD.out hs1 HCB.out (by omega) (HAA.out ▸ HST.out)
            have hmend := mendAll_any wc (some ⟨g2, 0, none⟩) cap2 L kn mn (HL.out.rd hb1c) (by have := HKM.out; omega) (by have := HKM.out; omega) (by omega) (fun r hr => by
              obtain ⟨t, ht, rfl⟩ := List.mem_iff_getElem.1 hr
              have := HST.out.row t (by rw [hAl]; omega)
              rw [List.getD_eq_getElem?_getD, List.getElem?_eq_getElem ht] at this
              simp only [Option.getD_some] at this
              rw [this]
              split
              · simp
              · rw [getD_len HA.out (by rw [← HN.out]; omega)]; omega) (tab_kept HT.out hbw)
            rw [hmr, hll] at hmend
            have HM := Lib.hid hmend
            have HBW := Lib.hid hbw
            have HRA3 := Lib.hid (HRD3.out.kept (HG2.out ▸ hb : Below w3.heap.size w3 wc))
            have hAl' := Lib.hid hAl
            clear hb hmend hmr hbw hll hb1c hAl
            go_wp2_with fail
            refine HM.out.mono ?_
            intro e w5 h
            obtain ⟨ax, cx, rfl, hrx, hb5⟩ := MxP.rd h
            have hend : Below w.heap.size w w5 := HBW.out.trans (hb5.mono HBW.out.size)
            have hrows := rows_true w5 ax (some ⟨g, 0, none⟩) cx cap A hrx (HRA3.out.kept hb5)
            rw [hAl'.out] at hrows
            rw [show ((A, 0) : Mx × Nat).1.length = N from hAl'.out]
            have HROWS := Lib.hid hrows
            clear h hb5 hrx hrows
            go_wp2_with fail
            refine HROWS.out.mono ?_
            rintro e w6 ⟨rfl, hq6⟩
            have hend2 := hend.trans (hq6.below _)
            clear hq6 hend
            go_wp2_with fail
            refine (shardKnown_any _).mono ?_
            rintro e w7 ⟨rfl, hb7⟩
            have hend3 := hend2.trans (hb7.mono hend2.size)
            clear hb7 hend2
            go_wp2
            go_ret
            exact ⟨rfl, hend3⟩
    · have hfi : ((F : Int) != 0) = true := by rw [bne_iff_ne]; omega
      clear l2 hX hr hz hF hrZ _hbZ hT
      go_enter Tryd.func4, Tryd.ntmps4
      go_wp2_with fail
      refine GA.out.mono ?_
      rintro e w' ⟨rfl, hw⟩
      have hw := hw.symm
      subst hw
      clear GA
      go_wp2_with fail
      refine HS.out.mono ?_
      intro e w1 h
      obtain ⟨ac, cc, rfl, _, hb1⟩ := MxP.rd h
      clear h
      go_wp2_with fail
      refine (shardKnown_any _).mono ?_
      rintro e w4 ⟨rfl, hb4⟩
      go_wp2
      go_ret
      exact ⟨rfl, hb1.trans (hb4.mono hb1.size)⟩
end Go.Proofs.YtmeckdgigjjjbaaDoor
