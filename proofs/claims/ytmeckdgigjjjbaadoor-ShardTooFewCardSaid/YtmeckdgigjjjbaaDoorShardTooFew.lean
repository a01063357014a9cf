/- ShardTooFew: for all rows and numbers the law returns true. Conditions: the reach of each slice, the table of math/bits. -/
import Derived.Test.YtmeckdgigjjjbaaDoorLayA
namespace Go.Proofs.YtmeckdgigjjjbaaDoor
open Go Go.RowKit

theorem few_place {K N i j : Nat} (hj : j < N) (hij : i < j) : (K + i) % N ≠ (K + j) % N := by
  intro h
  have h1 := Nat.div_add_mod (K + i) N
  have h2 := Nat.div_add_mod (K + j) N
  rw [h] at h1
  have h3 : N * ((K + j) / N) = N * ((K + i) / N) + (j - i) := by omega
  have h4 : (K + i) / N ≤ (K + j) / N := Nat.div_le_div_right (by omega)
  rcases Nat.lt_or_ge ((K + i) / N) ((K + j) / N) with h5 | h5
  · have : N * ((K + i) / N) + N ≤ N * ((K + j) / N) := by
      rw [← Nat.mul_succ]
      exact Nat.mul_le_mul_left _ h5
    omega
  · have : (K + i) / N = (K + j) / N := by omega
    rw [this] at h3
    omega
/-- The places that are struck. -/
def fewJ (K N : Nat) : Nat → List Nat
  | 0 => []
  | i + 1 => (K + i) % N :: fewJ K N i
theorem fewJ_len (K N : Nat) : ∀ i, (fewJ K N i).length = i
  | 0 => rfl
  | i + 1 => by unfold fewJ; rw [List.length_cons, fewJ_len K N i]
theorem fewJ_mem {K N r : Nat} : ∀ {i}, r ∈ fewJ K N i → ∃ j, j < i ∧ r = (K + j) % N
  | 0, h => by simp [fewJ] at h
  | i + 1, h => by
    unfold fewJ at h
    rcases List.mem_cons.1 h with h | h
    · exact ⟨i, by omega, h⟩
    · obtain ⟨j, hj, e⟩ := fewJ_mem h
      exact ⟨j, by omega, e⟩
theorem fewJ_nodup {K N : Nat} : ∀ {i}, i ≤ N → (fewJ K N i).Nodup
  | 0, _ => List.nodup_nil
  | i + 1, h => by
    unfold fewJ
    refine List.nodup_cons.2 ⟨fun hm => ?_, fewJ_nodup (by omega)⟩
    obtain ⟨j, hj, e⟩ := fewJ_mem hm
    exact few_place (by omega) hj e.symm

set_option maxRecDepth 100000 in
set_option maxHeartbeats 2000000 in
theorem shardTooFew_any (a : Option Addr) (c : Nat) (D : Mx) (m at' : Int) (w : World) (hr : RdLL w a c D) (hz : Reach D) (hm : -9223372036854775808 ≤ m ∧ m ≤ 9223372036854775807) (_hat : -9223372036854775808 ≤ at' ∧ at' ≤ 9223372036854775807)
    (hT : TabAt 0 Lib.deBruijn64tab w) :
    Calls Tryd.prog 5 #[.slice a D.length c, .int .i64 m, .int .i64 at'] w fun e w' => e = .returned (.bool true) ∧ Below w.heap.size w w' := by
  have gA := great_any w a c D hr hz
  cases hA : great 1500 D with
  | true =>
    rw [hA] at gA
    have GA := Lib.hid gA
    clear gA hA
    go_enter Tryd.func5, Tryd.ntmps5
    go_wp2_with fail
    refine GA.out.mono ?_
    rintro e w' ⟨rfl, rfl⟩
    go_wp2
    go_ret
    exact ⟨rfl, Below.refl _ _⟩
  | false =>
    obtain ⟨l1, l2⟩ := great_le hA
    rw [hA] at gA
    have GA := Lib.hid gA
    have hS := sums_any w a c D m hr hm (by omega) (fun r hr => by have := l2 r hr; omega)
    obtain ⟨S, F, hX⟩ : ∃ S F, sumsR D m = (S, F) := ⟨_, _, rfl⟩
    rw [hX] at hS
    have HS := Lib.hid hS
    clear gA hA hS
    by_cases hF : F = 0
    · subst hF
      obtain ⟨mn, s, rfl, hcb, hs1, hD, hall, hSl, hk1, hkm⟩ := sums_word hX
      obtain ⟨kn, hkn⟩ : ∃ kn, kn = D.length := ⟨_, rfl⟩
      have hA := word_dim (m := mn) hD hk1
      rw [← hkn] at hcb hD hall hk1 hkm hA ⊢
      obtain ⟨N, hN⟩ : ∃ N, N = kn + mn := ⟨_, rfl⟩
      obtain ⟨A, hAA⟩ : ∃ A, A = timesL (codeL kn mn) D := ⟨_, rfl⟩
      rw [← hAA] at hall hA
      have hs2 : s ≤ 1500 := by
        have h1 := hD.2 (D[0]'(by omega)) (List.getElem_mem (by omega))
        have h2 := l2 (D[0]'(by omega)) (List.getElem_mem (by omega))
        omega
      have hNp : 0 < N := by omega
      have HR := Lib.hid hr
      have HT := Lib.hid hT
      have HKN := Lib.hid hkn
      have HSL := Lib.hid hSl
      have HALL := Lib.hid hall
      have HCB := Lib.hid hcb
      have HD := Lib.hid hD
      have HA := Lib.hid hA
      have HAA := Lib.hid hAA
      have HN := Lib.hid hN
      clear hX hr hT hkn hSl hall hcb hD hA hAA hN hm l2 hz
      go_enter Tryd.func5, Tryd.ntmps5
      go_wp2_with fail
      rw [HKN.out]
      refine GA.out.mono ?_
      rintro e w' ⟨rfl, hw⟩
      have hw := hw.symm
      subst hw
      rw [← HKN.out]
      clear GA
      go_wp2_with fail
      rw [HKN.out]
      refine HS.out.mono ?_
      intro e w1 h
      obtain ⟨ac, cc, rfl, hrc, hb1⟩ := MxP.rd h
      rw [← HKN.out, show ((S, 0) : Mx × Nat).1.length = mn from HSL.out]
      obtain ⟨vD, hvD, hrD⟩ := (HR.out.kept hb1).rowsAt
      obtain ⟨vS, hvS, hrS⟩ := (show RdLL w1 ac cc S from hrc).rowsAt
      have hrA := hrD.append hrS
      rw [HALL.out] at hrA
      have hvDl : vD.length = kn := by rw [hrD.1]; exact HKN.out.symm
      have hvSl : vS.length = mn := by rw [hrS.1]; exact HSL.out
      obtain ⟨G, hG⟩ : ∃ G, G = w1.heap.size := ⟨_, rfl⟩
      have hemp := own_empty w1 34
      rw [← hG] at hemp
      have HG := Lib.hid hG
      have hGs : G ≤ w1.heap.size := by omega
      have hvD2 := hvD.kept ((Below.refl w1.heap.size w1).alloc (Nat.le_refl _) (.cells #[] 34))
      have hbe := (Below.refl G w1).alloc hGs (.cells #[] 34)
      have HOD := Lib.hid hrD.one
      have HOS := Lib.hid hrS.one
      have HRA := Lib.hid hrA
      have HVS := Lib.hid hvS
      clear h HS hrc hG hvD hvS hrD hrS hrA
      go_wp2_with (with_reducible refine At.slot 27 ?_)
      rw [← HG.out]
      refine At.out (wpList_app rfl (.tmp 25) (.tmp 26) 22 rfl elemR rfl G _ 0 [] rfl hemp _ kn c vD rfl hvDl.symm hvD2 HOD.out (by unfold maxLen; omega) (by omega) (by simp; omega) ?_)
      intro v2 w2 ho2 hb2 _
      rw [Nat.zero_add, List.nil_append] at ho2
      have hb3 : Below G w1 w2 := hbe.trans hb2
      clear hb2 hbe hemp hvD2
      go_wp2_with (with_reducible refine At.slot 29 ?_)
      refine At.out (wpList_app rfl (.tmp 27) (.tmp 28) 22 rfl elemR rfl G _ kn vD rfl ho2 _ mn cc vS rfl hvSl.symm (HVS.out.kept (HG.out ▸ hb3)) HOS.out (by unfold maxLen; omega) (by omega) (by have := hb3.size; have := HG.out; omega) ?_)
      intro v3 w3 ho3 hb4 _
      have hb5 : Below G w1 w3 := hb3.trans hb4
      rw [← HN.out] at ho3
      have hlay : ∃ g cap, v3 = .slice (some ⟨g, 0, none⟩) N cap ∧ G ≤ g ∧ Lay w1 w3 G g N cap (vD ++ vS) A := by
        obtain ⟨g, cap, he, h1, _⟩ := own_pos ho3 hNp
        subst he
        exact ⟨g, cap, rfl, h1, HRA.out.lay (by rw [HA.out.1, HN.out]) ho3⟩
      obtain ⟨g, cap, rfl, hGg, hlay⟩ := hlay
      clear ho2 hb3 hb4 ho3 hvDl hvSl
      obtain ⟨K, hK, hplace⟩ := place at' hNp
      have hN14 : N ≤ 14 := by have := HN.out; omega
      have hwr := place_wrap (at' := at') hNp (by omega)
      have hnz : ¬ (N : Int) = 0 := by omega
      have hmN : mn + 1 ≤ N := by have := HN.out; omega
      have HKM := Lib.hid hkm
      have HLAY := Lib.hid hlay
      have HB5 := Lib.hid hb5
      clear hkm hlay hb5
      go_upto_if 35 with (fail)
      go_cut [10] from 14 (fun s10 wx => s10 = .int .i64 K ∧ wx = w3)
      case first =>
        rcases hplace with ⟨h1, h2⟩ | ⟨h1, h2⟩
        · have hwr2 : IntKind.i64.wrap (at'.tmod N + N) = (K : Int) := by rw [h2]; exact IntWalk.i64_in _ (by omega)
          go_wp2_with fail
          go_meet
          exact ⟨by go_num, rfl⟩
        · have h1' : 0 ≤ at'.tmod N := by omega
          clear h1
          go_wp2_with fail
          go_meet
          exact ⟨by rw [h2], rfl⟩
      case rest =>
        obtain ⟨rfl, rfl⟩ := hcut
        clear hplace hwr
        go_wp2
        go_loopw [11] (fun s11 wr => ∃ (i : Nat) (L : Mx) (vs : List Value), i ≤ mn + 1 ∧ s11 = .int .i64 i ∧ Hid (Lay w1 wr G g N cap vs L) ∧ Hid (Struck A L (fewJ K N i)) ∧ Below G w1 wr) (fun s11 _ => mn + 1 - (intOf s11).toNat)
        case atStart => exact ⟨0, A, _, by omega, rfl, HLAY, Lib.hid (Struck.start A), HB5.out⟩
        case round =>
          clear HLAY HB5
          obtain ⟨i, L, vs, hi, rfl, HL, HST, hb⟩ := hrel
          by_cases hlt : i ≤ mn
          · have hii : (i : Int) ≤ (mn : Int) := by omega
            obtain ⟨q, hq⟩ : ∃ q, q = (K + i) % N := ⟨_, rfl⟩
            have hqN : q < N := by rw [hq]; exact Nat.mod_lt _ hNp
            have hqi : (q : Int) < (N : Int) := by omega
            have hrem : ((K : Int) + (i : Int)).tmod (N : Int) = (q : Int) := by
              rw [Int.tmod_eq_emod_of_nonneg (by omega), hq, Int.natCast_emod, Int.natCast_add]
            obtain ⟨ad5, cd5, hc5, hf5, _⟩ := HL.out.cell q hqN
            have hput := HL.out.put q none 0 0 [] rfl (Rd.none w1)
            have hst := HST.out.next q
            rw [hq] at hst
            have hb6 := hb.setCell (p := ⟨g, q, none⟩) (by show G ≤ g; exact hGg) (.slice none 0 0)
            have HP := Lib.hid hput
            have HS2 : Hid (Struck A (L.set q []) (fewJ K N (i + 1))) := Lib.hid (by rw [hq]; exact hst)
            have hN14i : (N : Int) ≤ 14 := by omega
            clear hput hst hb hq
            go_wp2
            go_roundw
            case rel => exact ⟨i + 1, L.set q [], _, by omega, by go_num, HP, HS2, hb6⟩
            case measure => simp [intOf]; omega
          · obtain rfl : mn + 1 = i := by omega
            have hnl : ¬ ((mn : Int) + 1) ≤ (mn : Int) := by omega
            have hbw : Below w.heap.size w wr := hb1.trans (hb.mono (by have := hb1.size; have := HG.out; omega))
            have hll : L.length = N := by rw [HST.out.len, HA.out.1, HN.out]
            have hmr : mendR L kn mn = ([], 15) := few_mend (J := fewJ K N (mn + 1)) HD.out hs1 HCB.out (fewJ_nodup hmN) (fewJ_len _ _ _) (fun r hr => by
              obtain ⟨j, _, e⟩ := fewJ_mem hr
              rw [e, ← HN.out]
              exact Nat.mod_lt _ hNp) (HAA.out ▸ HST.out)
            have hmend := mendAll_any wr (some ⟨g, 0, none⟩) cap L kn mn (HL.out.rd (HG.out ▸ hb)) (by have := HKM.out; omega) (by have := HKM.out; omega) (by omega) (fun r hr => by
              obtain ⟨t, ht, rfl⟩ := List.mem_iff_getElem.1 hr
              have := HST.out.row t (by rw [HA.out.1, ← HN.out]; omega)
              rw [List.getD_eq_getElem?_getD, List.getElem?_eq_getElem ht] at this
              simp only [Option.getD_some] at this
              rw [this]
              split
              · simp
              · rw [getD_len HA.out (by rw [← HN.out]; omega)]; omega) (tab_kept HT.out hbw)
            rw [hmr, hll] at hmend
            have HM := Lib.hid hmend
            have HBW := Lib.hid hbw
            clear hb hmend hmr hbw hll
            go_wp2_with fail
            refine HM.out.mono ?_
            intro e w5 h
            obtain ⟨ax, cx, rfl, _, hb5⟩ := MxP.rd h
            have hend : Below w.heap.size w w5 := HBW.out.trans (hb5.mono HBW.out.size)
            clear h hb5
            go_wp2_with fail
            refine (shardKnown_any _).mono ?_
            rintro e w6 ⟨rfl, hb6⟩
            have hend2 := hend.trans (hb6.mono hend.size)
            clear hb6 hend
            go_wp2
            go_ret
            exact ⟨rfl, hend2⟩
    · have hfi : ((F : Int) != 0) = true := by rw [bne_iff_ne]; omega
      clear l2 hX hr hz hF
      go_enter Tryd.func5, Tryd.ntmps5
      go_wp2_with fail
      refine GA.out.mono ?_
      rintro e w' ⟨rfl, hw⟩
      have hw := hw.symm
      subst hw
      clear GA
      go_wp2_with fail
      refine HS.out.mono ?_
      intro e w1 h
      obtain ⟨ac, cc, rfl, _, hb1⟩ := MxP.rd h
      clear h
      go_wp2_with fail
      refine (shardKnown_any _).mono ?_
      rintro e w4 ⟨rfl, hb4⟩
      go_wp2
      go_ret
      exact ⟨rfl, hb1.trans (hb4.mono hb1.size)⟩
end Go.Proofs.YtmeckdgigjjjbaaDoor
