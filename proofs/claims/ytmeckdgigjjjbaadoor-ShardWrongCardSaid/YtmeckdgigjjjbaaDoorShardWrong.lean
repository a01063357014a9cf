/- ShardWrong: for all rows, numbers, places and bytes the law returns true. Conditions: the reach of each slice, the table of math/bits. -/
import Derived.Test.YtmeckdgigjjjbaaDoorLayA
import Derived.Deep.CutRange
namespace Go.Proofs.YtmeckdgigjjjbaaDoor
open Go Go.RowKit

theorem Lay.kept {w0 w w' : World} {B g n cap : Nat} {vs : List Value} {L : Mx} (h : Lay w0 w B g n cap vs L) (hb : Below w.heap.size w w') : Lay w0 w' B g n cap vs L := ⟨own_below h.outer hb, h.len, h.row⟩
theorem rdLL_mk {W : World} {B : Nat} {e : TypeId} {a : Option Addr} {c n : Nat} {vs : List Value} {L : Mx} (hn : L.length = n) (ho : W.ownsRow B e 1 (.slice a n c) n vs)
    (h : ∀ (r : Nat) (l : List UInt8), L[r]? = some l → ∃ ad cd, vs[r]? = some (.slice ad l.length cd) ∧ Rd W ad cd (B8 l)) : RdLL W a c L := by
  obtain ⟨a', c', he, hr⟩ := Rd.ofOwn ho
  cases he
  exact ⟨vs, hr, by have := ho.1; omega, h⟩

set_option maxRecDepth 100000 in
set_option maxHeartbeats 2000000 in
theorem shardWrong_any (a : Option Addr) (c : Nat) (D : Mx) (m at' : Int) (by' : UInt8) (w : World) (hr : RdLL w a c D) (hz : Reach D) (hm : -9223372036854775808 ≤ m ∧ m ≤ 9223372036854775807) (_hat : -9223372036854775808 ≤ at' ∧ at' ≤ 9223372036854775807)
    (hT : TabAt 0 Lib.deBruijn64tab w) :
    Calls Tryd.prog 7 #[.slice a D.length c, .int .i64 m, .int .i64 at', .int .u8 by'.toNat] w fun e w' => e = .returned (.bool true) ∧ Below w.heap.size w w' := by
  have gA := great_any w a c D hr hz
  cases hA : great 1500 D with
  | true =>
    rw [hA] at gA
    have GA := Lib.hid gA
    clear gA hA
    go_enter Tryd.func7, Tryd.ntmps7
    go_wp2_with fail
    refine GA.out.mono ?_
    rintro e w' ⟨rfl, rfl⟩
    go_wp2
    go_ret
    exact ⟨rfl, Below.refl _ _⟩
  | false =>
    obtain ⟨l1, l2⟩ := great_le hA
    rw [hA] at gA
    have GA := Lib.hid gA
    by_cases hm2 : m < 2
    · clear gA hA l1 l2 hz hr hT
      go_enter Tryd.func7, Tryd.ntmps7
      go_wp2_with fail
      refine GA.out.mono ?_
      rintro e w' ⟨rfl, rfl⟩
      go_wp2
      go_ret
      exact ⟨rfl, Below.refl _ _⟩
    have hm2' : 2 ≤ m := by omega
    clear hm2
    by_cases hby : by' = 0
    · subst hby
      clear gA hA l1 l2 hz hr hT
      go_enter Tryd.func7, Tryd.ntmps7
      go_wp2_with fail
      refine GA.out.mono ?_
      rintro e w' ⟨rfl, rfl⟩
      go_wp2
      go_ret
      exact ⟨rfl, Below.refl _ _⟩
    have hbyi : ((by'.toNat : Int) == 0) = false := by
      rw [beq_eq_false_iff_ne]
      intro e
      exact hby (UInt8.toNat_inj.1 (by have : (0 : UInt8).toNat = 0 := rfl; omega))
    have HBY := Lib.hid hby
    clear hby
    have hS := sums_any w a c D m hr hm (by omega) (fun r hr => by have := l2 r hr; omega)
    obtain ⟨S, F, hX⟩ : ∃ S F, sumsR D m = (S, F) := ⟨_, _, rfl⟩
    rw [hX] at hS
    have HS := Lib.hid hS
    clear gA hA hS
    by_cases hF : F = 0
    · subst hF
      obtain ⟨mn, s, rfl, hcb, hs1, hD, hall, hSl, hk1, hkm⟩ := sums_word hX
      obtain ⟨kn, hkn⟩ : ∃ kn, kn = D.length := ⟨_, rfl⟩
      have hA := word_dim (m := mn) hD hk1
      rw [← hkn] at hcb hD hall hk1 hkm hA ⊢
      obtain ⟨N, hN⟩ : ∃ N, N = kn + mn := ⟨_, rfl⟩
      obtain ⟨A, hAA⟩ : ∃ A, A = timesL (codeL kn mn) D := ⟨_, rfl⟩
      rw [← hAA] at hall hA
      have hs2 : s ≤ 1500 := by
        have h1 := hD.2 (D[0]'(by omega)) (List.getElem_mem (by omega))
        have h2 := l2 (D[0]'(by omega)) (List.getElem_mem (by omega))
        omega
      have hNp : 0 < N := by omega
      have HR := Lib.hid hr
      have HT := Lib.hid hT
      have HKN := Lib.hid hkn
      have HSL := Lib.hid hSl
      have HALL := Lib.hid hall
      have HCB := Lib.hid hcb
      have HD := Lib.hid hD
      have HA := Lib.hid hA
      have HAA := Lib.hid hAA
      have HN := Lib.hid hN
      clear hX hr hT hkn hSl hall hcb hD hA hAA hN hm l2 hz
      go_enter Tryd.func7, Tryd.ntmps7
      go_wp2_with fail
      rw [HKN.out]
      refine GA.out.mono ?_
      rintro e w' ⟨rfl, hw⟩
      have hw := hw.symm
      subst hw
      rw [← HKN.out]
      clear GA
      go_wp2_with fail
      rw [HKN.out]
      refine HS.out.mono ?_
      intro e w1 h
      obtain ⟨ac, cc, rfl, hrc, hb1⟩ := MxP.rd h
      rw [← HKN.out, show ((S, 0) : Mx × Nat).1.length = mn from HSL.out]
      obtain ⟨vD, hvD, hrD⟩ := (HR.out.kept hb1).rowsAt
      obtain ⟨vS, hvS, hrS⟩ := (show RdLL w1 ac cc S from hrc).rowsAt
      have hrA := hrD.append hrS
      rw [HALL.out] at hrA
      have hvDl : vD.length = kn := by rw [hrD.1]; exact HKN.out.symm
      have hvSl : vS.length = mn := by rw [hrS.1]; exact HSL.out
      obtain ⟨G, hG⟩ : ∃ G, G = w1.heap.size := ⟨_, rfl⟩
      have hemp := own_empty w1 34
      rw [← hG] at hemp
      have HG := Lib.hid hG
      have hGs : G ≤ w1.heap.size := by omega
      have hvD2 := hvD.kept ((Below.refl w1.heap.size w1).alloc (Nat.le_refl _) (.cells #[] 34))
      have hbe := (Below.refl G w1).alloc hGs (.cells #[] 34)
      have HOD := Lib.hid hrD.one
      have HOS := Lib.hid hrS.one
      have HRA := Lib.hid hrA
      have HVS := Lib.hid hvS
      clear h HS hrc hG hvD hvS hrD hrS hrA
      go_wp2_with (with_reducible refine At.slot 41 ?_)
      rw [← HG.out]
      refine At.out (wpList_app rfl (.tmp 39) (.tmp 40) 22 rfl elemR rfl G _ 0 [] rfl hemp _ kn c vD rfl hvDl.symm hvD2 HOD.out (by unfold maxLen; omega) (by omega) (by simp; omega) ?_)
      intro v2 w2 ho2 hb2 _
      rw [Nat.zero_add, List.nil_append] at ho2
      have hb3 : Below G w1 w2 := hbe.trans hb2
      clear hb2 hbe hemp hvD2
      go_wp2_with (with_reducible refine At.slot 43 ?_)
      refine At.out (wpList_app rfl (.tmp 41) (.tmp 42) 22 rfl elemR rfl G _ kn vD rfl ho2 _ mn cc vS rfl hvSl.symm (HVS.out.kept (HG.out ▸ hb3)) HOS.out (by unfold maxLen; omega) (by omega) (by have := hb3.size; have := HG.out; omega) ?_)
      intro v3 w3 ho3 hb4 _
      have hb5 : Below G w1 w3 := hb3.trans hb4
      rw [← HN.out] at ho3
      have hlay : ∃ g cap, v3 = .slice (some ⟨g, 0, none⟩) N cap ∧ G ≤ g ∧ Lay w1 w3 G g N cap (vD ++ vS) A := by
        obtain ⟨g, cap, he, h1, _⟩ := own_pos ho3 hNp
        subst he
        exact ⟨g, cap, rfl, h1, HRA.out.lay (by rw [HA.out.1, HN.out]) ho3⟩
      obtain ⟨g, cap, rfl, hGg, hlay⟩ := hlay
      clear ho2 hb3 hb4 ho3 hvDl hvSl
      have hN14 : N ≤ 14 := by have := HN.out; omega
      have hN14i : (N : Int) ≤ 14 := by omega
      have hnz : ¬ (N : Int) = 0 := by omega
      have HKM := Lib.hid hkm
      have hAl : A.length = N := by rw [HA.out.1, HN.out]
      have hw3 := hb1.trans (hb5.mono (by have := hb1.size; have := HG.out; omega) : Below w.heap.size w1 w3)
      have hAb : ∀ r ∈ A, r.length ≤ 1000000 := fun r hr => by rw [HA.out.2 r hr]; omega
      have hright := right_any w3 (some ⟨g, 0, none⟩) cap A kn mn (hlay.rd (HG.out ▸ hb5)) (by omega) (by omega) (by omega) hAb (tab_kept HT.out hw3)
      rw [show rightR A kn mn = (true, 0) by rw [HAA.out]; exact right_word HD.out hs1 HCB.out, hAl] at hright
      have HRIGHT := Lib.hid hright
      have HLAY := Lib.hid hlay
      have HW3 := Lib.hid hw3
      have HB5 := Lib.hid hb5
      have HAB := Lib.hid hAb
      have HAl := Lib.hid hAl
      clear hkm hlay hb5 hw3 hright hAb hAl
      go_wp2_with fail
      refine HRIGHT.out.mono ?_
      rintro e w4 ⟨rfl, hb6⟩
      have hlay4 := HLAY.out.kept hb6
      have hb7 : Below G w1 w4 := HB5.out.trans (hb6.mono (by have := HB5.out.size; have := HG.out; omega))
      have HLAY4 := Lib.hid hlay4
      have HB7 := Lib.hid hb7
      obtain ⟨K, hK, hplace⟩ := place at' hNp
      have hwr := place_wrap (at' := at') hNp (by omega)
      clear HRIGHT hb6 hlay4 hb7 HLAY HB5
      go_upto_if 57 with (fail)
      go_cut [14] from 20 (fun s14 wx => s14 = .int .i64 K ∧ wx = w4)
      case first =>
        rcases hplace with ⟨h1, h2⟩ | ⟨h1, h2⟩
        · have hwr2 : IntKind.i64.wrap (at'.tmod N + N) = (K : Int) := by rw [h2]; exact IntWalk.i64_in _ (by omega)
          go_wp2_with fail
          go_meet
          exact ⟨by go_num, rfl⟩
        · have h1' : 0 ≤ at'.tmod N := by omega
          clear h1
          go_wp2_with fail
          go_meet
          exact ⟨by rw [h2], rfl⟩
      case rest =>
        obtain ⟨rfl, rfl⟩ := hcut
        clear hplace hwr
        obtain ⟨wa, hwa⟩ : ∃ wa : World, wa = wc := ⟨_, rfl⟩
        subst hwa
        have hKi : (K : Int) < (N : Int) := by omega
        obtain ⟨ad5, cd5, hc5, hf5, hr5⟩ := HLAY4.out.cell K hK
        have hls : (A.getD K []).length = s := getD_len HA.out (by rw [← HN.out]; exact hK)
        obtain ⟨X, hX'⟩ : ∃ X, X = A.getD K [] := ⟨_, rfl⟩
        rw [← hX'] at hc5 hr5 hls
        rw [hls] at hc5
        obtain ⟨G3, hG3⟩ : ∃ G3, G3 = wa.heap.size := ⟨_, rfl⟩
        have hemp := own_empty wa 5
        rw [← hG3] at hemp
        have HG3 := Lib.hid hG3
        have hGs3 : G3 ≤ wa.heap.size := by omega
        have hgG3 : g < G3 := by rw [hG3]; exact World.block_lt_of_cell? wa _ hc5
        have hgl : g < wa.heap.size := World.block_lt_of_cell? wa _ hc5
        have hrx := (hr5.kept (HG.out ▸ HB7.out)).kept ((Below.refl wa.heap.size wa).alloc (Nat.le_refl _) (.cells #[] 5))
        have hbe := (Below.refl G3 wa).alloc hGs3 (.cells #[] 5)
        have HX' := Lib.hid hX'
        clear hr5 hX' hG3
        go_wp2_with (with_reducible refine At.slot 67 ?_)
        rw [← HG3.out]
        refine At.out (wpList_app rfl (.tmp 62) (.tmp 66) 34 rfl elemB rfl G3 _ 0 [] rfl hemp _ s cd5 (B8 X) rfl (by rw [B8_length, hls]) hrx (B8_one X) (by unfold maxLen; omega) (by omega) (by simp; omega) ?_)
        intro v6 w6 ho6 hb8 _
        rw [Nat.zero_add, List.nil_append] at ho6
        have hb9 : Below G3 wa w6 := hbe.trans hb8
        obtain ⟨gx, cx, rfl, hgx, _, _, _⟩ := own_pos ho6 (by omega)
        have hc6 := own_cell8n ho6 0 (by omega)
        have hf6 := ho6.frozenAt 0
        have hs0 : (0 : Int) < (s : Int) := by omega
        clear hemp hrx hbe hb8
        obtain ⟨b0, hb0⟩ : ∃ b0, b0 = X[0]'(by omega) := ⟨_, rfl⟩
        rw [← hb0] at hc6
        have hx7 := own_set8n ho6 0 (b0 ^^^ by')
        obtain ⟨X2, hX2⟩ : ∃ X2, X2 = X.set 0 (b0 ^^^ by') := ⟨_, rfl⟩
        rw [← hX2] at hx7
        have hX2l : X2.length = s := by rw [hX2, List.length_set, hls]
        have hne : X2 ≠ X := by
          intro e
          have h0 : X2[0]'(by omega) = b0 ^^^ by' := by simp [hX2]
          have h1 : X2[0]'(by omega) = b0 := by rw [hb0]; simp only [e]
          rw [h1] at h0
          refine HBY.out ?_
          have h2 : b0 ^^^ (b0 ^^^ by') = b0 ^^^ b0 := by rw [← h0]
          rwa [← UInt8.xor_assoc, UInt8.xor_self, UInt8.zero_xor] at h2
        obtain ⟨W7, hW7⟩ : ∃ W7, W7 = w6.setCell ⟨gx, 0, none⟩ (.int .u8 ((b0 ^^^ by').toNat : Int)) := ⟨_, rfl⟩
        have hb10 : Below G3 wa W7 := by rw [hW7]; exact hb9.setCell (p := ⟨gx, 0, none⟩) (by show G3 ≤ gx; exact hgx) _
        rw [← hW7] at hx7
        have hc7 := (hb10.cell (p := ⟨g, K, none⟩) hgG3).trans hc5
        have hf7 := (hb10.frozen (p := ⟨g, K, none⟩) hgG3).trans hf5
        have ho7 := own_below HLAY4.out.outer (HG3.out ▸ hb10 : Below wa.heap.size wa W7)
        have ho8 := (ho7.stored K (.slice (some ⟨gx, 0, none⟩) s cx)).1
        have hx8 := own_setFar hx7 hgG3 K (.slice (some ⟨gx, 0, none⟩) s cx)
        obtain ⟨W8, hW8⟩ : ∃ W8, W8 = W7.setCell ⟨g, K, none⟩ (.slice (some ⟨gx, 0, none⟩) s cx) := ⟨_, rfl⟩
        have hb11 : Below G w1 W8 := by
          rw [hW8]
          exact (HB7.out.trans (hb10.mono (by omega))).setCell (p := ⟨g, K, none⟩) (by show G ≤ g; exact hGg) _
        rw [← hW8] at ho8 hx8
        have hAK : K < A.length := by rw [HAl.out]; exact hK
        have hrd8 : RdLL W8 (some ⟨g, 0, none⟩) cap (A.set K X2) := rdLL_mk (by rw [List.length_set]; exact HAl.out) ho8 (fun r l hl => by
          have hvl : (vD ++ vS).length = N := by have := HLAY4.out.outer.1; omega
          by_cases e : K = r
          · subst e
            rw [List.getElem?_set_self hAK] at hl
            obtain rfl := Option.some.inj hl
            exact ⟨some ⟨gx, 0, none⟩, cx, by rw [List.getElem?_set_self (by omega), hX2l], own_rd hx8⟩
          · rw [List.getElem?_set_ne e] at hl
            obtain ⟨ad, cd, h1, h2⟩ := HLAY4.out.row r l hl
            exact ⟨ad, cd, by rw [List.getElem?_set_ne e]; exact h1, h2.kept (HG.out ▸ hb11)⟩)
        have hbw8 : Below w.heap.size w W8 := hb1.trans (hb11.mono (by have := hb1.size; have := HG.out; omega))
        have hAb' : ∀ r ∈ A.set K X2, r.length ≤ 1000000 := fun r hr => by
          rcases List.mem_or_eq_of_mem_set hr with h | h
          · exact HAB.out r h
          · rw [h, hX2l]; omega
        have hww := wrong_word (i := K) (x := X2) HD.out HCB.out (by omega) (by rw [← HN.out]; exact hK) hX2l (by rw [← HAA.out, ← HX'.out]; exact hne) hs1
        rw [← HAA.out] at hww
        have hll : (A.set K X2).length = N := by rw [List.length_set]; exact HAl.out
        have hr1 := right_any W8 (some ⟨g, 0, none⟩) cap (A.set K X2) kn mn hrd8 (by have := HKM.out; omega) (by have := HKM.out; omega) (by omega) hAb' (tab_kept HT.out hbw8)
        have hr2 := fun V (hV : Below W8.heap.size W8 V) => wrong_any V (some ⟨g, 0, none⟩) cap (A.set K X2) kn mn (hrd8.kept hV) (by have := HKM.out; omega) (by have := HKM.out; omega) (by omega) hAb' (tab_kept HT.out (hbw8.trans (hV.mono hbw8.size)))
        rw [hww.1, hll] at hr1
        simp only [hww.2, hll] at hr2
        have HR1 := Lib.hid hr1
        have HR2 := Lib.hid hr2
        have HBW8 := Lib.hid hbw8
        have HW7 := Lib.hid hW7
        have HW8 := Lib.hid hW8
        clear hb0 hx7 hX2 hX2l hne hW7 hb10 ho7 ho8 hx8 hW8 hb11 hrd8 hbw8 hAb' hww hll hr1 hr2 hAK ho6 hls hb9
        go_wp2_with (with_reducible refine At.store 5 (.tmp 74) (.tmp 73) ?_)
        refine At.out ?_
        go_wp2_with (with_reducible refine At.store 34 (.tmp 78) (.tmp 77) ?_)
        rw [u8_bin_xor, ← HW7.out]
        refine At.out ?_
        clear hc6 hf6 hc5 hf5 HW7
        go_wp2_with fail
        rw [← HW8.out]
        refine HR1.out.mono ?_
        rintro e w9 ⟨rfl, hb12⟩
        clear HW8
        go_wp2_with fail
        refine (HR2.out w9 hb12).mono ?_
        rintro e w10 ⟨rfl, hb13⟩
        have hend : Below w.heap.size w w10 := HBW8.out.trans ((hb12.trans (hb13.mono hb12.size)).mono HBW8.out.size)
        clear hb12 hb13 HR1 HR2
        go_wp2_with fail
        refine (shardKnown_any _).mono ?_
        rintro e w11 ⟨rfl, hb14⟩
        have hend2 := hend.trans (hb14.mono hend.size)
        clear hb14 hend
        go_wp2
        go_ret
        exact ⟨rfl, hend2⟩
    · have hfi : ((F : Int) != 0) = true := by rw [bne_iff_ne]; omega
      clear l2 hX hr hz hF hT
      go_enter Tryd.func7, Tryd.ntmps7
      go_wp2_with fail
      refine GA.out.mono ?_
      rintro e w' ⟨rfl, hw⟩
      have hw := hw.symm
      subst hw
      clear GA
      go_wp2_with fail
      refine HS.out.mono ?_
      intro e w1 h
      obtain ⟨ac, cc, rfl, _, hb1⟩ := MxP.rd h
      clear h
      go_wp2_with fail
      refine (shardKnown_any _).mono ?_
      rintro e w4 ⟨rfl, hb4⟩
      go_wp2
      go_ret
      exact ⟨rfl, hb1.trans (hb4.mono hb1.size)⟩
end Go.Proofs.YtmeckdgigjjjbaaDoor
