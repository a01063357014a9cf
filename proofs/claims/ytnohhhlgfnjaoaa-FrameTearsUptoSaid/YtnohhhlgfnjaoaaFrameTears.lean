/- FrameTears: for all lists of rows of bytes and places the law returns true, where the lists are of bulk at most 2^20. Conditions: that bound. -/
import Derived.Test.YtnohhhlgfnjaoaaTearL
import Derived.Test.YtnohhhlgfnjaoaaScan
import Derived.Test.YtnohhhlgfnjaoaaRowsL
import Derived.Test.YtnohhhlgfnjaoaaFrameEncodes
import Derived.Test.YtnohhhlgfnjaoaaIdx
namespace Go.Proofs.Ytnohhhlgfnjaoaa
open Go Go.RowKit

theorem elemI : ElemT Try.prog 44 3 1 (.int .i64 0) 8 := ⟨Try.underlying44, info_parts (by kernel_rfl)⟩
/-- Where each of the first k records ends. -/
def endsL (L : List (List UInt8)) (k : Nat) : List Int := (List.range k).map fun j => ((plen (L.take (j + 1)) : Nat) : Int)
theorem endsL_succ (L : List (List UInt8)) (k : Nat) : endsL L (k + 1) = endsL L k ++ [((plen (L.take (k + 1)) : Nat) : Int)] := by simp [endsL, List.range_succ]
theorem endsL_length (L : List (List UInt8)) (k : Nat) : (endsL L k).length = k := by simp [endsL]

set_option maxRecDepth 100000 in
set_option maxHeartbeats 8000000 in
theorem frameTears_any (a : Option Addr) (c : Nat) (L : List (List UInt8)) (cut : Int) (w : World) (h : RdLL w a c L) (hL : L.length ≤ 1048576) (hm : ∀ l ∈ L, l.length ≤ 1048576) (_hcut : -9223372036854775808 ≤ cut ∧ cut ≤ 9223372036854775807) :
    Calls Try.prog 7 #[.slice a L.length c, .int .i64 cut] w fun e w' => e = .returned (.bool true) ∧ Below w.heap.size w w' := by
  obtain ⟨B, hB⟩ : ∃ B, B = w.heap.size := ⟨_, rfl⟩
  rw [← hB]
  have hbw : Below B w w := Below.refl _ _
  have hBs : B ≤ w.heap.size := Nat.le_of_eq hB
  have hkept : ∀ wr, Below B w wr → RdLL wr a c L := fun wr hb => h.kept (hB ▸ hb)
  have HKeep := Lib.hid hkept
  have HM := Lib.hid hm
  have hcapL := h.cap
  clear hB hkept hm
  go_enter Try.func7, Try.ntmps7
  go_wp2
  go_loop [5, 6] (fun n i => ∃ (k N : Nat), k ≤ L.length ∧ i = .int .i64 k ∧ n = .int .i64 N ∧ N ≤ 2000000 ∧ Hid (N = plen (L.take k))) (fun _ i => L.length - (intOf i).toNat)
  case atStart => exact ⟨0, 0, by omega, rfl, rfl, by omega, Lib.hid rfl⟩
  case round =>
    obtain ⟨k, N, hk, rfl, rfl, hN, HN⟩ := hrel
    by_cases hlt : k < L.length
    · by_cases hNm : N ≤ 4000
      · obtain ⟨b1, o1, ad1, cd1, rfl, hc1, hr1⟩ := h.cell k hlt
        have hi : (k : Int) < (L.length : Int) := by omega
        have hl1 := HM.out L[k] (List.getElem_mem _)
        have HN' : Hid (N + 8 + L[k].length = plen (L.take (k + 1))) := by
          apply Lib.hid; rw [plen_take L k hlt, ← HN.out]; omega
        clear h
        go_wp2
        go_round
        case rel => exact ⟨k + 1, N + 8 + L[k].length, by omega, by go_num, by go_num, by omega, HN'⟩
        case measure => simp [intOf]; omega
      · clear h
        go_wp2
        go_ret
        exact ⟨rfl, hbw⟩
    · by_cases hNm : 4000 < N
      · clear h
        go_wp2
        go_ret
        exact ⟨rfl, hbw⟩
      · have hpl : plen L ≤ 4000 := by
          have := HN.out
          rw [List.take_of_length_le (by omega)] at this
          omega
        have hl8 := plen_len L
        clear h HN
        go_wp2
        go_loopw [7, 8, 9] (fun s7 s8 s9 wr => ∃ (k P : Nat), k ≤ L.length ∧ s9 = .int .i64 k ∧ wr.ownsRow B 5 1 s7 P (B8 (encA (L.take k))) ∧ wr.ownsRow B 3 1 s8 k (BI (endsL L k)) ∧ Below B w wr ∧ P ≤ 4000 ∧ Hid (P = plen (L.take k))) (fun _ _ s9 _ => L.length - (intOf s9).toNat)
        case atStart => exact ⟨0, 0, by omega, rfl, World.ownsRow_nil _ _ _ _, World.ownsRow_nil _ _ _ _, hbw, by omega, Lib.hid rfl⟩
        case round =>
          obtain ⟨k, P, hk, rfl, hob, hoe, hb, hP, HP⟩ := hrel
          have hsz := hb.size
          by_cases hlt : k < L.length
          · obtain ⟨b1, o1, ad1, cd1, rfl, hc1, hr1⟩ := (HKeep.out wr hb).cell k hlt
            have hi : (k : Int) < (L.length : Int) := by omega
            have hP' := plen_take L k hlt
            have hPle := plen_take_le L (k + 1)
            have HP' := Lib.hid hP'
            have hlk : P + (8 + L[k].length) ≤ 4000 := by have := HP.out; omega
            have HE : Hid (encA (L.take (k + 1)) = encA (L.take k) ++ encL L[k]) := by
              apply Lib.hid; rw [List.take_succ_eq_append_getElem hlt, encA_snoc]
            have henc := encode_any wr ad1 cd1 L[k] hr1 (by omega)
            clear hP' hPle hr1
            go_wp2_with fail
            refine henc.mono ?_
            rintro e w1 ⟨r1, rfl, ho1, hb1⟩
            clear henc
            have hob1 := own_below hob hb1
            have hoe1 := own_below hoe hb1
            have hb1' : Below B w w1 := hb.trans (hb1.mono (by omega))
            have hs1 := hb1'.size
            obtain ⟨ar, cr, rfl, hrd⟩ := Rd.ofOwn ho1
            clear hob hoe ho1
            go_wp2_with (with_reducible refine At.slot 56 ?_)
            refine At.out (wpList_app rfl (.tmp 54) (.tmp 55) 22 rfl elemB rfl B _ P _ rfl hob1 ar (8 + L[k].length) cr (B8 (encL L[k])) rfl (by rw [B8_length, encL_length]) hrd (B8_one _) (by unfold maxLen; omega) (by omega) (by omega) ?_)
            intro v2 w2 hob2 hb2 hg2
            rw [← B8_append, ← HE.out] at hob2
            have hoe2 := own_grown hoe1 hob1 (by decide) hg2
            have hb2' : Below B w w2 := hb1'.trans hb2
            have hs2 := hb2'.size
            clear hob1 hoe1 hg2 hb2 hrd
            obtain ⟨a2, c2, rfl, _⟩ := Rd.ofOwn hob2
            go_wp2_with (with_reducible refine At.slot 61 ?_)
            refine At.out (wpList_app rfl (.tmp 57) (.tmp 60) 44 rfl elemI rfl B _ k _ rfl (hoe2.alloc _) _ 1 1 [.int .i64 ((P + (8 + L[k].length) : Nat) : Int)] rfl rfl (by simpa using Rd.one w2 (.int .i64 ((P : Int) + (8 + (L[k].length : Int)))) 3) (one_int _ _) (by unfold maxLen; omega) (by omega) (by simp; omega) ?_)
            intro v3 w3 hoe3 hb3 hg3
            have hob3 := own_grown (hob2.alloc _) (hoe2.alloc _) (by decide) hg3
            have hb3' : Below B w w3 := (hb2'.alloc (by omega) _).trans hb3
            have hpe : BI (endsL L k) ++ [Value.int .i64 ((P + (8 + L[k].length) : Nat) : Int)] = BI (endsL L (k + 1)) := by
              rw [endsL_succ, BI_append, HP'.out, HP.out]; rfl
            rw [hpe] at hoe3
            clear hpe hob2 hoe2 hg3 hb3
            have HPn : Hid (P + (8 + L[k].length) = plen (L.take (k + 1))) := Lib.hid (by rw [HP'.out, HP.out])
            go_wp2
            go_roundw
            case rel => exact ⟨k + 1, P + (8 + L[k].length), by omega, by go_num, hob3, hoe3, hb3', by omega, HPn⟩
            case measure => simp [intOf]; omega
          · obtain rfl : k = L.length := by omega
            have HPL : Hid (P = plen L) := by apply Lib.hid; rw [HP.out, List.take_length]
            rw [List.take_length] at hob
            obtain ⟨ab, cb, rfl, hrb⟩ := Rd.ofOwn hob
            obtain ⟨ae, ce, rfl, hre⟩ := Rd.ofOwn hoe
            have hwr := HKeep.out wr hb
            have hsz' : B ≤ wr.heap.size := by omega
            have hPi : (P : Int) ≤ 4000 := by omega
            obtain ⟨t, hT⟩ : ∃ t, cut.tmod ((P : Int) + 1) = t := ⟨_, rfl⟩
            have hk : ∃ k : Nat, k ≤ P ∧ ((t < 0 ∧ t + P + 1 = (k : Int)) ∨ (¬ t < 0 ∧ t = (k : Int))) := by
              have hM : ((P + 1 : Nat) : Int) = (P : Int) + 1 := by omega
              obtain ⟨k, hk, h⟩ := place cut (n := P + 1) (by omega)
              rw [hM, hT] at h
              refine ⟨k, by omega, ?_⟩
              rcases h with ⟨h, e⟩ | ⟨h, e⟩
              · exact .inl ⟨h, by omega⟩
              · exact .inr ⟨h, e⟩
            have ht1 : -4002 < t ∧ t < 4002 := by obtain ⟨k, hk, h⟩ := hk; omega
            obtain ⟨ht1, ht2⟩ := ht1
            obtain ⟨k, hkP, hk2⟩ := hk
            obtain ⟨X, hX⟩ : ∃ X, X = (encA L).take k := ⟨_, rfl⟩
            have hXl : X.length = k := by rw [hX, List.length_take, encA_length, ← HPL.out]; omega
            obtain ⟨M, G, E, hR⟩ : ∃ M G E, scanR X = (M, G, E) := ⟨_, _, _, rfl⟩
            have hD : ∀ (ad : Option Addr) (cd : Nat), Rd wr ad cd (B8 X) → Calls Try.prog 17 #[.slice ad k cd] wr fun e w' => ∃ a' c', e = .returned (.tuple #[.slice a' M.length c', .int .i64 (G : Int), .int .i64 (E : Int)]) ∧ RdLL w' a' c' M ∧ Below wr.heap.size wr w' := by
              intro ad cd h
              have hs := scan_any wr ad cd X h (by omega)
              rw [hXl] at hs
              refine hs.mono ?_
              rintro e w' ⟨r, he, ho, hb⟩
              rw [hR] at he ho
              obtain ⟨a', c', rfl, hl⟩ := ho.rd
              exact ⟨a', c', he, hl, hb⟩
            have hTR : ∀ j, j ≤ L.length → plen (L.take j) ≤ k → (j = L.length ∨ k < plen (L.take (j + 1))) → M = L.take j ∧ G = plen (L.take j) ∧ E = if plen (L.take j) = k then 0 else 2 := by
              intro j h1 h2 h3
              have := scan_tear L k j HM.out (by rw [← HPL.out]; exact hkP) h1 h2 h3
              rw [← hX, hR] at this
              simp only [Prod.mk.injEq] at this
              exact this
            have HX := Lib.hid hX
            have HD := Lib.hid hD
            have HTR := Lib.hid hTR
            have hkPi : (k : Int) ≤ (P : Int) := by omega
            clear hX hXl hR hD hTR hob hoe HP
            have hcap7 := hrb.1
            rw [B8_length, encA_length, ← HPL.out] at hcap7
            have hL500 : L.length ≤ 500 := by omega
            have HL500 := Lib.hid hL500
            clear hL500
            rcases hk2 with ⟨hneg, e1⟩ | ⟨hneg, e1⟩
            all_goals
              go_wp2_with (with_reducible refine At.slot 77 ?_)
              refine At.out (wpList_ph rfl (.tmp 75) (.tmp 76) rfl elemB ab P cb _ rfl hrb .i64 k rfl (by rw [B8_length, encA_length, ← HPL.out]; exact hkP) ?_)
              intro ad2 hp2
              have hrd2 := hp2.rd
              rw [← B8_take, ← HX.out] at hrd2
              clear hp2
              go_wp2_with fail
              refine (HD.out _ _ hrd2).mono ?_
              rintro e w5 ⟨a5, c5, rfl, hl5, hb5⟩
              have hb5' : Below B w w5 := hb.trans (hb5.mono hsz')
              have hre5 := hre.kept hb5
              have hwr5 := hwr.kept hb5
              clear HD hrd2 hrb hre hwr hb5
              go_wp2
              go_loop [16] (fun s16 => ∃ (j : Nat), j ≤ L.length ∧ s16 = .int .i64 j ∧ Hid (plen (L.take j) ≤ k)) (fun s16 => L.length - (intOf s16).toNat)
              case atStart => exact ⟨0, by omega, rfl, Lib.hid (Nat.zero_le _)⟩
              case round =>
                obtain ⟨j, hj, rfl, HJ⟩ := hrel
                by_cases hjl : j < L.length
                · obtain ⟨be, oe, hae, hce⟩ := hre5.cs.bi j (by rw [endsL_length]; exact hjl)
                  obtain rfl := hae
                  have hval : (endsL L L.length)[j]'(by rw [endsL_length]; exact hjl) = ((plen (L.take (j + 1)) : Nat) : Int) := by simp [endsL]
                  rw [hval] at hce
                  obtain ⟨Q, hQ⟩ : ∃ Q, Q = plen (L.take (j + 1)) := ⟨_, rfl⟩
                  rw [← hQ] at hce
                  have hji : (j : Int) < (L.length : Int) := by omega
                  by_cases hq : Q ≤ k
                  · have HJ' : Hid (plen (L.take (j + 1)) ≤ k) := Lib.hid (by rw [← hQ]; exact hq)
                    have hqi : (Q : Int) ≤ (k : Int) := by omega
                    clear hQ hval hwr5 hl5
                    go_wp2
                    go_round
                    case rel => exact ⟨j + 1, by omega, by go_num, HJ'⟩
                    case measure => simp [intOf]; omega
                  · have hex : j = L.length ∨ k < plen (L.take (j + 1)) := by right; omega
                    have hqi : (k : Int) < (Q : Int) := by omega
                    have hQP : Q ≤ 4000 := by rw [hQ]; have := plen_take_le L (j + 1); omega
                    clear hQ hval
                    obtain ⟨hTM, hTG, hTE⟩ := HTR.out j hj HJ.out hex
                    obtain ⟨vs, hv1, hv2, hv3⟩ := hwr5.part j
                    have HTM := Lib.hid hTM
                    have HJM : Hid (j = M.length) := Lib.hid (by rw [hTM, List.length_take]; omega)
                    have hex2 := Lib.hid hex
                    clear hTM hwr5 hex
                    cases j with
                    | zero =>
                      have hTG2 : G = 0 := hTG
                      clear hTG
                      subst hTG2
                      try simp only [Nat.add_zero] at hce
                      by_cases hQk : 0 = k
                      · subst hQk
                        have hTE2 : E = 0 := by rw [hTE]; exact if_pos rfl
                        subst hTE2
                        clear hTE
                        go_wp2_with (with_reducible refine At.slot 106 ?_)
                        refine At.out (wpList_ph rfl (.tmp 104) (.tmp 105) rfl elemR a L.length c vs rfl hv1 .i64 0 rfl (by rw [hv2]; omega) ?_)
                        intro ad6 hp6
                        have hl6 := hv3 ad6 hp6.rd
                        rw [← HTM.out] at hl6
                        go_wp2_with fail
                        refine (rows_true_n w5 a5 ad6 c5 c M.length 0 M rfl HJM.out hl5 hl6).mono ?_
                        rintro e w6 ⟨rfl, hq6⟩
                        have hb6' : Below B w w6 := hb5'.trans (hq6.below _)
                        clear hq6 hl5 hl6 hp6
                        go_wp2_with fail
                        refine (frameKnown_any _).mono ?_
                        rintro e w7 ⟨rfl, hb7⟩
                        go_wp2
                        go_ret
                        exact ⟨rfl, hb6'.trans (hb7.mono (Nat.le_trans hBs hb6'.size))⟩
                      · have hTE2 : E = 2 := by rw [hTE]; exact if_neg hQk
                        subst hTE2
                        clear hTE
                        have hne : ((0 : Int) == (k : Int)) = false := by rw [beq_eq_false_iff_ne]; omega
                        go_wp2_with (with_reducible refine At.slot 106 ?_)
                        refine At.out (wpList_ph rfl (.tmp 104) (.tmp 105) rfl elemR a L.length c vs rfl hv1 .i64 0 rfl (by rw [hv2]; omega) ?_)
                        intro ad6 hp6
                        have hl6 := hv3 ad6 hp6.rd
                        rw [← HTM.out] at hl6
                        go_wp2_with fail
                        refine (rows_true_n w5 a5 ad6 c5 c M.length 0 M rfl HJM.out hl5 hl6).mono ?_
                        rintro e w6 ⟨rfl, hq6⟩
                        have hb6' : Below B w w6 := hb5'.trans (hq6.below _)
                        clear hq6 hl5 hl6 hp6
                        go_wp2_with fail
                        refine (frameKnown_any _).mono ?_
                        rintro e w7 ⟨rfl, hb7⟩
                        go_wp2
                        go_ret
                        exact ⟨rfl, hb6'.trans (hb7.mono (Nat.le_trans hBs hb6'.size))⟩
                    | succ i =>
                      obtain ⟨be2, oe2, hae, hce2⟩ := hre5.cs.bi i (by rw [endsL_length]; omega)
                      simp only [Option.some.injEq, Addr.mk.injEq, and_true] at hae
                      obtain ⟨rfl, rfl⟩ := hae
                      have hval : (endsL L L.length)[i]'(by rw [endsL_length]; omega) = ((plen (L.take (i + 1)) : Nat) : Int) := by simp [endsL]
                      rw [hval] at hce2
                      rw [← hTG] at hce2 hTE
                      have hQP : G ≤ 4000 := by rw [hTG]; have := plen_take_le L (i + 1); omega
                      have hji : (i : Int) < (L.length : Int) := by omega
                      clear hval hTG
                      by_cases hQk : G = k
                      · have hTE2 : E = 0 := by rw [hTE]; exact if_pos hQk
                        subst hTE2
                        clear hTE
                        have hne : ((G : Int) == (k : Int)) = true := by rw [beq_iff_eq]; omega
                        go_wp2_with (with_reducible refine At.slot 106 ?_)
                        refine At.out (wpList_ph rfl (.tmp 104) (.tmp 105) rfl elemR a L.length c vs rfl hv1 .i64 (i + 1) (by go_num) (by rw [hv2]; omega) ?_)
                        intro ad6 hp6
                        have hl6 := hv3 ad6 hp6.rd
                        rw [← HTM.out] at hl6
                        go_wp2_with fail
                        refine (rows_true_n w5 a5 ad6 c5 c M.length (i + 1) M rfl HJM.out hl5 hl6).mono ?_
                        rintro e w6 ⟨rfl, hq6⟩
                        have hb6' : Below B w w6 := hb5'.trans (hq6.below _)
                        clear hq6 hl5 hl6 hp6
                        go_wp2_with fail
                        refine (frameKnown_any _).mono ?_
                        rintro e w7 ⟨rfl, hb7⟩
                        go_wp2
                        go_ret
                        exact ⟨rfl, hb6'.trans (hb7.mono (Nat.le_trans hBs hb6'.size))⟩
                      · have hTE2 : E = 2 := by rw [hTE]; exact if_neg hQk
                        subst hTE2
                        clear hTE
                        have hne : ((G : Int) == (k : Int)) = false := by rw [beq_eq_false_iff_ne]; omega
                        go_wp2_with (with_reducible refine At.slot 106 ?_)
                        refine At.out (wpList_ph rfl (.tmp 104) (.tmp 105) rfl elemR a L.length c vs rfl hv1 .i64 (i + 1) (by go_num) (by rw [hv2]; omega) ?_)
                        intro ad6 hp6
                        have hl6 := hv3 ad6 hp6.rd
                        rw [← HTM.out] at hl6
                        go_wp2_with fail
                        refine (rows_true_n w5 a5 ad6 c5 c M.length (i + 1) M rfl HJM.out hl5 hl6).mono ?_
                        rintro e w6 ⟨rfl, hq6⟩
                        have hb6' : Below B w w6 := hb5'.trans (hq6.below _)
                        clear hq6 hl5 hl6 hp6
                        go_wp2_with fail
                        refine (frameKnown_any _).mono ?_
                        rintro e w7 ⟨rfl, hb7⟩
                        go_wp2
                        go_ret
                        exact ⟨rfl, hb6'.trans (hb7.mono (Nat.le_trans hBs hb6'.size))⟩
                · have hex : j = L.length ∨ k < plen (L.take (j + 1)) := by left; omega
                  have hji : (L.length : Int) ≤ (j : Int) := by omega
                  obtain ⟨hTM, hTG, hTE⟩ := HTR.out j hj HJ.out hex
                  obtain ⟨vs, hv1, hv2, hv3⟩ := hwr5.part j
                  have HTM := Lib.hid hTM
                  have HJM : Hid (j = M.length) := Lib.hid (by rw [hTM, List.length_take]; omega)
                  have hex2 := Lib.hid hex
                  clear hTM hwr5 hex
                  cases j with
                  | zero =>
                    have hTG2 : G = 0 := hTG
                    clear hTG
                    subst hTG2
                    try simp only [Nat.add_zero] at hce
                    by_cases hQk : 0 = k
                    · subst hQk
                      have hTE2 : E = 0 := by rw [hTE]; exact if_pos rfl
                      subst hTE2
                      clear hTE
                      go_wp2_with (with_reducible refine At.slot 106 ?_)
                      refine At.out (wpList_ph rfl (.tmp 104) (.tmp 105) rfl elemR a L.length c vs rfl hv1 .i64 0 rfl (by rw [hv2]; omega) ?_)
                      intro ad6 hp6
                      have hl6 := hv3 ad6 hp6.rd
                      rw [← HTM.out] at hl6
                      go_wp2_with fail
                      refine (rows_true_n w5 a5 ad6 c5 c M.length 0 M rfl HJM.out hl5 hl6).mono ?_
                      rintro e w6 ⟨rfl, hq6⟩
                      have hb6' : Below B w w6 := hb5'.trans (hq6.below _)
                      clear hq6 hl5 hl6 hp6
                      go_wp2_with fail
                      refine (frameKnown_any _).mono ?_
                      rintro e w7 ⟨rfl, hb7⟩
                      go_wp2
                      go_ret
                      exact ⟨rfl, hb6'.trans (hb7.mono (Nat.le_trans hBs hb6'.size))⟩
                    · have hTE2 : E = 2 := by rw [hTE]; exact if_neg hQk
                      subst hTE2
                      clear hTE
                      have hne : ((0 : Int) == (k : Int)) = false := by rw [beq_eq_false_iff_ne]; omega
                      go_wp2_with (with_reducible refine At.slot 106 ?_)
                      refine At.out (wpList_ph rfl (.tmp 104) (.tmp 105) rfl elemR a L.length c vs rfl hv1 .i64 0 rfl (by rw [hv2]; omega) ?_)
                      intro ad6 hp6
                      have hl6 := hv3 ad6 hp6.rd
                      rw [← HTM.out] at hl6
                      go_wp2_with fail
                      refine (rows_true_n w5 a5 ad6 c5 c M.length 0 M rfl HJM.out hl5 hl6).mono ?_
                      rintro e w6 ⟨rfl, hq6⟩
                      have hb6' : Below B w w6 := hb5'.trans (hq6.below _)
                      clear hq6 hl5 hl6 hp6
                      go_wp2_with fail
                      refine (frameKnown_any _).mono ?_
                      rintro e w7 ⟨rfl, hb7⟩
                      go_wp2
                      go_ret
                      exact ⟨rfl, hb6'.trans (hb7.mono (Nat.le_trans hBs hb6'.size))⟩
                  | succ i =>
                    obtain ⟨be, oe, hae, hce⟩ := hre5.cs.bi i (by rw [endsL_length]; omega)
                    obtain rfl := hae
                    have hval : (endsL L L.length)[i]'(by rw [endsL_length]; omega) = ((plen (L.take (i + 1)) : Nat) : Int) := by simp [endsL]
                    rw [hval] at hce
                    rw [← hTG] at hce hTE
                    have hQP : G ≤ 4000 := by rw [hTG]; have := plen_take_le L (i + 1); omega
                    have hji : (i : Int) < (L.length : Int) := by omega
                    clear hval hTG
                    by_cases hQk : G = k
                    · have hTE2 : E = 0 := by rw [hTE]; exact if_pos hQk
                      subst hTE2
                      clear hTE
                      have hne : ((G : Int) == (k : Int)) = true := by rw [beq_iff_eq]; omega
                      go_wp2_with (with_reducible refine At.slot 106 ?_)
                      refine At.out (wpList_ph rfl (.tmp 104) (.tmp 105) rfl elemR a L.length c vs rfl hv1 .i64 (i + 1) (by go_num) (by rw [hv2]; omega) ?_)
                      intro ad6 hp6
                      have hl6 := hv3 ad6 hp6.rd
                      rw [← HTM.out] at hl6
                      go_wp2_with fail
                      refine (rows_true_n w5 a5 ad6 c5 c M.length (i + 1) M rfl HJM.out hl5 hl6).mono ?_
                      rintro e w6 ⟨rfl, hq6⟩
                      have hb6' : Below B w w6 := hb5'.trans (hq6.below _)
                      clear hq6 hl5 hl6 hp6
                      go_wp2_with fail
                      refine (frameKnown_any _).mono ?_
                      rintro e w7 ⟨rfl, hb7⟩
                      go_wp2
                      go_ret
                      exact ⟨rfl, hb6'.trans (hb7.mono (Nat.le_trans hBs hb6'.size))⟩
                    · have hTE2 : E = 2 := by rw [hTE]; exact if_neg hQk
                      subst hTE2
                      clear hTE
                      have hne : ((G : Int) == (k : Int)) = false := by rw [beq_eq_false_iff_ne]; omega
                      go_wp2_with (with_reducible refine At.slot 106 ?_)
                      refine At.out (wpList_ph rfl (.tmp 104) (.tmp 105) rfl elemR a L.length c vs rfl hv1 .i64 (i + 1) (by go_num) (by rw [hv2]; omega) ?_)
                      intro ad6 hp6
                      have hl6 := hv3 ad6 hp6.rd
                      rw [← HTM.out] at hl6
                      go_wp2_with fail
                      refine (rows_true_n w5 a5 ad6 c5 c M.length (i + 1) M rfl HJM.out hl5 hl6).mono ?_
                      rintro e w6 ⟨rfl, hq6⟩
                      have hb6' : Below B w w6 := hb5'.trans (hq6.below _)
                      clear hq6 hl5 hl6 hp6
                      go_wp2_with fail
                      refine (frameKnown_any _).mono ?_
                      rintro e w7 ⟨rfl, hb7⟩
                      go_wp2
                      go_ret
                      exact ⟨rfl, hb6'.trans (hb7.mono (Nat.le_trans hBs hb6'.size))⟩
end Go.Proofs.Ytnohhhlgfnjaoaa
