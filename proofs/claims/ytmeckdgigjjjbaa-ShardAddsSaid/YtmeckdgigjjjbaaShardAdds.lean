/- ShardAdds: for all two lists of rows and numbers the law returns true. Conditions: the reach of each slice. -/
import Derived.Test.YtmeckdgigjjjbaaShardLaw
import Derived.Test.YtmeckdgigjjjbaaAddL
import Derived.Deep.RegionHeld3
namespace Go.Proofs.Ytmeckdgigjjjbaa
open Go Go.RowKit

theorem addM_take {A B : Mx} (i : Nat) (h1 : i < A.length) (h2 : i < B.length) : addM (A.take (i + 1)) (B.take (i + 1)) = addM (A.take i) (B.take i) ++ [gadd (A[i]) (B[i])] := by
  rw [List.take_succ_eq_append_getElem h1, List.take_succ_eq_append_getElem h2]
  unfold addM
  rw [List.zipWith_append (by simp; omega)]
  rfl

set_option maxRecDepth 100000 in
set_option maxHeartbeats 8000000 in
theorem shardAdds_in (a1 : Option Addr) (c1 : Nat) (A : Mx) (a2 : Option Addr) (c2 : Nat) (B : Mx) (m : Int) (w : World) (h1 : RdLL w a1 c1 A) (h2 : RdLL w a2 c2 B) (hm : -9223372036854775808 ≤ m ∧ m ≤ 9223372036854775807)
    (gA : Calls Try.prog 5 #[.slice a1 A.length c1] w fun e w' => e = .returned (.bool false) ∧ w' = w) (gB : Calls Try.prog 5 #[.slice a2 B.length c2] w fun e w' => e = .returned (.bool false) ∧ w' = w)
    (lA : A.length ≤ 1500) (rA : ∀ r ∈ A, r.length ≤ 1500) (rB : ∀ r ∈ B, r.length ≤ 1500) (hl : A.length = B.length) :
    Calls Try.prog 4 #[.slice a1 A.length c1, .slice a2 B.length c2, .int .i64 m] w fun e w' => e = .returned (.bool true) ∧ Below w.heap.size w w' := by
  have hne0 : ((A.length : Int) != (B.length : Int)) = false := by rw [hl]; simp
  have HL := Lib.hid hl
  have GA := Lib.hid gA
  have GB := Lib.hid gB
  have HRA := Lib.hid rA
  have HRB := Lib.hid rB
  have HM := Lib.hid hm
  have hli : (A.length : Int) ≤ 1500 := by omega
  obtain ⟨G, hG⟩ : ∃ G, G = w.heap.size := ⟨_, rfl⟩
  have hGs0 : G ≤ w.heap.size := by omega
  have HG := Lib.hid hG
  clear gA gB rA rB hl hm hG
  go_enter Try.func4, Try.ntmps4
  go_wp2_with fail
  refine GA.out.mono ?_
  rintro e w' ⟨rfl, hw⟩
  have hw := hw.symm
  subst hw
  go_wp2_with fail
  refine GB.out.mono ?_
  rintro e w' ⟨rfl, hw⟩
  have hw := hw.symm
  subst hw
  clear GA GB
  go_wp2
  go_loopw [7, 8] (fun s7 s8 wr => ∃ (i : Nat), i ≤ A.length ∧ s8 = .int .i64 i ∧ OwnLL wr G 32 5 s7 (addM (A.take i) (B.take i)) ∧ Hid (∀ q (h1 : q < A.length) (h2 : q < B.length), q < i → (A[q]).length = (B[q]).length) ∧ Below G w wr) (fun _ s8 _ => A.length - (intOf s8).toNat)
  case atStart => exact ⟨0, by omega, rfl, OwnLL.nil _ _ _ _, Lib.hid (fun q h1 h2 h => by omega), Below.refl _ _⟩
  case round =>
    obtain ⟨i, hi, rfl, hO, HQ, hb⟩ := hrel
    by_cases hlti : i < A.length
    · have hltb : i < B.length := by have := HL.out; omega
      have hii : (i : Int) < (A.length : Int) := by omega
      have hib : (i : Int) < (B.length : Int) := by omega
      obtain ⟨b1, o1, ad1, cd1, rfl, hc1, hr1⟩ := (h1.kept (HG.out ▸ hb : Below w.heap.size w wr)).cell i hlti
      obtain ⟨b2, o2, ad2, cd2, rfl, hc2, hr2⟩ := (h2.kept (HG.out ▸ hb : Below w.heap.size w wr)).cell i hltb
      obtain ⟨n1, hn1⟩ : ∃ n, n = (A[i]).length := ⟨_, rfl⟩
      obtain ⟨n2, hn2⟩ : ∃ n, n = (B[i]).length := ⟨_, rfl⟩
      have hn15 : n1 ≤ 1500 := by rw [hn1]; exact HRA.out _ (List.getElem_mem _)
      have hn25 : n2 ≤ 1500 := by rw [hn2]; exact HRB.out _ (List.getElem_mem _)
      rw [← hn1] at hc1
      rw [← hn2] at hc2
      have HN1 := Lib.hid hn1
      have HN2 := Lib.hid hn2
      have hlt1 : b1 < wr.heap.size := World.block_lt_of_cell? wr _ hc1
      have hlt2 : b2 < wr.heap.size := World.block_lt_of_cell? wr _ hc2
      clear hn1 hn2
      by_cases hne : n1 = n2
      · have hnei : ((n1 : Int) != (n2 : Int)) = false := by rw [hne]; simp
        have HQ' : Hid (∀ q (h1 : q < A.length) (h2 : q < B.length), q < i + 1 → (A[q]).length = (B[q]).length) := Lib.hid (fun q h1 h2 h => by
          by_cases hqi : q = i
          · subst hqi; have := HN1.out; have := HN2.out; omega
          · exact HQ.out q h1 h2 (by omega))
        have hgl : (gadd (A[i]) (B[i])).length = n1 := by rw [gadd_len (by have := HN1.out; have := HN2.out; omega)]; exact HN1.out.symm
        subst hne
        have HGL := Lib.hid hgl
        clear hgl
        go_wp2
        go_quiet (fail)
        go_wp2
        obtain ⟨wo, hwo⟩ : ∃ wo : World, wo = wr.drewN nq := ⟨_, rfl⟩
        have hbo : Below G w wo := by rw [hwo]; exact below_drewN hb _
        have hO' := hO.kept (show Below wr.heap.size wr wo by rw [hwo]; exact below_drewN (Below.refl _ _) _)
        have hc1' : wo.cell? ⟨b1, o1 + i, none⟩ = some (.slice ad1 n1 cd1) := by rw [hwo]; exact hc1
        have hc2' : wo.cell? ⟨b2, o2 + i, none⟩ = some (.slice ad2 n1 cd2) := by rw [hwo]; exact hc2
        have hr1' : Rd wo ad1 cd1 (B8 (A[i])) := by rw [hwo]; exact hr1.drewN _
        have hr2' : Rd wo ad2 cd2 (B8 (B[i])) := by rw [hwo]; exact hr2.drewN _
        have hlt1' : b1 < wo.heap.size := by rw [hwo]; exact hlt1
        have hlt2' : b2 < wo.heap.size := by rw [hwo]; exact hlt2
        have hGo : G ≤ wo.heap.size := Nat.le_trans hGs0 hbo.size
        rw [← hwo]
        clear hwo hO hb hc1 hc2 hr1 hr2 hlt1 hlt2 HQ
        go_loopw [9, 10] (fun s9 s10 wr => ∃ (x : Nat), x ≤ n1 ∧ s10 = .int .i64 x ∧ wr.ownsRow wo.heap.size 5 1 s9 x (B8 ((gadd (A[i]) (B[i])).take x)) ∧ Below wo.heap.size wo wr) (fun _ s10 _ => n1 - (intOf s10).toNat)
        case atStart => exact ⟨0, by omega, rfl, World.ownsRow_nil _ _ _ _, Below.refl _ _⟩
        case round =>
          obtain ⟨x, hx, rfl, hor, hb3⟩ := hrel
          have hgs := hb3.size
          have hc1 := (hb3.cell (p := ⟨b1, o1 + i, none⟩) hlt1').trans hc1'
          have hc2 := (hb3.cell (p := ⟨b2, o2 + i, none⟩) hlt2').trans hc2'
          have hlt1 : b1 < wr.heap.size := by omega
          have hlt2 : b2 < wr.heap.size := by omega
          by_cases hltx : x < n1
          · have hxi : (x : Int) < (n1 : Int) := by omega
            obtain ⟨b3, o3, rfl, hc3⟩ := hr1'.cs.b8 x (by have := HN1.out; omega)
            obtain ⟨b4, o4, rfl, hc4⟩ := hr2'.cs.b8 x (by have := HN2.out; omega)
            obtain ⟨p, hp⟩ : ∃ p, p = (A[i])[x]'(by have := HN1.out; omega) := ⟨_, rfl⟩
            obtain ⟨q, hq⟩ : ∃ q, q = (B[i])[x]'(by have := HN2.out; omega) := ⟨_, rfl⟩
            rw [← hp] at hc3
            rw [← hq] at hc4
            have hlt3 : b3 < wo.heap.size := World.block_lt_of_cell? wo _ hc3
            have hlt4 : b4 < wo.heap.size := World.block_lt_of_cell? wo _ hc4
            have hxor := u8_bin_xor p q
            obtain ⟨z, hz⟩ : ∃ z, z = p ^^^ q := ⟨_, rfl⟩
            rw [← hz] at hxor
            have htk : (gadd (A[i]) (B[i])).take (x + 1) = (gadd (A[i]) (B[i])).take x ++ [z] := by
              rw [List.take_succ_eq_append_getElem (by have := HGL.out; omega)]
              simp [gadd, hz, hp, hq]
            have HTk := Lib.hid htk
            have hKE : ∀ V, Below wo.heap.size wo V → V.cell? ⟨b1, o1 + i, none⟩ = some (.slice (some ⟨b3, o3, none⟩) n1 cd1) ∧ V.cell? ⟨b2, o2 + i, none⟩ = some (.slice (some ⟨b4, o4, none⟩) n1 cd2) ∧ V.cell? ⟨b3, o3 + x, none⟩ = some (.int .u8 (p.toNat : Int)) ∧ V.cell? ⟨b4, o4 + x, none⟩ = some (.int .u8 (q.toNat : Int)) ∧ Below wo.heap.size wo V :=
              fun V hb => ⟨(hb.cell (p := ⟨b1, o1 + i, none⟩) hlt1').trans hc1', (hb.cell (p := ⟨b2, o2 + i, none⟩) hlt2').trans hc2', (hb.cell (p := ⟨b3, o3 + x, none⟩) hlt3).trans hc3, (hb.cell (p := ⟨b4, o4 + x, none⟩) hlt4).trans hc4, hb⟩
            have KE := Lib.hid hKE
            have hS0 : Below wo.heap.size wo wr.drew := hb3.drew
            have hSA : Below wo.heap.size wo (wr.drew.alloc (.cells #[.int .u8 (z.toNat : Int)] 5)) := hS0.alloc hgs _
            have hord := own_below hor (Below.refl _ _).drew
            clear hp hq hz htk hKE hc3 hc4
            go_wp2_with fail
            go_region_held3 (fun V => V.cell? ⟨b1, o1 + i, none⟩ = some (.slice (some ⟨b3, o3, none⟩) n1 cd1) ∧ V.cell? ⟨b2, o2 + i, none⟩ = some (.slice (some ⟨b4, o4, none⟩) n1 cd2) ∧ V.cell? ⟨b3, o3 + x, none⟩ = some (.int .u8 (p.toNat : Int)) ∧ V.cell? ⟨b4, o4 + x, none⟩ = some (.int .u8 (q.toNat : Int)) ∧ Below wo.heap.size wo V)
              (first
                | exact KE.out _ hS0
                | exact KE.out _ hSA
                | exact KE.out _ hS5)
              (((with_reducible refine StepAt 75 ?_)
                (refine At.out (step_app (by rfl) (.tmp 58) (.tmp 74) 32 (by rfl) elemB rfl wo.heap.size _ x _ (by rfl) (hord.alloc _) _ 1 1 [.int .u8 (z.toNat : Int)] (by rfl) rfl (Rd.one wr.drew _ _) (one_int _ _) (by unfold maxLen; omega) (by omega) (by simp; omega) ?_))
                (intro v4 w4 ho4 hb4)
                (have hS5 : Below wo.heap.size wo w4 := hSA.trans hb4)))
            have ho5 : w4.ownsRow wo.heap.size 5 1 v4 (x + 1) (B8 ((gadd (A[i]) (B[i])).take (x + 1))) := by rw [HTk.out, B8_append]; exact ho4
            clear ho4 hb4 hor hord hSA hS0
            go_wp2
            go_roundw
            case rel => exact ⟨x + 1, by omega, by go_num, ho5, hS5⟩
            case measure => simp [intOf]; omega
          · obtain rfl : x = n1 := by omega
            rw [List.take_of_length_le (by have := HGL.out; omega)] at hor
            have hOr := hO'.kept hb3
            have hbw : Below G w wr := hbo.trans (hb3.mono hGo)
            have hGs2 : G ≤ wr.heap.size := Nat.le_trans hGs0 hbw.size
            have hor' := own_base hor hGo
            have hlen : (addM (A.take i) (B.take i)).length = i := by rw [addM_length (by simp; omega), List.length_take]; omega
            have HLen := Lib.hid hlen
            have hnx := addM_take i hlti hltb
            have HNx := Lib.hid hnx
            obtain ⟨ar, cr, rfl, _⟩ := Rd.ofOwn hor'
            clear hO' hor hlen hnx
            go_wp2_with (with_reducible refine At.slot 79 ?_)
            obtain ⟨vs, hv1, hv2⟩ := hOr.kept ((Below.refl wr.heap.size wr).alloc (Nat.le_refl _) (.cells #[.slice ar x cr] 32))
            refine At.out (wpList_app rfl (.tmp 76) (.tmp 78) 22 rfl elemR rfl G _ i vs rfl (own_len hv1 HLen.out) _ 1 1 [.slice ar x cr] rfl rfl (Rd.one _ _ _) (by intro u hu; rw [List.mem_singleton.1 hu]; exact own_one hor') (by unfold maxLen; omega) (by omega) (by simp; omega) ?_)
            intro v4 w4 hv3 hb4 hg4
            have hO4 := own_app (l := gadd (A[i]) (B[i])) hv1 hv2 (own_len (hor'.alloc _) HGL.out.symm) (by decide) (by rw [HLen.out]; exact hv3) hg4
            rw [← HNx.out] at hO4
            have hb5 : Below G w w4 := (hbw.alloc hGs2 _).trans hb4
            clear hv1 hv2 hv3 hOr hor' hg4 hb4
            go_wp2
            go_roundw
            case rel => exact ⟨i + 1, by omega, by go_num, hO4, HQ', hb5⟩
            case measure => simp [intOf]; omega
      · have hnei : ((n1 : Int) != (n2 : Int)) = true := by rw [bne_iff_ne]; omega
        clear hne
        go_wp2
        go_quiet (fail)
        go_wp2
        go_ret
        exact ⟨rfl, HG.out ▸ below_drewN hb _⟩
    · obtain rfl : i = A.length := by omega
      have hsame : SameR A B := ⟨HL.out, fun q h1 h2 => HQ.out q h1 h2 h1⟩
      rw [List.take_length, show B.take A.length = B by rw [HL.out, List.take_length]] at hO
      obtain ⟨E, e1, e2, e3, hE⟩ := sums_add hsame m
      have hall : (addM A B).length = A.length := addM_length HL.out
      have hSA : ∀ W, Below w.heap.size w W → Calls Try.prog 6 #[.slice a1 A.length c1, .int .i64 m] W (MxP W (sumsR A m)) := fun W hb => sums_any W a1 c1 A m (h1.kept hb) HM.out (by omega) (fun r hr => by have := HRA.out r hr; omega)
      have hSB : ∀ W, Below w.heap.size w W → Calls Try.prog 6 #[.slice a2 B.length c2, .int .i64 m] W (MxP W (sumsR B m)) := fun W hb => sums_any W a2 c2 B m (h2.kept hb) HM.out (by have := HL.out; omega) (fun r hr => by have := HRB.out r hr; omega)
      have hSC : ∀ (W : World) (a : Option Addr) (c : Nat), RdLL W a c (addM A B) → Calls Try.prog 6 #[.slice a A.length c, .int .i64 m] W (MxP W (sumsR (addM A B) m)) := by
        intro W a c hr
        have := sums_any W a c (addM A B) m hr HM.out (by omega) (fun r hr => by
          obtain ⟨q, hq, rfl⟩ := List.mem_iff_getElem.1 hr
          have h3 := hsame.add.2 q (by omega) hq
          have := HRA.out (A[q]'(by omega)) (List.getElem_mem _)
          omega)
        rw [hall] at this
        exact this
      obtain ⟨S, es, hS⟩ : ∃ S e, sumsR A m = (S, e) := ⟨_, _, rfl⟩
      obtain ⟨T, et, hT⟩ : ∃ S e, sumsR B m = (S, e) := ⟨_, _, rfl⟩
      obtain ⟨U, eu, hU⟩ : ∃ S e, sumsR (addM A B) m = (S, e) := ⟨_, _, rfl⟩
      rw [hS] at e1 hE
      rw [hT] at e2 hE
      rw [hU] at e3 hE
      simp only [hS] at hSA
      simp only [hT] at hSB
      simp only [hU] at hSC
      simp only at e1 e2 e3 hE
      subst e1
      obtain rfl : et = es := e2
      obtain rfl : eu = et := e3
      obtain ⟨a7, c7, rfl, hr7⟩ := hO.rd
      rw [hall]
      have HSA := Lib.hid hSA
      have HSB := Lib.hid hSB
      have HSC := Lib.hid hSC
      have HE := Lib.hid hE
      clear hO hall hSA hSB hSC hE hS hT hU hsame HQ
      go_wp2_with fail
      refine (HSA.out wr (HG.out ▸ hb)).mono ?_
      intro e w3 h
      obtain ⟨asl, csl, rfl, hrs, hb3⟩ := MxP.rd h
      have hbw3 : Below w.heap.size w w3 := (HG.out ▸ hb : Below w.heap.size w wr).trans (hb3.mono (HG.out ▸ Nat.le_trans hGs0 hb.size))
      have hr7b := hr7.kept hb3
      clear h HSA hr7 hb3 hb
      go_wp2_with fail
      refine (HSB.out w3 hbw3).mono ?_
      intro e w4 h
      obtain ⟨at', ct, rfl, hrt, hb4⟩ := MxP.rd h
      have hbw4 : Below w.heap.size w w4 := hbw3.trans (hb4.mono hbw3.size)
      have hr7c := hr7b.kept hb4
      have hrs4 := hrs.kept hb4
      clear h HSB hr7b hb4 hbw3 hrs
      go_wp2_with fail
      refine (HSC.out w4 a7 c7 hr7c).mono ?_
      intro e w5 h
      obtain ⟨au, cu, rfl, hru, hb5⟩ := MxP.rd h
      have hbw5 : Below w.heap.size w w5 := hbw4.trans (hb5.mono hbw4.size)
      have hrs5 := hrs4.kept hb5
      have hrt5 := hrt.kept hb5
      clear h HSC hr7c hb5 hbw4 hrs4 hrt
      by_cases hz : eu = 0
      · subst hz
        obtain ⟨l1, l2, hrow⟩ := HE.out rfl
        rw [show ((S, 0) : Mx × Nat).1.length = S.length from rfl, show ((T, 0) : Mx × Nat).1.length = S.length from l1, show ((U, 0) : Mx × Nat).1.length = S.length from l2]
        have hSl := hrs5.le
        have HRow := Lib.hid hrow
        have HL1 := Lib.hid l1
        have HL2 := Lib.hid l2
        have heq : ((S.length : Int) == (S.length : Int)) = true := by simp
        clear hrow l1 l2 HE
        go_wp2
        go_loopw [17] (fun s17 wr => ∃ (i q : Nat), i ≤ S.length ∧ s17 = .int .i64 i ∧ wr = w5.drewN q) (fun s17 _ => S.length - (intOf s17).toNat)
        case atStart => exact ⟨0, 0, by omega, rfl, rfl⟩
        case round =>
          obtain ⟨i, q, hi, rfl, rfl⟩ := hrel
          by_cases hlti : i < S.length
          · have hii : (i : Int) < (S.length : Int) := by omega
            have hiT : i < T.length := by have := HL1.out; omega
            have hiU : i < U.length := by have := HL2.out; omega
            obtain ⟨b1, o1, ad1, cd1, rfl, hc1, hr1⟩ := hrs5.cell i hlti
            obtain ⟨b2, o2, ad2, cd2, rfl, hc2, hr2⟩ := hrt5.cell i hiT
            obtain ⟨b3, o3, ad3, cd3, rfl, hc3, hr3⟩ := hru.cell i hiU
            obtain ⟨k1, k2, hx⟩ := HRow.out i hlti hiT hiU
            have hle := hr1.le
            rw [B8_length] at hle
            rw [k1] at hc2
            rw [k2] at hc3
            obtain ⟨n, hn⟩ : ∃ n, n = (S[i]).length := ⟨_, rfl⟩
            rw [← hn] at hc1 hc2 hc3 hle
            have HN := Lib.hid hn
            have HK1 := Lib.hid k1
            have HK2 := Lib.hid k2
            have HX := Lib.hid hx
            clear hn k1 k2 hx
            go_wp2
            go_loopw [18] (fun s18 wr => ∃ (x q : Nat), x ≤ n ∧ s18 = .int .i64 x ∧ wr = w5.drewN q) (fun s18 _ => n - (intOf s18).toNat)
            case atStart => exact ⟨0, q, by omega, rfl, rfl⟩
            case round =>
              obtain ⟨x, q2, hx, rfl, rfl⟩ := hrel
              by_cases hltx : x < n
              · have hxi : (x : Int) < (n : Int) := by omega
                have g1 : x < (S[i]).length := by have := HN.out; omega
                have g2 : x < (T[i]).length := by have := HK1.out; omega
                have g3 : x < (U[i]).length := by have := HK2.out; omega
                obtain ⟨b4, o4, rfl, hc4⟩ := hr1.cs.b8 x g1
                obtain ⟨b5, o5, rfl, hc5⟩ := hr2.cs.b8 x g2
                obtain ⟨b6, o6, rfl, hc6⟩ := hr3.cs.b8 x g3
                have he := HX.out x g1 g2 g3
                obtain ⟨p, hp⟩ : ∃ p, p = (S[i])[x] := ⟨_, rfl⟩
                obtain ⟨t, ht⟩ : ∃ p, p = (T[i])[x] := ⟨_, rfl⟩
                obtain ⟨u, hu⟩ : ∃ p, p = (U[i])[x] := ⟨_, rfl⟩
                rw [← hp, ← ht, ← hu] at he
                rw [← hp] at hc4
                rw [← ht] at hc5
                rw [← hu] at hc6
                have hxor := u8_bin_xor p t
                rw [← he] at hxor
                have hneq : ((u.toNat : Int) != (u.toNat : Int)) = false := by simp
                clear hp ht hu he g1 g2 g3
                go_wp2
                go_quiet (fail)
                go_wp2
                go_roundw
                case rel => exact ⟨x + 1, _, by omega, by go_num, rfl⟩
                case measure => simp [intOf]; omega
              · go_wp2
                go_roundw
                case rel => exact ⟨i + 1, q2, by omega, by go_num, rfl⟩
                case measure => simp [intOf]; omega
          · go_wp2_with fail
            refine (shardKnown_any _).mono ?_
            rintro e w6 ⟨rfl, hb6⟩
            have hbq := below_drewN hbw5 q
            go_wp2
            go_ret
            exact ⟨rfl, hbq.trans (hb6.mono hbq.size)⟩
      · have hEi : ((eu : Int) != 0) = true := by rw [bne_iff_ne]; omega
        clear hz HE
        go_wp2_with fail
        refine (shardKnown_any _).mono ?_
        rintro e w6 ⟨rfl, hb6⟩
        go_wp2
        go_ret
        exact ⟨rfl, hbw5.trans (hb6.mono hbw5.size)⟩

set_option maxRecDepth 100000 in
set_option maxHeartbeats 2000000 in
theorem shardAdds_any (a1 : Option Addr) (c1 : Nat) (A : Mx) (a2 : Option Addr) (c2 : Nat) (B : Mx) (m : Int) (w : World) (h1 : RdLL w a1 c1 A) (z1 : Reach A) (h2 : RdLL w a2 c2 B) (z2 : Reach B) (hm : -9223372036854775808 ≤ m ∧ m ≤ 9223372036854775807) :
    Calls Try.prog 4 #[.slice a1 A.length c1, .slice a2 B.length c2, .int .i64 m] w fun e w' => e = .returned (.bool true) ∧ Below w.heap.size w w' := by
  have gA := great_any w a1 c1 A h1 z1
  have gB := great_any w a2 c2 B h2 z2
  cases hA : great 1500 A with
  | true =>
    rw [hA] at gA
    have GA := Lib.hid gA
    clear gA gB hA
    go_enter Try.func4, Try.ntmps4
    go_wp2_with fail
    refine GA.out.mono ?_
    rintro e w' ⟨rfl, rfl⟩
    go_wp2
    go_ret
    exact ⟨rfl, Below.refl _ _⟩
  | false =>
  rw [hA] at gA
  cases hB : great 1500 B with
  | true =>
    rw [hB] at gB
    have GA := Lib.hid gA
    have GB := Lib.hid gB
    clear gA gB hA hB
    go_enter Try.func4, Try.ntmps4
    go_wp2_with fail
    refine GA.out.mono ?_
    rintro e w' ⟨rfl, hw⟩
    have hw := hw.symm
    subst hw
    go_wp2_with fail
    refine GB.out.mono ?_
    rintro e w' ⟨rfl, hw⟩
    have hw := hw.symm
    subst hw
    go_wp2
    go_ret
    exact ⟨rfl, Below.refl _ _⟩
  | false =>
  rw [hB] at gB
  obtain ⟨lA, rA⟩ := great_le hA
  obtain ⟨lB, rB⟩ := great_le hB
  by_cases hl : A.length = B.length
  · exact shardAdds_in a1 c1 A a2 c2 B m w h1 h2 hm gA gB lA rA rB hl
  · have hli : ((A.length : Int) != (B.length : Int)) = true := by rw [bne_iff_ne]; omega
    have GA := Lib.hid gA
    have GB := Lib.hid gB
    clear gA gB hA hB hl rA rB
    go_enter Try.func4, Try.ntmps4
    go_wp2_with fail
    refine GA.out.mono ?_
    rintro e w' ⟨rfl, hw⟩
    have hw := hw.symm
    subst hw
    go_wp2_with fail
    refine GB.out.mono ?_
    rintro e w' ⟨rfl, hw⟩
    have hw := hw.symm
    subst hw
    go_wp2
    go_ret
    exact ⟨rfl, Below.refl _ _⟩
end Go.Proofs.Ytmeckdgigjjjbaa
