/- NetPlays: for every script the law returns true. Conditions: the bounds that the second form's reading gives. -/
import Derived.Test.YtoagneajlfglcaaNetSt
namespace Go.Proofs.Ytoagneajlfglcaa
open Go Go.RowKit

set_option maxRecDepth 100000 in
set_option maxHeartbeats 40000000 in
theorem netPlays_any (a : Option Addr) (c : Nat) (S : List Sp) (w : World) (hr : RdN w a c S) (hS : S.length ≤ 1048576) (hlen : ∀ s ∈ S, s.m.nums.length ≤ 1048576 ∧ s.m.data.length ≤ 1048576) :
    Calls Try.prog 4 #[.slice a S.length c] w fun e w' => e = .returned (.bool true) ∧ Below w.heap.size w w' := by
  obtain ⟨N, hN⟩ : ∃ N, N = S.length := ⟨_, rfl⟩
  rw [← hN] at hS ⊢
  have HR := Lib.hid hr
  have HN := Lib.hid hN
  have HLEN := Lib.hid hlen
  clear hr hN hlen
  go_enter Try.func4, Try.ntmps4
  go_wp2
  go_loopw [3, 4] (fun s3 s4 wr => ∃ (k n : Nat), k ≤ N ∧ k ≤ 200 ∧ n ≤ k * 2097152 ∧ s4 = .int .i64 k ∧ s3 = .int .i64 n ∧ Hid (Qt w wr)) (fun _ s4 _ => N - (intOf s4).toNat)
  case atStart => exact ⟨0, 0, by omega, by omega, by omega, rfl, rfl, Qt.refl _⟩
  case round =>
    obtain ⟨k, n, hk, hk2, hn, rfl, rfl, hq⟩ := hrel
    obtain ⟨B, hB⟩ : ∃ B : Bool, B = (decide (k < N) && decide (k < 200)) := ⟨_, rfl⟩
    have HBB := Lib.hid hB
    clear hB
    go_upto_region 3 with (fail)
    go_cut [26] from 19 to 26 (fun s26 wx => s26 = .bool B ∧ wr = wx)
    case first =>
      by_cases hB1 : k < N
      · have b1 : (k : Int) < (N : Int) := by omega
        by_cases hB2 : k < 200
        · have b2 : (k : Int) < 200 := by omega
          have hBf : B = true := by rw [HBB.out]; simp [hB1, hB2]
          have HBF := Lib.hid hBf
          clear hBf hB1 hB2
          go_wp2_with fail
          go_meet
          exact ⟨congrArg Value.bool HBF.out.symm, rfl⟩
        · have b2 : ¬ (k : Int) < 200 := by omega
          have hBf : B = false := by rw [HBB.out]; simp [hB2]
          have HBF := Lib.hid hBf
          clear hBf hB1 hB2
          go_wp2_with fail
          go_meet
          exact ⟨congrArg Value.bool HBF.out.symm, rfl⟩
      · have b1 : ¬ (k : Int) < (N : Int) := by omega
        have hBf : B = false := by rw [HBB.out]; simp [hB1]
        have HBF := Lib.hid hBf
        clear hBf hB1
        go_wp2_with fail
        go_meet
        exact ⟨congrArg Value.bool HBF.out.symm, rfl⟩
    case rest =>
    obtain ⟨rfl, rfl⟩ := hcut
    cases B with
    | true =>
      have hBB := HBB.out.symm
      simp only [Bool.and_eq_true, decide_eq_true_eq] at hBB
      obtain ⟨hlt, h200⟩ := hBB
      have hkl : k < S.length := by have := HN.out; omega
      have hki : (k : Int) < (N : Int) := by omega
      have h2i : (k : Int) < 200 := by omega
      obtain ⟨b, o, an, cn, ad, cd, rfl, h2, h3, _, _⟩ := HR.out.2.2 k S[k] (List.getElem?_eq_getElem hkl)
      have hl := HLEN.out S[k] (List.getElem_mem _)
      obtain ⟨m1, hm1⟩ : ∃ m1, m1 = S[k].m.nums.length := ⟨_, rfl⟩
      obtain ⟨m2, hm2⟩ : ∃ m2, m2 = S[k].m.data.length := ⟨_, rfl⟩
      have x5 := h3 5 (by omega)
      have x6 := h3 6 (by omega)
      simp only [List.getElem?_cons_succ, List.getElem?_cons_zero] at x5 x6
      have hqb := hq.out.below w.heap.size
      rw [← hm1] at x5
      rw [← hm2] at x6
      have y5 := (hqb.cell (p := ⟨b, o + k * 7 + 5, none⟩) h2).trans x5
      have y6 := (hqb.cell (p := ⟨b, o + k * 7 + 6, none⟩) h2).trans x6
      rw [← hm1, ← hm2] at hl
      clear hm1 hm2 h3 x5 x6 hqb
      have hl1 := hl.1
      have hl2 := hl.2
      have hw1 : IntKind.i64.wrap ((n : Int) + (m1 : Int)) = (n : Int) + (m1 : Int) := IntWalk.i64_in _ (by omega)
      have hw2 : IntKind.i64.wrap ((n : Int) + (m1 : Int) + (m2 : Int)) = (n : Int) + (m1 : Int) + (m2 : Int) := IntWalk.i64_in _ (by omega)
      clear hl
      go_wp2
      go_quiet (fail)
      go_wp2
      go_roundw
      case rel => exact ⟨k + 1, n + m1 + m2, by omega, by omega, by omega, by go_num, by go_num, Qt.drew hq.out _⟩
      case measure => simp [intOf]; omega
    | false =>
    have hqb := hq.out.below w.heap.size
    have HBW := Lib.hid hqb
    clear hqb
    by_cases hmost : 6000 < n
    · have hmi : (6000 : Int) < (n : Int) := by omega
      go_wp2_with fail
      refine (netKnown_any _).mono ?_
      rintro e w2 ⟨rfl, hb2⟩
      have HB2 := Lib.hid (HBW.out.trans (hb2.mono HBW.out.size))
      clear hb2
      go_wp2
      go_ret
      exact ⟨rfl, HB2.out⟩
    have hmi : ¬ (6000 : Int) < (n : Int) := by omega
    obtain ⟨gn, hgn⟩ : ∃ gn, gn = wr.heap.size := ⟨_, rfl⟩
    obtain ⟨W1, hW1⟩ : ∃ W1, W1 = (wr.alloc (.cells #[.slice none 0 0] 26)).alloc (.cells #[.slice none 0 0] 41) := ⟨_, rfl⟩
    have hst : Nets w W1 (fun x => x = gn) (fun x => x = gn + 1) (fun _ => False) gn (gn + 1) [] [] := by
      have hws := HBW.out.size
      have e1 : BlkV W1 gn 26 #[.slice none 0 0] := by rw [hW1, hgn]; exact (BlkV.new wr _ _).alloc _
      have e2 : BlkV W1 (gn + 1) 41 #[.slice none 0 0] := by
        rw [hW1, hgn]
        have := BlkV.new (wr.alloc (.cells #[.slice none 0 0] 26)) 41 #[.slice none 0 0]
        simpa using this
      refine ⟨⟨⟨.slice none 0 0, [], e1, World.ownsRow_nil _ _ _ _, rfl, fun q hq => by simp [Value.ownBlock] at hq, fun u hu => by cases hu⟩, rfl, fun x hx => by have := e1.lt; omega⟩,
        ⟨⟨.slice none 0 0, [], e2, World.ownsRow_nil _ _ _ _, rfl, fun q hq => by simp [Value.ownBlock] at hq, fun u hu => by cases hu⟩, rfl, fun x hx => by have := e2.lt; omega⟩,
        fun x hx hy => by omega, fun _ h => h.elim, fun _ h => h.elim, fun _ h => h.elim, fun x hx => by omega, fun x hx => by omega, fun _ h => h.elim, ?_⟩
      rw [hW1]
      exact HBW.out.trans ((((Below.refl _ _).alloc (Nat.le_refl _) _).alloc (by simp) _).mono hws)
    have HST := Lib.hid hst
    have HW1 := Lib.hid hW1
    have HGN := Lib.hid hgn
    clear hst hW1 hgn
    obtain ⟨gw, hgw⟩ : ∃ gw, gw = gn + 1 := ⟨_, rfl⟩
    go_upto_region 10 with (fail)
    rw [← HW1.out, ← HGN.out, ← hgw]
    rw [← hgw] at HST
    clear hgw HW1 HGN
    go_wp2
    go_loopw [7] (fun s7 wr => ∃ (k : Nat) (L : List Ms) (Fn Fw : Nat → Prop), k ≤ N ∧ k ≤ 200 ∧ s7 = .int .i64 k ∧ Hid (Nets w wr Fn Fw (fun _ => False) gn gw L L) ∧ Hid (OkN L)) (fun s7 _ => N - (intOf s7).toNat)
    case atStart => exact ⟨0, [], _, _, by omega, by omega, rfl, HST, ⟨by simp, fun M hM => by cases hM⟩⟩
    case round =>
      clear hk hk2 hn hq hmost hmi HST HBW HBB
      obtain ⟨k, L, Fn, Fw, hk, hk2, rfl, hN, hL⟩ := hrel
      obtain ⟨B, hB⟩ : ∃ B : Bool, B = (decide (k < N) && decide (k < 200)) := ⟨_, rfl⟩
      have HBB := Lib.hid hB
      clear hB
      go_upto_region 11 with (fail)
      go_cut [60] from 53 to 60 (fun s60 wx => s60 = .bool B ∧ wr = wx)
      case first =>
        by_cases hB1 : k < N
        · have b1 : (k : Int) < (N : Int) := by omega
          by_cases hB2 : k < 200
          · have b2 : (k : Int) < 200 := by omega
            have hBf : B = true := by rw [HBB.out]; simp [hB1, hB2]
            have HBF := Lib.hid hBf
            clear hBf hB1 hB2
            go_wp2_with fail
            go_meet
            exact ⟨congrArg Value.bool HBF.out.symm, rfl⟩
          · have b2 : ¬ (k : Int) < 200 := by omega
            have hBf : B = false := by rw [HBB.out]; simp [hB2]
            have HBF := Lib.hid hBf
            clear hBf hB1 hB2
            go_wp2_with fail
            go_meet
            exact ⟨congrArg Value.bool HBF.out.symm, rfl⟩
        · have b1 : ¬ (k : Int) < (N : Int) := by omega
          have hBf : B = false := by rw [HBB.out]; simp [hB1]
          have HBF := Lib.hid hBf
          clear hBf hB1
          go_wp2_with fail
          go_meet
          exact ⟨congrArg Value.bool HBF.out.symm, rfl⟩
      case rest =>
      obtain ⟨rfl, rfl⟩ := hcut
      cases B with
      | false =>
        clear HBB
        go_wp2
        obtain ⟨n4, hn4⟩ : ∃ n4, n4 = L.length := ⟨_, rfl⟩
        have HN4 := Lib.hid hn4
        have hn48 : n4 ≤ 4096 := by rw [hn4]; exact hL.out.1
        clear hn4
        go_loopw [16] (fun s16 wr => ∃ j : Nat, j ≤ n4 ∧ s16 = .int .i64 j ∧ Hid (Nets w wr Fn Fw (fun _ => False) gn gw L L)) (fun s16 _ => n4 - (intOf s16).toNat)
        case atStart => exact ⟨0, by omega, rfl, hN⟩
        case round =>
          clear hN
          obtain ⟨j, hj, rfl, hN⟩ := hrel
          obtain ⟨a2, c2, xs2, h1, h2, h3⟩ := hN.out.r.len0
          rw [← HN4.out] at h1 h2
          have c0 := h1.cell 0
          have z0 := h1.lt
          simp only [List.getElem?_toArray, List.getElem?_cons_zero] at c0
          by_cases hjn : j < n4
          · have hji : (j : Int) < (n4 : Int) := by omega
            have hjl : j < L.length := by have := HN4.out; omega
            obtain ⟨M, hM⟩ : ∃ M, M = L[j] := ⟨_, rfl⟩
            have hat := at_o wr 0 gn L hN.out.n.toI hL.out.1 hL.out.2 (j : Int)
            have hal : atL L (j : Int) = some M := by unfold atL; rw [if_pos (by omega), Int.toNat_natCast, List.getElem?_eq_getElem hjl, hM]
            rw [hal] at hat
            have HAT := Lib.hid hat
            obtain ⟨an, cn, ad, cd, hx, t1, t2⟩ := h3.get j hjl
            rw [← hM] at hx t1 t2
            obtain ⟨G, cap, he, _, hGw, _⟩ := own_pos h2 (by omega)
            cases he
            obtain ⟨na, hna⟩ : ∃ na, na = M.nums.length := ⟨_, rfl⟩
            obtain ⟨da, hda⟩ : ∃ da, da = M.data.length := ⟨_, rfl⟩
            have hcell : ∀ W, Below wr.heap.size wr W → ∀ q, q < 5 → W.cell? ⟨G, j * 5 + q, none⟩ = [Value.int .i64 M.fr, .int .i64 M.to, .int .i64 M.kd, .slice an na cn, .slice ad da cd][q]? := fun W hb q hq => by
              rw [hb.cell (p := ⟨G, j * 5 + q, none⟩) hGw, hna, hda, ← hx, List.getElem?_take, if_pos hq, List.getElem?_drop]
              have hlt : j * 5 + q < xs2.length := by have := h2.1; omega
              have := h2.cells (g := G) rfl (j * 5 + q) xs2[j * 5 + q] (List.getElem?_eq_getElem hlt)
              rw [Addr.add_lit, Nat.zero_add] at this
              rw [this, List.getElem?_eq_getElem hlt]
            have HNA := Lib.hid hna
            have HDA := Lib.hid hda
            have HCE := Lib.hid hcell
            have HT1 := Lib.hid t1
            have HT2 := Lib.hid t2
            have H1 := Lib.hid h1
            clear hM hat hal hx t1 t2 hcell hna hda h1 h2 h3 hjl
            go_wp2_with fail
            refine HAT.out.mono ?_
            rintro e w3 ⟨x3, rfl, hx3, hb3⟩
            have hx3 : MsO w3 wr.heap.size x3.toList M := hx3
            obtain ⟨an3, cn3, ad3, cd3, rfl, hm3⟩ := MsD.of (D := fun _ => True) hx3 fun k h1 h2 => trivial
            obtain ⟨K17, hK17⟩ : ∃ K17, K17 = w3.heap.size := ⟨_, rfl⟩
            obtain ⟨W4, hW4⟩ : ∃ W4, W4 = w3.alloc (.cells #[.int .i64 M.fr, .int .i64 M.to, .int .i64 M.kd, .slice an3 M.nums.length cn3, .slice ad3 M.data.length cd3] 31) := ⟨_, rfl⟩
            have hbA : Below w3.heap.size w3 W4 := by rw [hW4]; exact (Below.refl _ _).alloc (Nat.le_refl _) _
            have hb4 : Below wr.heap.size wr W4 := hb3.trans (hbA.mono hb3.size)
            have hP17 : BlkV W4 K17 31 #[.int .i64 M.fr, .int .i64 M.to, .int .i64 M.kd, .slice an3 M.nums.length cn3, .slice ad3 M.data.length cd3] := by rw [hW4, hK17]; exact BlkV.new w3 _ _
            rw [← HNA.out, ← HDA.out] at hP17
            have hm4 := hm3.kept hbA
            have y0 := hP17.cell 0
            have y1 := hP17.cell 1
            have y2 := hP17.cell 2
            have y3 := hP17.cell 3
            have y4 := hP17.cell 4
            have q0 := HCE.out W4 hb4 0 (by omega)
            have q1 := HCE.out W4 hb4 1 (by omega)
            have q2 := HCE.out W4 hb4 2 (by omega)
            have q3 := HCE.out W4 hb4 3 (by omega)
            have q4 := HCE.out W4 hb4 4 (by omega)
            have d0 := (H1.out.below hb4).cell 0
            have dz := (H1.out.below hb4).lt
            simp only [List.getElem?_toArray, List.getElem?_cons_succ, List.getElem?_cons_zero, Nat.add_zero] at y0 y1 y2 y3 y4 q0 q1 q2 q3 q4 d0
            have hbd : Below W4.heap.size W4 W4.drew := (Below.refl _ _).drew
            have hmt := messages_true W4.drew M.fr M.to M.kd an3 an cn3 cn na M.nums ad3 ad cd3 cd da M.data HNA.out HDA.out (Rd.ofD (hm4.kept hbd).1) ((HT1.out.1.kept hb4).kept hbd) (Rd.ofD (hm4.kept hbd).2.1) ((HT2.out.1.kept hb4).kept hbd)
            have HMT := Lib.hid hmt
            have HN4' := Lib.hid (hN.out.offD (G := fun _ => False) (Off.ofBelow hb4) fun _ h => h.elim)
            have HW4 := Lib.hid hW4
            have HK17 := Lib.hid hK17
            clear hx3 hm3 hm4 hbA hb3 hb4 hP17 hbd hmt hW4 hK17 c0 z0 HCE
            go_upto_region 42 with (fail)
            rw [← HW4.out, ← HK17.out, ← HNA.out, ← HDA.out]
            go_region_law (first
              | ((with_reducible refine StepAt 196 ?_); (refine At.out ?_); go_simp; go_at_call 17; refine (HMT.out).mono ?_; rintro e w5 ⟨rfl, hb5⟩))
            all_goals
              have HN5 := Lib.hid (HN4'.out.drew.offD (G := fun _ => False) (Off.ofBelow hb5) fun _ h => h.elim)
              clear hb5 y0 y1 y2 y3 y4 q0 q1 q2 q3 q4 d0 HMT
              go_wp2
              go_roundw
              case rel => exact ⟨j + 1, by omega, by go_num, HN5⟩
              case measure => simp [intOf]; omega
          · have hji : ¬ (j : Int) < (n4 : Int) := by omega
            have HBW := Lib.hid hN.out.bel
            clear h1 h2 h3
            go_wp2_with fail
            refine (netKnown_any _).mono ?_
            rintro e w2 ⟨rfl, hb2⟩
            have HB2 := Lib.hid (HBW.out.trans (hb2.mono HBW.out.size))
            clear hb2
            go_wp2
            go_ret
            exact ⟨rfl, HB2.out⟩
      | true =>
      have hBB := HBB.out.symm
      simp only [Bool.and_eq_true, decide_eq_true_eq] at hBB
      obtain ⟨hlt, h200⟩ := hBB
      have hkl : k < S.length := by have := HN.out; omega
      have hki : (k : Int) < (N : Int) := by omega
      obtain ⟨b, o, an, cn, ad, cd, rfl, h2, h3, hrn, hrd⟩ := HR.out.2.2 k S[k] (List.getElem?_eq_getElem hkl)
      have hl := HLEN.out S[k] (List.getElem_mem _)
      obtain ⟨kd, hkd⟩ : ∃ kd, kd = S[k].kd := ⟨_, rfl⟩
      obtain ⟨ix, hix⟩ : ∃ ix, ix = S[k].ix := ⟨_, rfl⟩
      obtain ⟨M, hM⟩ : ∃ M, M = S[k].m := ⟨_, rfl⟩
      rw [← hkd, ← hix, ← hM] at h3
      rw [← hM] at hrn hrd hl
      obtain ⟨nn, hnn⟩ : ∃ nn, nn = M.nums.length := ⟨_, rfl⟩
      obtain ⟨nd, hnd⟩ : ∃ nd, nd = M.data.length := ⟨_, rfl⟩
      rw [← hnn, ← hnd] at h3
      have hwb := hN.out.bel
      have h3w : ∀ j, j < 7 → wr.cell? ⟨b, o + k * 7 + j, none⟩ = [Value.int .i64 kd, .int .i64 ix, .int .i64 M.fr, .int .i64 M.to, .int .i64 M.kd, .slice an nn cn, .slice ad nd cd][j]? := fun j hj => (hwb.cell (p := ⟨b, o + k * 7 + j, none⟩) h2).trans (h3 j hj)
      have x0 := h3w 0 (by omega)
      have x1 := h3w 1 (by omega)
      have x2 := h3w 2 (by omega)
      have x3 := h3w 3 (by omega)
      have x4 := h3w 4 (by omega)
      have x5 := h3w 5 (by omega)
      have x6 := h3w 6 (by omega)
      simp only [List.getElem?_cons_succ, List.getElem?_cons_zero, Nat.add_zero] at x0 x1 x2 x3 x4 x5 x6
      obtain ⟨K8, hK8⟩ : ∃ K8, K8 = wr.heap.size := ⟨_, rfl⟩
      obtain ⟨W2, hW2⟩ : ∃ W2, W2 = wr.alloc (.cells #[.int .i64 kd, .int .i64 ix, .int .i64 M.fr, .int .i64 M.to, .int .i64 M.kd, .slice an nn cn, .slice ad nd cd] 38) := ⟨_, rfl⟩
      have hbA : Below wr.heap.size wr W2 := by rw [hW2]; exact (Below.refl _ _).alloc (Nat.le_refl _) _
      have hP8 : BlkV W2 K8 38 #[.int .i64 kd, .int .i64 ix, .int .i64 M.fr, .int .i64 M.to, .int .i64 M.kd, .slice an nn cn, .slice ad nd cd] := by rw [hW2, hK8]; exact BlkV.new wr _ _
      have HN2 := Lib.hid (hN.out.kept hbA)
      have HD8 : Hid ((grew (fun _ => False) wr W2) K8) := Lib.hid (.inr ⟨by omega, by have := hP8.lt; omega⟩)
      obtain ⟨D, hD⟩ : ∃ D, D = grew (fun _ => False) wr W2 := ⟨_, rfl⟩
      rw [← hD] at HN2 HD8
      have HRN := Lib.hid hrn
      have HRD := Lib.hid hrd
      have HML := Lib.hid (show M.nums.length ≤ 100000000 ∧ M.data.length ≤ 100000000 from ⟨by omega, by omega⟩)
      have HNN := Lib.hid hnn
      have HND := Lib.hid hnd
      have HW2 := Lib.hid hW2
      have HK8 := Lib.hid hK8
      have HP8 := Lib.hid hP8
      have h2i : (k : Int) < 200 := by omega
      clear hkd hix hM hnn hnd hD hW2 hK8 hP8 h3 h3w hrn hrd hl hwb hbA hkl
      go_upto_region 14 with (fail)
      rw [← HW2.out, ← HK8.out]
      clear x0 x1 x2 x3 x4 x5 x6
      have p0 := HP8.out.cell 0
      have p1 := HP8.out.cell 1
      have p2 := HP8.out.cell 2
      have p3 := HP8.out.cell 3
      have p4 := HP8.out.cell 4
      have p5 := HP8.out.cell 5
      have p6 := HP8.out.cell 6
      simp only [List.getElem?_toArray, List.getElem?_cons_succ, List.getElem?_cons_zero] at p0 p1 p2 p3 p4 p5 p6
      by_cases hk1 : kd = 1
      · have e1 : (kd == 1) = true := by simpa using hk1
        have hcl := refClone_o W2 M an ad cn cd (HRN.out.kept HN2.out.bel) (HRD.out.kept HN2.out.bel) HML.out.1 HML.out.2
        unfold msV at hcl
        rw [← HNN.out, ← HND.out] at hcl
        have HCL := Lib.hid hcl
        clear hcl hk1
        go_wp2_with fail
        refine HCL.out.mono ?_
        rintro e w3 ⟨x3, rfl, hx3, hb3⟩
        have hb34 := fun o => hb3.alloc hb3.size o
        obtain ⟨an3, cn3, ad3, cd3, rfl, hm3⟩ := MsD.of (D := fun k => W2.heap.size ≤ k ∧ k < w3.heap.size) hx3 fun k h1 h2 => ⟨h1, h2⟩
        obtain ⟨K10, hK10⟩ : ∃ K10, K10 = w3.heap.size := ⟨_, rfl⟩
        obtain ⟨W4, hW4⟩ : ∃ W4, W4 = w3.alloc (.cells #[.int .i64 M.fr, .int .i64 M.to, .int .i64 M.kd, .slice an3 M.nums.length cn3, .slice ad3 M.data.length cd3] 31) := ⟨_, rfl⟩
        have hbA : Below w3.heap.size w3 W4 := by rw [hW4]; exact (Below.refl _ _).alloc (Nat.le_refl _) _
        have hb4 : Below W2.heap.size W2 W4 := hb3.trans (hbA.mono hb3.size)
        have hP10 : BlkV W4 K10 31 #[.int .i64 M.fr, .int .i64 M.to, .int .i64 M.kd, .slice an3 M.nums.length cn3, .slice ad3 M.data.length cd3] := by rw [hW4, hK10]; exact BlkV.new w3 _ _
        have hm4 : MsD (grew D W2 W4) W4 M an3 cn3 ad3 cd3 := (hm3.kept hbA).mono fun x hx => .inr ⟨hx.1, by have := hbA.size; omega⟩
        have hP84 := HP8.out.below hb4
        have HN4 := Lib.hid (HN2.out.kept hb4)
        have hD10 : (grew D W2 W4) K10 := .inr ⟨by have := hb3.size; omega, hP10.lt⟩
        have hD8 : (grew D W2 W4) K8 := .inl HD8.out
        obtain ⟨D4, hD4⟩ : ∃ D4, D4 = grew D W2 W4 := ⟨_, rfl⟩
        rw [← hD4] at hm4 HN4 hD10 hD8
        rw [← HNN.out, ← HND.out] at hP10
        have HD10 := Lib.hid hD10
        have HD84 := Lib.hid hD8
        have HM4 := Lib.hid hm4
        have HP10 := Lib.hid hP10
        have HP84 := Lib.hid hP84
        have HW4 := Lib.hid hW4
        have HK10 := Lib.hid hK10
        clear hb3 hb34 hm3 hx3 hb4 hbA hP10 hm4 hP84 hD10 hD8 hD4 hW4 hK10 p0 p1 p2 p3 p4 p5 p6
        go_upto_region 19 with (fail)
        rw [← HW4.out, ← HK10.out, ← HNN.out, ← HND.out]
        have y0 := HP10.out.cell 0
        have y1 := HP10.out.cell 1
        have y2 := HP10.out.cell 2
        have y3 := HP10.out.cell 3
        have y4 := HP10.out.cell 4
        have p2 := HP84.out.cell 2
        have p3 := HP84.out.cell 3
        have p4 := HP84.out.cell 4
        have p5 := HP84.out.cell 5
        have p6 := HP84.out.cell 6
        simp only [List.getElem?_toArray, List.getElem?_cons_succ, List.getElem?_cons_zero] at p2 p3 p4 p5 p6 y0 y1 y2 y3 y4
        have hsN := send_f W4.drew Fn gn L (HN4.out.n.kept (Below.refl _ _).drew) hL.out.1 M an3 ad3 cn3 cd3 (Rd.ofD (HM4.out.kept (Below.refl _ _).drew).1) (Rd.ofD (HM4.out.kept (Below.refl _ _).drew).2.1) HML.out.1 HML.out.2
        have hsW := fun (W : World) (h : Nets w W (grew Fn W4.drew W) Fw D4 gn gw (sendL L M) L) => refSend_f W Fw gw L h.r hL.out.1 M an ad cn cd (HRN.out.kept h.bel) (HRD.out.kept h.bel) HML.out.1 HML.out.2
        obtain ⟨rb, hrb⟩ : ∃ rb, rb = decide (L.length < 4096) := ⟨_, rfl⟩
        unfold msV at hsN hsW
        rw [← HNN.out, ← HND.out, ← hrb] at hsN
        simp only [← HNN.out, ← HND.out, ← hrb] at hsW
        have HSN := Lib.hid hsN
        have HSW := Lib.hid hsW
        have hrr : (rb == rb) = true := by simp
        clear hsN hsW hrb
        go_cut [9] from 83 to 90 (fun s9 wx => s9 = .bool true ∧ Hid (∃ FX FY, Nets w wx FX FY D4 gn gw (sendL L M) (sendL L M) ∧ BlkV wx K10 31 #[.int .i64 M.fr, .int .i64 M.to, .int .i64 M.kd, .slice an3 nn cn3, .slice ad3 nd cd3] ∧ MsD D4 wx M an3 cn3 ad3 cd3))
        case first =>
          go_region_law (first
            | ((with_reducible refine StepAt 85 ?_); (refine At.out ?_); go_simp; go_at_call 7; refine (HSN.out).mono ?_; rintro e w5 ⟨rfl, hI5, ho5⟩
               (have HN5 := Nets.opN HN4.out.drew hI5 ho5); (have P85 := Nets.blkN HN4.out.drew (BlkV.below HP84.out (Below.refl _ _).drew) HD84.out ho5); (have P15 := Nets.blkN HN4.out.drew (BlkV.below HP10.out (Below.refl _ _).drew) HD10.out ho5); (have M5 := MsD.off (HM4.out.kept (Below.refl _ _).drew) ho5 HN4.out.drew.dn);
               (have r2 := P85.cell 2); (have r3 := P85.cell 3); (have r4 := P85.cell 4); (have r5 := P85.cell 5); (have r6 := P85.cell 6);
               (simp only [List.getElem?_toArray, List.getElem?_cons_succ, List.getElem?_cons_zero] at r2 r3 r4 r5 r6))
            | ((with_reducible refine StepAt 89 ?_); (refine At.out ?_); go_simp; go_at_call 12; refine (HSW.out _ HN5).mono ?_; rintro e w6 ⟨rfl, hI6, ho6⟩))
          all_goals
            have HN6 := Lib.hid (HN5.opW hI6 ho6)
            have P86 := Lib.hid (HN5.blkW P85 HD84.out ho6)
            have P16 := Lib.hid (HN5.blkW P15 HD10.out ho6)
            have M6 := Lib.hid (M5.off ho6 HN5.dw)
            clear HN5 P85 P15 M5 hI5 ho5 hI6 ho6 r2 r3 r4 r5 r6
            go_wp2_with fail
            go_meet
            exact ⟨rfl, _, _, HN6.out, P16.out, M6.out⟩
        case rest =>
        obtain ⟨rfl, hcx⟩ := hcut
        obtain ⟨FX, FY, hN6, hP16, hM6⟩ := hcx.out
        obtain ⟨w6, hw6⟩ : ∃ w6, w6 = wc := ⟨_, rfl⟩
        subst hw6
        have HN6 := Lib.hid hN6
        have HP16 := Lib.hid hP16
        have HM6 := Lib.hid hM6
        have z4 := hP16.cell 4
        simp only [List.getElem?_toArray, List.getElem?_cons_succ, List.getElem?_cons_zero] at z4
        have hsp := spoil_f w6 _ _ _ hM6.2.1 HML.out.2
        rw [← HND.out] at hsp
        have HSP := Lib.hid hsp
        clear hcx hN6 hP16 hM6 hsp p2 p3 p4 p5 p6 y0 y1 y2 y3 y4
        go_wp2_with fail
        refine HSP.out.mono ?_
        rintro e w7 ⟨rfl, ho7⟩
        have hN7 := HN6.out.offD ho7 (fun x hx => HM6.out.2.2.2 x (by rw [← HND.out]; exact hx))
        have hty := own_type HM6.out.2.1
        rw [← HND.out] at hty
        have hP17 := HP16.out.offTy ho7 hty (by decide)
        have hM7 := own_off HM6.out.1 ho7 fun q hq e => by
          obtain ⟨cs, fr, hh⟩ := hty q e
          obtain ⟨cs', fr', hh'⟩ := own_type HM6.out.1 q hq
          rw [hh] at hh'
          cases hh'
        have hDn := HM6.out.2.2.1
        rw [← HNN.out] at hM7 hDn
        have HDN := Lib.hid hDn
        have HN7 := Lib.hid hN7
        have HP17 := Lib.hid hP17
        have HO7 := Lib.hid (hL.out.send HML.out)
        obtain ⟨LL, hLL⟩ : ∃ LL, LL = sendL L M := ⟨_, rfl⟩
        rw [← hLL] at HN7 HO7
        obtain ⟨ys0, hys0⟩ : ∃ ys0, ys0 = BI M.nums := ⟨_, rfl⟩
        rw [← hys0] at hM7
        have HM7 := Lib.hid hM7
        have hnn8 : nn ≤ 100000000 := by rw [HNN.out]; exact HML.out.1
        clear ho7 hN7 hty hP17 hM7 hDn HSP z4 HSN HSW HM4 HP10 HP84 HW4 HK10 HN4 HCL HM6 HN6 HP16 hLL hys0 hrr
        go_wp2
        go_loopw [11] (fun s11 wr => ∃ (j : Nat) (ys : List Value), j ≤ nn ∧ s11 = .int .i64 j ∧ Hid (Nets w wr FX FY D4 gn gw LL LL) ∧ Hid (BlkV wr K10 31 #[.int .i64 M.fr, .int .i64 M.to, .int .i64 M.kd, .slice an3 nn cn3, .slice ad3 nd cd3]) ∧ Hid (wr.ownsRow 0 3 1 (.slice an3 nn cn3) nn ys)) (fun s11 _ => nn - (intOf s11).toNat)
        case atStart => exact ⟨0, _, by omega, rfl, HN7, HP17, HM7⟩
        case round =>
          obtain ⟨j, ys, hj, rfl, hN8, hP8, hM8⟩ := hrel
          have z3 := hP8.out.cell 3
          simp only [List.getElem?_toArray, List.getElem?_cons_succ, List.getElem?_cons_zero] at z3
          by_cases hjn : j < nn
          · have hji : (j : Int) < (nn : Int) := by omega
            obtain ⟨g, cap, he, _, hg2, _, _⟩ := own_pos hM8.out (by omega)
            cases he
            have ho := hM8.out
            have hlen : ys.length = nn := by simpa using ho.1
            obtain ⟨u, hcell⟩ : ∃ u, wr.cell? ⟨g, j, none⟩ = some u := ⟨ys[j], by rw [ho.cellAt j (by omega), List.getElem?_eq_getElem (by omega)]⟩
            have hfr := ho.frozenAt j
            have hset := (ho.stored j (.int .i64 (-77))).1
            have hN9 := hN8.out.offD (Off.setCell (F := D4) (p := ⟨g, j, none⟩) (HDN.out g rfl) (.int .i64 (-77))) fun x hx => hx
            have hKg : K10 ≠ g := by
              rintro rfl
              obtain ⟨cs, fr, hh⟩ := own_type ho K10 rfl
              rw [show wr.heap[K10]? = _ from hP8.out] at hh
              cases hh
            have hP9 := hP8.out.far hKg j (.int .i64 (-77))
            have HN9 := Lib.hid hN9
            have HP9 := Lib.hid hP9
            have HS9 := Lib.hid hset
            clear ho hlen hset hN9 hKg hP9
            go_wp2
            go_roundw
            case rel => exact ⟨j + 1, _, by omega, by go_num, HN9, HP9, HS9⟩
            case measure => simp [intOf]; omega
          · have hji : ¬ (j : Int) < (nn : Int) := by omega
            obtain ⟨ta, tc, txs, tb1, _, _⟩ := hN8.out.r.len0
            have t0 := tb1.cell 0
            have tz := tb1.lt
            simp only [List.getElem?_toArray, List.getElem?_cons_zero] at t0
            have hlq : ∀ q, Calls Try.prog 9 #[.pointer (some ⟨gn, 0, none⟩)] (wr.drewN q) fun e w' => e = .returned (.int .i64 (LL.length : Int)) ∧ ∃ m, w' = wr.drewN m := fun q => by
              refine (len_any (wr.drewN q) 0 gn LL (hN8.out.n.kept (below_drewN (Below.refl _ _) q)).toI).mono ?_
              rintro e w' ⟨rfl, rfl⟩
              exact ⟨rfl, q, rfl⟩
            obtain ⟨tn, htn⟩ : ∃ tn, tn = (LL).length := ⟨_, rfl⟩
            rw [← htn] at t0
            simp only [← htn] at hlq
            have HLQ := Lib.hid hlq
            have hne : ((tn : Int) != (tn : Int)) = false := by simp
            clear hlq tb1 htn
            go_wp2
            go_quiet ((go_at_call 9; exact HLQ.out _))
            go_wp2
            go_roundw
            case rel => exact ⟨k + 1, LL, FX, FY, by omega, by omega, by go_num, (hN8.out.kept (below_drewN (Below.refl _ _) _)).forget, HO7⟩
            case measure => simp [intOf]; omega
      · have e1 : (kd == 1) = false := by simpa using hk1
        clear hk1
        by_cases hk2' : kd = 2
        · have e2 : (kd == 2) = true := by simpa using hk2'
          have e3 : (kd == 3) = false := by rw [hk2']; rfl
          clear hk2'
          obtain ⟨MA, hMA⟩ : ∃ MA, MA = (atL L ix).getD Ms.zero := ⟨_, rfl⟩
          obtain ⟨is, his⟩ : ∃ is, is = (atL L ix).isSome := ⟨_, rfl⟩
          have hMok := hL.out.at ix
          have hat := at_o W2 0 gn L HN2.out.n.toI hL.out.1 hL.out.2 ix
          have hatW := fun (W : World) (D' : Nat → Prop) (h : Nets w W Fn Fw D' gn gw L L) => refAt_o W Fw gw L h.r hL.out.1 hL.out.2 ix
          unfold AtO at hat hatW
          rw [← hMA] at hat hMok
          rw [← his] at hat
          simp only [← hMA] at hatW
          simp only [← his] at hatW
          obtain ⟨na, hna⟩ : ∃ na, na = MA.nums.length := ⟨_, rfl⟩
          obtain ⟨da, hda⟩ : ∃ da, da = MA.data.length := ⟨_, rfl⟩
          have HNA := Lib.hid hna
          have HDA := Lib.hid hda
          have HMA := Lib.hid hMA
          have HIS := Lib.hid his
          have HMOK := Lib.hid hMok
          have HAT := Lib.hid hat
          have HATW := Lib.hid hatW
          have hbb : (is == is) = true := by simp
          clear hat hatW hMok hMA his hna hda
          go_upto_region 27 with (fail)
          go_wp2_with fail
          refine HAT.out.mono ?_
          rintro e w3 ⟨x3, rfl, hx3, hb3⟩
          obtain ⟨an3, cn3, ad3, cd3, rfl, hm3⟩ := MsD.of (D := fun k => W2.heap.size ≤ k ∧ k < w3.heap.size) hx3 fun k h1 h2 => ⟨h1, h2⟩
          obtain ⟨K12, hK12⟩ : ∃ K12, K12 = w3.heap.size := ⟨_, rfl⟩
          obtain ⟨W4, hW4⟩ : ∃ W4, W4 = w3.alloc (.cells #[.int .i64 MA.fr, .int .i64 MA.to, .int .i64 MA.kd, .slice an3 MA.nums.length cn3, .slice ad3 MA.data.length cd3] 31) := ⟨_, rfl⟩
          have hbA : Below w3.heap.size w3 W4 := by rw [hW4]; exact (Below.refl _ _).alloc (Nat.le_refl _) _
          have hb4 : Below W2.heap.size W2 W4 := hb3.trans (hbA.mono hb3.size)
          have hP12 : BlkV W4 K12 31 #[.int .i64 MA.fr, .int .i64 MA.to, .int .i64 MA.kd, .slice an3 MA.nums.length cn3, .slice ad3 MA.data.length cd3] := by rw [hW4, hK12]; exact BlkV.new w3 _ _
          have hm4 : MsD (grew D W2 W4) W4 MA an3 cn3 ad3 cd3 := (hm3.kept hbA).mono fun x hx => .inr ⟨hx.1, by have := hbA.size; omega⟩
          have hP84 := HP8.out.below hb4
          have HN4 := Lib.hid (HN2.out.kept hb4)
          have hK8b : K8 < K12 := by have := HP8.out.lt; have := hb3.size; omega
          have hD12 : (grew D W2 W4) K12 := .inr ⟨by have := hb3.size; omega, hP12.lt⟩
          have hD8 : (grew D W2 W4) K8 := .inl HD8.out
          obtain ⟨D4, hD4⟩ : ∃ D4, D4 = grew D W2 W4 := ⟨_, rfl⟩
          rw [← hD4] at hm4 HN4 hD12 hD8
          rw [← HNA.out, ← HDA.out] at hP12
          have HD12 := Lib.hid hD12
          have HD84 := Lib.hid hD8
          have HM4 := Lib.hid hm4
          have HP12 := Lib.hid hP12
          have HP84 := Lib.hid hP84
          have HW4 := Lib.hid hW4
          have HK12 := Lib.hid hK12
          have HK8B := Lib.hid hK8b
          clear hb3 hm3 hx3 hb4 hbA hP12 hm4 hP84 hD12 hD8 hD4 hW4 hK12 hK8b p0 p1 p2 p3 p4 p5 p6
          go_upto_region 28 with (fail)
          rw [← HW4.out, ← HK12.out, ← HNA.out, ← HDA.out]
          have p1 := HP84.out.cell 1
          simp only [List.getElem?_toArray, List.getElem?_cons_succ, List.getElem?_cons_zero] at p1
          go_wp2_with fail
          refine (HATW.out W4 D4 HN4.out).mono ?_
          rintro e w5 ⟨x5, rfl, hx5, hb5⟩
          obtain ⟨an5, cn5, ad5, cd5, rfl, hm5⟩ := MsD.of (D := fun k => W4.heap.size ≤ k ∧ k < w5.heap.size) hx5 fun k h1 h2 => ⟨h1, h2⟩
          obtain ⟨K14, hK14⟩ : ∃ K14, K14 = w5.heap.size := ⟨_, rfl⟩
          obtain ⟨W6, hW6⟩ : ∃ W6, W6 = w5.alloc (.cells #[.int .i64 MA.fr, .int .i64 MA.to, .int .i64 MA.kd, .slice an5 MA.nums.length cn5, .slice ad5 MA.data.length cd5] 31) := ⟨_, rfl⟩
          have hbA : Below w5.heap.size w5 W6 := by rw [hW6]; exact (Below.refl _ _).alloc (Nat.le_refl _) _
          have hb6 : Below W4.heap.size W4 W6 := hb5.trans (hbA.mono hb5.size)
          have hP14 : BlkV W6 K14 31 #[.int .i64 MA.fr, .int .i64 MA.to, .int .i64 MA.kd, .slice an5 MA.nums.length cn5, .slice ad5 MA.data.length cd5] := by rw [hW6, hK14]; exact BlkV.new w5 _ _
          have hm6b : MsD (grew D4 W4 W6) W6 MA an5 cn5 ad5 cd5 := (hm5.kept hbA).mono fun x hx => .inr ⟨hx.1, by have := hbA.size; omega⟩
          have hm6a : MsD (grew D4 W4 W6) W6 MA an3 cn3 ad3 cd3 := (HM4.out.kept hb6).mono fun x hx => .inl hx
          have hP86 := HP84.out.below hb6
          have hP126 := HP12.out.below hb6
          have HN6 := Lib.hid (HN4.out.kept hb6)
          have hK14b : K12 < K14 := by have := HP12.out.lt; have := hb5.size; omega
          have hD14 : (grew D4 W4 W6) K14 := .inr ⟨by have := hb5.size; omega, hP14.lt⟩
          have hD12 : (grew D4 W4 W6) K12 := .inl HD12.out
          have hD8 : (grew D4 W4 W6) K8 := .inl HD84.out
          obtain ⟨D6, hD6⟩ : ∃ D6, D6 = grew D4 W4 W6 := ⟨_, rfl⟩
          rw [← hD6] at hm6a hm6b HN6 hD12 hD14 hD8
          rw [← HNA.out, ← HDA.out] at hP14
          clear HD12 HD84 HM4 HP12 HP84 HN4
          have HD12 := Lib.hid hD12
          have HD14 := Lib.hid hD14
          have HD86 := Lib.hid hD8
          have HMa := Lib.hid hm6a
          have HMb := Lib.hid hm6b
          have HP12 := Lib.hid hP126
          have HP14 := Lib.hid hP14
          have HP86 := Lib.hid hP86
          have HW6 := Lib.hid hW6
          have HK14 := Lib.hid hK14
          have HK14B := Lib.hid hK14b
          clear hb5 hm5 hx5 hb6 hbA hP14 hm6a hm6b hP86 hP126 hD12 hD14 hD8 hD6 hW6 hK14 hK14b p1 HW4 HK12
          go_upto_region 29 with (fail)
          rw [← HW6.out, ← HK14.out, ← HNA.out, ← HDA.out]
          clear HW6 HK14
          have p0 := HP86.out.cell 0
          simp only [List.getElem?_toArray, List.getElem?_cons_zero] at p0
          have y0 := HP12.out.cell 0
          have y1 := HP12.out.cell 1
          have y2 := HP12.out.cell 2
          have y3 := HP12.out.cell 3
          have y4 := HP12.out.cell 4
          have z0 := HP14.out.cell 0
          have z1 := HP14.out.cell 1
          have z2 := HP14.out.cell 2
          have z3 := HP14.out.cell 3
          have z4 := HP14.out.cell 4
          simp only [List.getElem?_toArray, List.getElem?_cons_succ, List.getElem?_cons_zero] at y0 y1 y2 y3 y4 z0 z1 z2 z3 z4
          have hmt := messages_true W6 MA.fr MA.to MA.kd an3 an5 cn3 cn5 na MA.nums ad3 ad5 cd3 cd5 da MA.data HNA.out HDA.out (Rd.ofD HMa.out.1) (Rd.ofD HMb.out.1) (Rd.ofD HMa.out.2.1) (Rd.ofD HMb.out.2.1)
          have HMT := Lib.hid hmt
          clear hmt
          go_wp2_with fail
          refine HMT.out.mono ?_
          rintro e w11 ⟨rfl, hb11⟩
          have hN11 := HN6.out.offD (G := fun _ => False) (Off.ofBelow hb11) fun _ h => h.elim
          have hP11 := HP12.out.below hb11
          have hM11 := HMa.out.kept hb11
          have x4 := hP11.cell 4
          simp only [List.getElem?_toArray, List.getElem?_cons_succ, List.getElem?_cons_zero] at x4
          have hsp := spoil_f w11 _ _ _ hM11.2.1 HMOK.out.2
          rw [← HDA.out] at hsp
          have HSP := Lib.hid hsp
          clear hsp y0 y1 y2 y3 y4 z0 z1 z2 z3 z4 hP11
          go_wp2_with fail
          refine HSP.out.mono ?_
          rintro e w12 ⟨rfl, ho12⟩
          have hN12 := hN11.offD ho12 (fun x hx => hM11.2.2.2 x (by rw [← HDA.out]; exact hx))
          have HN12 := Lib.hid hN12
          clear hN11 hM11 hb11 ho12 hN12 x4 HSP HMT
          obtain ⟨LL, hLL⟩ : ∃ LL, LL = L := ⟨_, rfl⟩
          have HO7 := hL
          rw [← hLL] at HN12 HO7
          clear hLL
          obtain ⟨ta, tc, txs, tb1, _, _⟩ := HN12.out.r.len0
          have t0 := tb1.cell 0
          have tz := tb1.lt
          simp only [List.getElem?_toArray, List.getElem?_cons_zero] at t0
          have hlq : ∀ q, Calls Try.prog 9 #[.pointer (some ⟨gn, 0, none⟩)] (w12.drewN q) fun e w' => e = .returned (.int .i64 (LL.length : Int)) ∧ ∃ m, w' = w12.drewN m := fun q => by
            refine (len_any (w12.drewN q) 0 gn LL (HN12.out.n.kept (below_drewN (Below.refl _ _) q)).toI).mono ?_
            rintro e w' ⟨rfl, rfl⟩
            exact ⟨rfl, q, rfl⟩
          obtain ⟨tn, htn⟩ : ∃ tn, tn = (LL).length := ⟨_, rfl⟩
          rw [← htn] at t0
          simp only [← htn] at hlq
          have HLQ := Lib.hid hlq
          have hne : ((tn : Int) != (tn : Int)) = false := by simp
          clear hlq tb1 htn
          go_wp2
          go_quiet ((go_at_call 9; exact HLQ.out _))
          go_wp2
          go_roundw
          case rel => exact ⟨k + 1, LL, Fn, Fw, by omega, by omega, by go_num, (HN12.out.kept (below_drewN (Below.refl _ _) _)).forget, HO7⟩
          case measure => simp [intOf]; omega
        have e2 : (kd == 2) = false := by simpa using hk2'
        clear hk2'
        by_cases hk3 : kd = 3
        · have e3 : (kd == 3) = true := by simpa using hk3
          clear hk3
          obtain ⟨MA, hMA⟩ : ∃ MA, MA = (atL L ix).getD Ms.zero := ⟨_, rfl⟩
          obtain ⟨is, his⟩ : ∃ is, is = (atL L ix).isSome := ⟨_, rfl⟩
          have hMok := hL.out.at ix
          have hat := at_o W2 0 gn L HN2.out.n.toI hL.out.1 hL.out.2 ix
          have hatW := fun (W : World) (D' : Nat → Prop) (h : Nets w W Fn Fw D' gn gw L L) => refAt_o W Fw gw L h.r hL.out.1 hL.out.2 ix
          unfold AtO at hat hatW
          rw [← hMA] at hat hMok
          rw [← his] at hat
          simp only [← hMA] at hatW
          simp only [← his] at hatW
          obtain ⟨na, hna⟩ : ∃ na, na = MA.nums.length := ⟨_, rfl⟩
          obtain ⟨da, hda⟩ : ∃ da, da = MA.data.length := ⟨_, rfl⟩
          have HNA := Lib.hid hna
          have HDA := Lib.hid hda
          have HMA := Lib.hid hMA
          have HIS := Lib.hid his
          have HMOK := Lib.hid hMok
          have HAT := Lib.hid hat
          have HATW := Lib.hid hatW
          have hbb : (is == is) = true := by simp
          clear hat hatW hMok hMA his hna hda
          go_upto_region 27 with (fail)
          go_wp2_with fail
          refine HAT.out.mono ?_
          rintro e w3 ⟨x3, rfl, hx3, hb3⟩
          obtain ⟨an3, cn3, ad3, cd3, rfl, hm3⟩ := MsD.of (D := fun k => W2.heap.size ≤ k ∧ k < w3.heap.size) hx3 fun k h1 h2 => ⟨h1, h2⟩
          obtain ⟨K12, hK12⟩ : ∃ K12, K12 = w3.heap.size := ⟨_, rfl⟩
          obtain ⟨W4, hW4⟩ : ∃ W4, W4 = w3.alloc (.cells #[.int .i64 MA.fr, .int .i64 MA.to, .int .i64 MA.kd, .slice an3 MA.nums.length cn3, .slice ad3 MA.data.length cd3] 31) := ⟨_, rfl⟩
          have hbA : Below w3.heap.size w3 W4 := by rw [hW4]; exact (Below.refl _ _).alloc (Nat.le_refl _) _
          have hb4 : Below W2.heap.size W2 W4 := hb3.trans (hbA.mono hb3.size)
          have hP12 : BlkV W4 K12 31 #[.int .i64 MA.fr, .int .i64 MA.to, .int .i64 MA.kd, .slice an3 MA.nums.length cn3, .slice ad3 MA.data.length cd3] := by rw [hW4, hK12]; exact BlkV.new w3 _ _
          have hm4 : MsD (grew D W2 W4) W4 MA an3 cn3 ad3 cd3 := (hm3.kept hbA).mono fun x hx => .inr ⟨hx.1, by have := hbA.size; omega⟩
          have hP84 := HP8.out.below hb4
          have HN4 := Lib.hid (HN2.out.kept hb4)
          have hK8b : K8 < K12 := by have := HP8.out.lt; have := hb3.size; omega
          have hD12 : (grew D W2 W4) K12 := .inr ⟨by have := hb3.size; omega, hP12.lt⟩
          have hD8 : (grew D W2 W4) K8 := .inl HD8.out
          obtain ⟨D4, hD4⟩ : ∃ D4, D4 = grew D W2 W4 := ⟨_, rfl⟩
          rw [← hD4] at hm4 HN4 hD12 hD8
          rw [← HNA.out, ← HDA.out] at hP12
          have HD12 := Lib.hid hD12
          have HD84 := Lib.hid hD8
          have HM4 := Lib.hid hm4
          have HP12 := Lib.hid hP12
          have HP84 := Lib.hid hP84
          have HW4 := Lib.hid hW4
          have HK12 := Lib.hid hK12
          have HK8B := Lib.hid hK8b
          clear hb3 hm3 hx3 hb4 hbA hP12 hm4 hP84 hD12 hD8 hD4 hW4 hK12 hK8b p0 p1 p2 p3 p4 p5 p6
          go_upto_region 28 with (fail)
          rw [← HW4.out, ← HK12.out, ← HNA.out, ← HDA.out]
          have p1 := HP84.out.cell 1
          simp only [List.getElem?_toArray, List.getElem?_cons_succ, List.getElem?_cons_zero] at p1
          go_wp2_with fail
          refine (HATW.out W4 D4 HN4.out).mono ?_
          rintro e w5 ⟨x5, rfl, hx5, hb5⟩
          obtain ⟨an5, cn5, ad5, cd5, rfl, hm5⟩ := MsD.of (D := fun k => W4.heap.size ≤ k ∧ k < w5.heap.size) hx5 fun k h1 h2 => ⟨h1, h2⟩
          obtain ⟨K14, hK14⟩ : ∃ K14, K14 = w5.heap.size := ⟨_, rfl⟩
          obtain ⟨W6, hW6⟩ : ∃ W6, W6 = w5.alloc (.cells #[.int .i64 MA.fr, .int .i64 MA.to, .int .i64 MA.kd, .slice an5 MA.nums.length cn5, .slice ad5 MA.data.length cd5] 31) := ⟨_, rfl⟩
          have hbA : Below w5.heap.size w5 W6 := by rw [hW6]; exact (Below.refl _ _).alloc (Nat.le_refl _) _
          have hb6 : Below W4.heap.size W4 W6 := hb5.trans (hbA.mono hb5.size)
          have hP14 : BlkV W6 K14 31 #[.int .i64 MA.fr, .int .i64 MA.to, .int .i64 MA.kd, .slice an5 MA.nums.length cn5, .slice ad5 MA.data.length cd5] := by rw [hW6, hK14]; exact BlkV.new w5 _ _
          have hm6b : MsD (grew D4 W4 W6) W6 MA an5 cn5 ad5 cd5 := (hm5.kept hbA).mono fun x hx => .inr ⟨hx.1, by have := hbA.size; omega⟩
          have hm6a : MsD (grew D4 W4 W6) W6 MA an3 cn3 ad3 cd3 := (HM4.out.kept hb6).mono fun x hx => .inl hx
          have hP86 := HP84.out.below hb6
          have hP126 := HP12.out.below hb6
          have HN6 := Lib.hid (HN4.out.kept hb6)
          have hK14b : K12 < K14 := by have := HP12.out.lt; have := hb5.size; omega
          have hD14 : (grew D4 W4 W6) K14 := .inr ⟨by have := hb5.size; omega, hP14.lt⟩
          have hD12 : (grew D4 W4 W6) K12 := .inl HD12.out
          have hD8 : (grew D4 W4 W6) K8 := .inl HD84.out
          obtain ⟨D6, hD6⟩ : ∃ D6, D6 = grew D4 W4 W6 := ⟨_, rfl⟩
          rw [← hD6] at hm6a hm6b HN6 hD12 hD14 hD8
          rw [← HNA.out, ← HDA.out] at hP14
          clear HD12 HD84 HM4 HP12 HP84 HN4
          have HD12 := Lib.hid hD12
          have HD14 := Lib.hid hD14
          have HD86 := Lib.hid hD8
          have HMa := Lib.hid hm6a
          have HMb := Lib.hid hm6b
          have HP12 := Lib.hid hP126
          have HP14 := Lib.hid hP14
          have HP86 := Lib.hid hP86
          have HW6 := Lib.hid hW6
          have HK14 := Lib.hid hK14
          have HK14B := Lib.hid hK14b
          clear hb5 hm5 hx5 hb6 hbA hP14 hm6a hm6b hP86 hP126 hD12 hD14 hD8 hD6 hW6 hK14 hK14b p1 HW4 HK12
          go_upto_region 29 with (fail)
          rw [← HW6.out, ← HK14.out, ← HNA.out, ← HDA.out]
          clear HW6 HK14
          have p0 := HP86.out.cell 0
          simp only [List.getElem?_toArray, List.getElem?_cons_zero] at p0
          have htk := take_f W6 Fn gn L HN6.out.n hL.out.1 hL.out.2 ix
          have htkW := fun (W : World) (D' : Nat → Prop) (h : Nets w W Fn Fw D' gn gw (takeL L ix) L) => refTake_f W Fw gw L h.r hL.out.1 hL.out.2 ix
          unfold TakeF at htk
          unfold RefTakeP at htkW
          rw [← HMA.out, ← HIS.out] at htk
          simp only [← HMA.out] at htkW
          simp only [← HIS.out] at htkW
          have HTK := Lib.hid htk
          have HTKW := Lib.hid htkW
          have p1 := HP86.out.cell 1
          simp only [List.getElem?_toArray, List.getElem?_cons_succ, List.getElem?_cons_zero] at p1
          clear htk htkW HAT HATW
          go_wp2_with fail
          refine HTK.out.mono ?_
          rintro e w7 ⟨x7, rfl, hx7, hI7, ho7⟩
          have hN7 := HN6.out.opN2 (D' := plusD D6 W6 w7 Fn) hI7 ho7 (fun x hx => .inl hx) (fun x hx => hx)
          obtain ⟨an7, cn7, ad7, cd7, rfl, hm7⟩ := MsD.of (D := plusD D6 W6 w7 Fn) hx7 fun k h1 h2 => .inr ⟨h1, h2, fun hf => by have := HN6.out.n.lt k hf; omega⟩
          have hP12 := HN6.out.blkN HP12.out HD12.out ho7
          have hP14 := HN6.out.blkN HP14.out HD14.out ho7
          have hP8 := HN6.out.blkN HP86.out HD86.out ho7
          rw [← HNA.out, ← HDA.out]
          obtain ⟨D7, hD7⟩ : ∃ D7, D7 = plusD D6 W6 w7 Fn := ⟨_, rfl⟩
          have hD12 : plusD D6 W6 w7 Fn K12 := .inl HD12.out
          have hD14 : plusD D6 W6 w7 Fn K14 := .inl HD14.out
          have hD8 : plusD D6 W6 w7 Fn K8 := .inl HD86.out
          rw [← hD7] at hN7 hm7 hD12 hD14 hD8
          clear HD12 HD14 HD86 HMa HMb HP12 HP14 HP86 p0 p1 hx7 hI7 ho7 hD7 HTK HN6
          go_wp2_with (with_reducible refine At.store 31 (.tmp 12) (.tmp 130) ?_)
          refine At.out (wpList_storeV rfl _ rfl (.tmp 12) (.tmp 130) rfl strM K12 _ #[.int .i64 MA.fr, .int .i64 MA.to, .int .i64 MA.kd, .slice an7 na cn7, .slice ad7 da cd7] rfl rfl hP12 rfl rfl (by simp [Value.oneCell']) ?_)
          intro w8 hB8 hbel8 hoth8
          have ho8 : Off (· = K12) w7 w8 := Off.ofOne (hbel8 0 w7 (Below.refl _ _) (Nat.zero_le _)) hoth8 rfl
          have hN8 := hN7.offD ho8 (fun x hx => by rw [hx]; exact hD12)
          have hm8 := hm7.same hP12 (by decide) (by decide) hoth8
          have hK8B := HK8B.out
          have hK14B := HK14B.out
          have hP14 := hP14.off ho8 (by omega)
          have hP8 := hP8.off ho8 (by omega)
          have HN8 := Lib.hid hN8
          have HMa := Lib.hid hm8
          have HP12 := Lib.hid hB8
          have HP14 := Lib.hid hP14
          have HD12 := Lib.hid hD12
          have HD14 := Lib.hid hD14
          have HD8' := Lib.hid hD8
          have p1 := hP8.cell 1
          simp only [List.getElem?_toArray, List.getElem?_cons_succ, List.getElem?_cons_zero] at p1
          clear hN7 hm7 hP12 hP8 hB8 hbel8 hoth8 ho8 hN8 hm8 hP14 hD12 hD14 hD8 hK8B hK14B
          go_upto_region 31 with (fail)
          go_wp2_with fail
          refine (HTKW.out w8 D7 HN8.out).mono ?_
          rintro e w9 ⟨x9, Q, rfl, hx9, hI9, hQ9, ho9⟩
          have hN9 := HN8.out.opW2 (D' := plusD D7 w8 w9 (fun k => Fw k ∨ Q k)) hI9 ho9 (fun x hx => hx.elim .inl fun h => .inr (hQ9 x h).1) (fun x hx => hx)
          obtain ⟨an9, cn9, ad9, cd9, rfl, hm9⟩ := MsD.ofT (D := plusD D7 w8 w9 (fun k => Fw k ∨ Q k)) hx9 fun k cs t fr h1 h2 hh ht => .inr ⟨h1, h2, fun hf => hf.elim (fun h => by have := HN8.out.r.lt k h; omega) fun h => by
            obtain ⟨cs', fr', hh'⟩ := (hQ9 k h).2
            rw [hh] at hh'
            cases hh'
            exact ht rfl⟩
          have hP12 := HN8.out.blkW HP12.out HD12.out ho9
          have hP14 := HN8.out.blkW HP14.out HD14.out ho9
          have hma := (HMa.out.off ho9 HN8.out.dw).mono (E := plusD D7 w8 w9 (fun k => Fw k ∨ Q k)) fun x hx => .inl hx
          rw [← HNA.out, ← HDA.out]
          obtain ⟨D9, hD9⟩ : ∃ D9, D9 = plusD D7 w8 w9 (fun k => Fw k ∨ Q k) := ⟨_, rfl⟩
          have hD14 : plusD D7 w8 w9 (fun k => Fw k ∨ Q k) K14 := .inl HD14.out
          rw [← hD9] at hN9 hm9 hma hD14
          clear HD12 HD14 HD8' HMa HP12 HP14 p1 hx9 hI9 ho9 hD9 HTKW HN8 hQ9
          go_wp2_with (with_reducible refine At.store 31 (.tmp 14) (.tmp 137) ?_)
          refine At.out (wpList_storeV rfl _ rfl (.tmp 14) (.tmp 137) rfl strM K14 _ #[.int .i64 MA.fr, .int .i64 MA.to, .int .i64 MA.kd, .slice an9 na cn9, .slice ad9 da cd9] rfl rfl hP14 rfl rfl (by simp [Value.oneCell']) ?_)
          intro w10 hB10 hbel10 hoth10
          have ho10 : Off (· = K14) w9 w10 := Off.ofOne (hbel10 0 w9 (Below.refl _ _) (Nat.zero_le _)) hoth10 rfl
          have hN10 := hN9.offD ho10 (fun x hx => by rw [hx]; exact hD14)
          have hK14B := HK14B.out
          have HN10 := Lib.hid hN10
          have HMa := Lib.hid (hma.same hP14 (by decide) (by decide) hoth10)
          have HMb := Lib.hid (hm9.same hP14 (by decide) (by decide) hoth10)
          have HP12 := Lib.hid (hP12.off ho10 (by omega))
          have HP14 := Lib.hid hB10
          clear hN9 hm9 hma hP12 hP14 hB10 hbel10 hoth10 ho10 hN10 hD14 hK14B
          go_upto_region 32 with (fail)
          have y0 := HP12.out.cell 0
          have y1 := HP12.out.cell 1
          have y2 := HP12.out.cell 2
          have y3 := HP12.out.cell 3
          have y4 := HP12.out.cell 4
          have z0 := HP14.out.cell 0
          have z1 := HP14.out.cell 1
          have z2 := HP14.out.cell 2
          have z3 := HP14.out.cell 3
          have z4 := HP14.out.cell 4
          simp only [List.getElem?_toArray, List.getElem?_cons_succ, List.getElem?_cons_zero] at y0 y1 y2 y3 y4 z0 z1 z2 z3 z4
          have hmt := messages_true w10 MA.fr MA.to MA.kd an7 an9 cn7 cn9 na MA.nums ad7 ad9 cd7 cd9 da MA.data HNA.out HDA.out (Rd.ofD HMa.out.1) (Rd.ofD HMb.out.1) (Rd.ofD HMa.out.2.1) (Rd.ofD HMb.out.2.1)
          have HMT := Lib.hid hmt
          clear hmt
          go_wp2_with fail
          refine HMT.out.mono ?_
          rintro e w11 ⟨rfl, hb11⟩
          have hN11 := HN10.out.offD (G := fun _ => False) (Off.ofBelow hb11) fun _ h => h.elim
          have hP11 := HP12.out.below hb11
          have hM11 := HMa.out.kept hb11
          have x4 := hP11.cell 4
          simp only [List.getElem?_toArray, List.getElem?_cons_succ, List.getElem?_cons_zero] at x4
          have hsp := spoil_f w11 _ _ _ hM11.2.1 HMOK.out.2
          rw [← HDA.out] at hsp
          have HSP := Lib.hid hsp
          clear hsp y0 y1 y2 y3 y4 z0 z1 z2 z3 z4 hP11
          go_wp2_with fail
          refine HSP.out.mono ?_
          rintro e w12 ⟨rfl, ho12⟩
          have hN12 := hN11.offD ho12 (fun x hx => hM11.2.2.2 x (by rw [← HDA.out]; exact hx))
          have HN12 := Lib.hid hN12
          clear hN11 hM11 hb11 ho12 hN12 x4 HSP HMT
          obtain ⟨LL, hLL⟩ : ∃ LL, LL = takeL L ix := ⟨_, rfl⟩
          have HO7 := Lib.hid (hL.out.take ix)
          rw [← hLL] at HN12 HO7
          clear hLL
          obtain ⟨ta, tc, txs, tb1, _, _⟩ := HN12.out.r.len0
          have t0 := tb1.cell 0
          have tz := tb1.lt
          simp only [List.getElem?_toArray, List.getElem?_cons_zero] at t0
          have hlq : ∀ q, Calls Try.prog 9 #[.pointer (some ⟨gn, 0, none⟩)] (w12.drewN q) fun e w' => e = .returned (.int .i64 (LL.length : Int)) ∧ ∃ m, w' = w12.drewN m := fun q => by
            refine (len_any (w12.drewN q) 0 gn LL (HN12.out.n.kept (below_drewN (Below.refl _ _) q)).toI).mono ?_
            rintro e w' ⟨rfl, rfl⟩
            exact ⟨rfl, q, rfl⟩
          obtain ⟨tn, htn⟩ : ∃ tn, tn = (LL).length := ⟨_, rfl⟩
          rw [← htn] at t0
          simp only [← htn] at hlq
          have HLQ := Lib.hid hlq
          have hne : ((tn : Int) != (tn : Int)) = false := by simp
          clear hlq tb1 htn
          go_wp2
          go_quiet ((go_at_call 9; exact HLQ.out _))
          go_wp2
          go_roundw
          case rel => exact ⟨k + 1, LL, Fn, _, by omega, by omega, by go_num, (HN12.out.kept (below_drewN (Below.refl _ _) _)).forget, HO7⟩
          case measure => simp [intOf]; omega
        have e3 : (kd == 3) = false := by simpa using hk3
        clear hk3
        by_cases hk4 : kd = 4
        · have e4 : (kd == 4) = true := by simpa using hk4
          clear hk4
          go_upto_region 35 with (fail)
          obtain ⟨LL, hLL⟩ : ∃ LL, LL = twiceL L ix := ⟨_, rfl⟩
          obtain ⟨rb, hrb⟩ : ∃ rb, rb = twiceB L ix := ⟨_, rfl⟩
          have hsN := twice_f W2.drew Fn gn L (HN2.out.n.kept (Below.refl _ _).drew) hL.out.1 hL.out.2 ix
          have hsW := fun (W : World) (h : Nets w W (grew Fn W2.drew W) Fw D gn gw LL L) => refTwice_f W Fw gw L h.r hL.out.1 hL.out.2 ix
          rw [← hrb, ← hLL] at hsN
          simp only [← hrb] at hsW
          simp only [← hLL] at hsW
          have HO7 := Lib.hid (hL.out.twice ix)
          rw [← hLL] at HO7
          have HSN := Lib.hid hsN
          have HSW := Lib.hid hsW
          have hrr : (rb == rb) = true := by simp
          clear hsN hsW hrb hLL
          go_region_law (first
            | ((with_reducible refine StepAt 155 ?_); (refine At.out ?_); go_simp; go_at_call 8; refine (HSN.out).mono ?_; rintro e w5 ⟨rfl, hI5, ho5⟩
               (have HN5 := Nets.opN HN2.out.drew hI5 ho5); (have P85 := Nets.blkN HN2.out.drew (BlkV.below HP8.out (Below.refl _ _).drew) HD8.out ho5);
               (have r1 := P85.cell 1);
               (simp only [List.getElem?_toArray, List.getElem?_cons_succ, List.getElem?_cons_zero] at r1))
            | ((with_reducible refine StepAt 159 ?_); (refine At.out ?_); go_simp; go_at_call 18; refine (HSW.out _ HN5).mono ?_; rintro e w6 ⟨rfl, hI6, ho6⟩))
          all_goals
            have HN6 := Lib.hid (HN5.opW hI6 ho6)
            clear HN5 P85 hI5 ho5 hI6 ho6 r1 HSN HSW p0 p1 p2 p3 p4 p5 p6
            obtain ⟨ta, tc, txs, tb1, _, _⟩ := HN6.out.r.len0
            have t0 := tb1.cell 0
            have tz := tb1.lt
            simp only [List.getElem?_toArray, List.getElem?_cons_zero] at t0
            have hlq : ∀ q, Calls Try.prog 9 #[.pointer (some ⟨gn, 0, none⟩)] (w6.drewN q) fun e w' => e = .returned (.int .i64 (LL.length : Int)) ∧ ∃ m, w' = w6.drewN m := fun q => by
              refine (len_any (w6.drewN q) 0 gn LL (HN6.out.n.kept (below_drewN (Below.refl _ _) q)).toI).mono ?_
              rintro e w' ⟨rfl, rfl⟩
              exact ⟨rfl, q, rfl⟩
            obtain ⟨tn, htn⟩ : ∃ tn, tn = (LL).length := ⟨_, rfl⟩
            rw [← htn] at t0
            simp only [← htn] at hlq
            have HLQ := Lib.hid hlq
            have hne : ((tn : Int) != (tn : Int)) = false := by simp
            clear hlq tb1 htn
            go_wp2
            go_quiet ((go_at_call 9; exact HLQ.out _))
            go_wp2
            go_roundw
            case rel => exact ⟨k + 1, LL, _, _, by omega, by omega, by go_num, (HN6.out.kept (below_drewN (Below.refl _ _) _)).forget, HO7⟩
            case measure => simp [intOf]; omega
        have e4 : (kd == 4) = false := by simpa using hk4
        clear hk4
        go_upto_region 16 with (fail)
        obtain ⟨LL, hLL⟩ : ∃ LL, LL = dropL L ix := ⟨_, rfl⟩
        obtain ⟨rb, hrb⟩ : ∃ rb, rb = (L.length : Int) - ((dropL L ix).length : Int) := ⟨_, rfl⟩
        have hsN := drop_f W2.drew Fn gn L (HN2.out.n.kept (Below.refl _ _).drew) hL.out.1 ix
        have hsW := fun (W : World) (h : Nets w W (grew Fn W2.drew W) Fw D gn gw LL L) => refDrop_f W Fw gw L h.r hL.out.1 ix
        unfold DropP at hsN hsW
        rw [← hrb, ← hLL] at hsN
        simp only [← hrb] at hsW
        simp only [← hLL] at hsW
        have HO7 := Lib.hid (hL.out.drop ix)
        rw [← hLL] at HO7
        have HSN := Lib.hid hsN
        have HSW := Lib.hid hsW
        have hrr : (rb == rb) = true := by simp
        clear hsN hsW hrb hLL
        go_region_law (first
          | ((with_reducible refine StepAt 72 ?_); (refine At.out ?_); go_simp; go_at_call 19; refine (HSN.out).mono ?_; rintro e w5 ⟨rfl, hI5, ho5⟩
             (have HN5 := Nets.opN HN2.out.drew hI5 ho5); (have P85 := Nets.blkN HN2.out.drew (BlkV.below HP8.out (Below.refl _ _).drew) HD8.out ho5);
             (have r1 := P85.cell 1);
             (simp only [List.getElem?_toArray, List.getElem?_cons_succ, List.getElem?_cons_zero] at r1))
          | ((with_reducible refine StepAt 76 ?_); (refine At.out ?_); go_simp; go_at_call 20; refine (HSW.out _ HN5).mono ?_; rintro e w6 ⟨rfl, hI6, ho6⟩))
        all_goals
          have HN6 := Lib.hid (HN5.opW hI6 ho6)
          clear HN5 P85 hI5 ho5 hI6 ho6 r1 HSN HSW p0 p1 p2 p3 p4 p5 p6
          obtain ⟨ta, tc, txs, tb1, _, _⟩ := HN6.out.r.len0
          have t0 := tb1.cell 0
          have tz := tb1.lt
          simp only [List.getElem?_toArray, List.getElem?_cons_zero] at t0
          have hlq : ∀ q, Calls Try.prog 9 #[.pointer (some ⟨gn, 0, none⟩)] (w6.drewN q) fun e w' => e = .returned (.int .i64 (LL.length : Int)) ∧ ∃ m, w' = w6.drewN m := fun q => by
            refine (len_any (w6.drewN q) 0 gn LL (HN6.out.n.kept (below_drewN (Below.refl _ _) q)).toI).mono ?_
            rintro e w' ⟨rfl, rfl⟩
            exact ⟨rfl, q, rfl⟩
          obtain ⟨tn, htn⟩ : ∃ tn, tn = (LL).length := ⟨_, rfl⟩
          rw [← htn] at t0
          simp only [← htn] at hlq
          have HLQ := Lib.hid hlq
          have hne : ((tn : Int) != (tn : Int)) = false := by simp
          clear hlq tb1 htn
          go_wp2
          go_quiet ((go_at_call 9; exact HLQ.out _))
          go_wp2
          go_roundw
          case rel => exact ⟨k + 1, LL, _, _, by omega, by omega, by go_num, (HN6.out.kept (below_drewN (Below.refl _ _) _)).forget, HO7⟩
          case measure => simp [intOf]; omega
end Go.Proofs.Ytoagneajlfglcaa
