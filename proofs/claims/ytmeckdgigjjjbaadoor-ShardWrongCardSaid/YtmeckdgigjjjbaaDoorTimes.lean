/- shard's times and Sums: the contracts. Conditions: each contract's own premises. -/
import Derived.Test.YtmeckdgigjjjbaaDoorShardL
import Derived.Test.YtmeckdgigjjjbaaDoorKp
namespace Go.Proofs.YtmeckdgigjjjbaaDoor
open Go Go.RowKit

/-- L[k:] -/
theorem RdLL.drop {w : World} {a : Option Addr} {c : Nat} {L : List (List UInt8)} (h : RdLL w a c L) (k : Nat) (hk : k ≤ L.length) : RdLL w (partA a c k) (c - k) (L.drop k) := by
  obtain ⟨vs, h1, h2, h3⟩ := h
  refine ⟨vs.drop k, sub_drop a c vs k (by omega) w h1, by simp [h2], fun i l hl => ?_⟩
  rw [List.getElem?_drop] at hl
  obtain ⟨ad, cd, hu, hr⟩ := h3 (k + i) l hl
  exact ⟨ad, cd, by rw [List.getElem?_drop]; exact hu, hr⟩

set_option maxRecDepth 100000 in
set_option maxHeartbeats 4000000 in
theorem times_any (w : World) (a1 a2 : Option Addr) (c1 c2 : Nat) (C D : Mx) (h1 : RdLL w a1 c1 C) (h2 : RdLL w a2 c2 D) (hC : C.length ≤ 1000) (hCr : ∀ r ∈ C, r.length = D.length) (hD1 : 1 ≤ D.length) (hD2 : D.length ≤ 1000) (hDr : ∀ r ∈ D, r.length = wid D) (hn : wid D ≤ 1000000) :
    Calls Tryd.prog 26 #[.slice a1 C.length c1, .slice a2 D.length c2] w fun e w' => ∃ v, e = .returned v ∧ OwnLL w' w.heap.size 34 5 v (timesL C D) ∧ Below w.heap.size w w' := by
  have hw0 := wid_at (D := D) (by omega)
  obtain ⟨b1, o1, ad1, cd1, rfl, hc1, hr1⟩ := h2.cell 0 (by omega)
  rw [← hw0] at hc1
  simp only [Nat.add_zero] at hc1
  have hlt1 : b1 < w.heap.size := World.block_lt_of_cell? w _ hc1
  obtain ⟨n, hnn⟩ : ∃ n, n = wid D := ⟨_, rfl⟩
  rw [← hnn] at hc1 hn hDr
  have HNN := Lib.hid hnn
  have HCr := Lib.hid hCr
  have HDr := Lib.hid hDr
  have HC1 := Lib.hid hc1
  obtain ⟨G, hG⟩ : ∃ G, G = w.heap.size := ⟨_, rfl⟩
  have hGs0 : G ≤ w.heap.size := by omega
  have HG := Lib.hid hG
  have hDi : (1 : Int) ≤ (D.length : Int) := by omega
  rw [← hG]
  clear hr1 hw0 hnn hCr hDr hc1 hG
  go_enter Tryd.func26, Tryd.ntmps26
  go_wp2
  go_loopw [5, 13] (fun s5 s13 wr => ∃ (i : Nat), i ≤ C.length ∧ s13 = .int .i64 i ∧ OwnLL wr G 34 5 s5 (timesL (C.take i) D) ∧ Below G w wr) (fun _ s13 _ => C.length - (intOf s13).toNat)
  case atStart => exact ⟨0, by omega, rfl, OwnLL.nil _ _ _ _, Below.refl _ _⟩
  case round =>
    obtain ⟨i, hi, rfl, hO, hb⟩ := hrel
    have hGs : G ≤ wr.heap.size := Nat.le_trans hGs0 hb.size
    by_cases hlti : i < C.length
    · have hii : (i : Int) < (C.length : Int) := by omega
      obtain ⟨b0, o0, ad0, cd0, rfl, hc0, hr0⟩ := (h1.kept (HG.out ▸ hb : Below w.heap.size w wr)).cell i hlti
      have hcl := HCr.out (C[i]) (List.getElem_mem _)
      rw [hcl] at hc0
      have hc1 := (hb.cell (p := ⟨b1, o1, none⟩) (by have := HG.out; simp; omega)).trans HC1.out
      have hlt1r : b1 < wr.heap.size := World.block_lt_of_cell? wr _ hc1
      obtain ⟨cr, hcr⟩ : ∃ cr, cr = C[i] := ⟨_, rfl⟩
      rw [← hcr] at hr0 hcl
      have HCR := Lib.hid hcr
      clear hcr
      go_wp2_with (with_reducible refine At.slot 21 ?_)
      refine At.out (wpList_make8 rfl (.tmp 20) (.tmp 20) 34 rfl elemB .i64 .i64 (n : Int) (n : Int) n rfl rfl rfl rfl (by omega) ?_)
      intro w2 ho2 hb2
      obtain ⟨wo, hwo⟩ : ∃ wo : World, wo = wr := ⟨_, rfl⟩
      obtain ⟨gb, hgb⟩ : ∃ gb, gb = wr.heap.size := ⟨_, rfl⟩
      rw [← hgb] at ho2 hb2 hGs ⊢
      rw [← hwo] at hO hb hb2 hr0
      have HWO := Lib.hid (show gb = wo.heap.size by rw [hwo]; exact hgb)
      clear hwo hgb hc0 hc1 hlt1r
      rw [← blendK_zero cr D n] at ho2
      go_wp2
      go_loopw [8, 24] (fun s8 s24 wr => ∃ (j g : Nat), j ≤ D.length ∧ s24 = .int .i64 j ∧ s8 = .slice (some ⟨g, 0, none⟩) n n ∧ wr.ownsRow gb 5 1 (.slice (some ⟨g, 0, none⟩) n n) n (B8 (blendK cr D n j)) ∧ Below gb wo wr) (fun _ s24 _ => D.length - (intOf s24).toNat)
      case atStart => exact ⟨0, gb, by omega, rfl, rfl, ho2, hb2⟩
      case round =>
        clear ho2 hb2
        obtain ⟨j, g, hj, rfl, rfl, hor, hb3⟩ := hrel
        have hbw : Below G w wr := hb.trans (hb3.mono hGs)
        have hbo : Below wo.heap.size wo wr := HWO.out ▸ hb3
        have hgs : gb ≤ wr.heap.size := by have := hb3.size; have := HWO.out; omega
        by_cases hltj : j < D.length
        · have hji : (j : Int) < (D.length : Int) := by omega
          obtain ⟨b2, o2, he2, hc2⟩ := (hr0.kept hbo).cs.b8 j (by omega)
          obtain ⟨b3, o3, ad3, cd3, he3, hc3, hr3⟩ := (h2.kept (HG.out ▸ hbw : Below w.heap.size w wr)).cell j hltj
          simp only [Option.some.injEq, Addr.mk.injEq, and_true] at he3
          obtain ⟨rfl, rfl⟩ := he3
          subst he2
          have hdl := HDr.out (D[j]) (List.getElem_mem _)
          obtain ⟨x, hx⟩ : ∃ x, x = cr[j]'(by omega) := ⟨_, rfl⟩
          rw [← hx] at hc2
          have hxd : cr.getD j 0 = x := by rw [List.getD_eq_getElem?_getD, List.getElem?_eq_getElem (by omega), hx]; rfl
          have hsc : Calls Tryd.prog 39 #[.slice ad3 n cd3, .int .u8 x.toNat] wr fun e w' => ∃ g, e = .returned (.slice (some ⟨g, 0, none⟩) n n) ∧ w'.ownsRow wr.heap.size 5 1 (.slice (some ⟨g, 0, none⟩) n n) n (B8 ((D[j]).map (gm · x))) ∧ Below wr.heap.size wr w' := by
            have := scale_any wr ad3 cd3 (D[j]) x hr3 (by omega)
            rw [hdl] at this
            exact this
          rw [hdl] at hc3
          have hbs := blendK_succ cr D n j hltj hdl
          rw [hxd] at hbs
          have hadd : ∀ (W : World) (g1 g2 : Nat), W.ownsRow gb 5 1 (.slice (some ⟨g1, 0, none⟩) n n) n (B8 (blendK cr D n j)) → W.ownsRow wr.heap.size 5 1 (.slice (some ⟨g2, 0, none⟩) n n) n (B8 ((D[j]).map (gm · x))) → Calls Tryd.prog 38 #[.slice (some ⟨g1, 0, none⟩) n n, .slice (some ⟨g2, 0, none⟩) n n] W fun e w' => ∃ g, e = .returned (.tuple #[.slice (some ⟨g, 0, none⟩) n n, .int .i64 0]) ∧
              w'.ownsRow W.heap.size 5 1 (.slice (some ⟨g, 0, none⟩) n n) n (B8 (blendK cr D n (j + 1))) ∧ Below W.heap.size W w' := by
            intro W g1 g2 ho1 ho2
            have := add_same W (some ⟨g1, 0, none⟩) (some ⟨g2, 0, none⟩) n n (blendK cr D n j) ((D[j]).map (gm · x)) (by rw [blendK_length, List.length_map, hdl]) (own_rd ho1) (own_rd ho2) (by rw [blendK_length]; omega)
            rw [hbs, blendK_length, List.length_map, hdl] at this
            exact this
          have HSc := Lib.hid hsc
          have HAdd := Lib.hid hadd
          have hlt2 : b2 < wr.heap.size := World.block_lt_of_cell? wr _ hc2
          have hlt3 : b1 < wr.heap.size := World.block_lt_of_cell? wr _ hc3
          clear hdl hx hxd hsc hbs hadd hr3
          go_wp2_with fail
          refine HSc.out.mono ?_
          rintro e w3 ⟨g3, rfl, ho3, hb4⟩
          have hor3 := own_below hor hb4
          go_wp2_with fail
          refine (HAdd.out w3 g g3 hor3 ho3).mono ?_
          rintro e w4 ⟨g4, rfl, ho4, hb5⟩
          have hgs3 : gb ≤ w3.heap.size := Nat.le_trans hgs hb4.size
          have ho5 := own_base ho4 hgs3
          have hb6 : Below gb wo w4 := (hb3.trans (hb4.mono hgs)).trans (hb5.mono hgs3)
          clear hor hor3 ho3 ho4 hb4 hb5 HSc HAdd
          go_wp2
          go_roundw
          case rel => exact ⟨j + 1, g4, by omega, by go_num, rfl, ho5, hb6⟩
          case measure => simp [intOf]; omega
        · obtain rfl : j = D.length := by omega
          have hlen : (timesL (C.take i) D).length = i := by rw [timesL_length, List.length_take]; omega
          have hbl : (blendL cr D).length = n := by rw [blendL_length]; exact HNN.out.symm
          have hnx := timesL_take C D i hlti
          rw [← HCR.out] at hnx
          have hOr := hO.kept hbo
          have hor' := own_base hor hGs
          have hGs2 : G ≤ wr.heap.size := Nat.le_trans hGs0 hbw.size
          have hor2 : wr.ownsRow G 5 1 (.slice (some ⟨g, 0, none⟩) n n) n (B8 (blendL cr D)) := by unfold blendL; rw [← HNN.out]; exact hor'
          have HLen := Lib.hid hlen
          have HBl := Lib.hid hbl
          have HNx := Lib.hid hnx
          clear hlen hbl hnx hO hor hor' hbo
          go_wp2_with (with_reducible refine At.slot 44 ?_)
          obtain ⟨vs, hv1, hv2⟩ := hOr.kept ((Below.refl wr.heap.size wr).alloc (Nat.le_refl _) (.cells #[.slice (some ⟨g, 0, none⟩) n n] 34))
          refine At.out (wpList_app rfl (.tmp 41) (.tmp 43) 22 rfl elemR rfl G _ i vs rfl (own_len hv1 HLen.out) _ 1 1 [.slice (some ⟨g, 0, none⟩) n n] rfl rfl (Rd.one _ _ _) (by intro u hu; rw [List.mem_singleton.1 hu]; rfl) (by unfold maxLen; omega) (by omega) (by simp; omega) ?_)
          intro v4 w4 hv3 hb4 hg4
          have hO4 := own_app (l := blendL cr D) hv1 hv2 (own_len (hor2.alloc _) HBl.out.symm) (by decide) (by rw [HLen.out]; exact hv3) hg4
          rw [← HNx.out] at hO4
          have hb5 : Below G w w4 := (hbw.alloc hGs2 _).trans hb4
          clear hv1 hv2 hv3 hOr hor2 hg4 hb4
          go_wp2
          go_roundw
          case rel => exact ⟨i + 1, by omega, by go_num, hO4, hb5⟩
          case measure => simp [intOf]; omega
    · obtain rfl : i = C.length := by omega
      rw [List.take_length] at hO
      go_wp2
      go_ret
      exact ⟨_, rfl, hO, hb⟩

set_option maxRecDepth 100000 in
set_option maxHeartbeats 2000000 in
theorem sums_any (w : World) (a : Option Addr) (c : Nat) (D : Mx) (m : Int) (hr : RdLL w a c D) (hm : -9223372036854775808 ≤ m ∧ m ≤ 9223372036854775807) (hD : D.length ≤ 1000000) (hDl : ∀ r ∈ D, r.length ≤ 1000000) :
    Calls Tryd.prog 13 #[.slice a D.length c, .int .i64 m] w (MxP w (sumsR D m)) := by
  have hcode := code_any w (D.length : Int) m (by omega) hm
  unfold sumsR
  unfold codeR at hcode
  cases hB : codeBad D.length m with
  | true =>
    rw [hB, if_pos rfl] at hcode
    rw [if_pos rfl]
    have HC := Lib.hid hcode
    clear hcode hB hm
    go_enter Tryd.func13, Tryd.ntmps13
    go_wp2_with fail
    refine HC.out.mono ?_
    intro e w1 h
    obtain ⟨a1, c1, rfl, _, hb1⟩ := MxP.rd h
    clear h
    go_wp2
    go_ret2
    exact MxP.no 1 hb1
  | false =>
    rw [hB, if_neg (by simp)] at hcode
    rw [if_neg (by simp)]
    have hk := of_decide_eq_false hB
    obtain ⟨k, hk'⟩ : ∃ k, k = D.length := ⟨_, rfl⟩
    obtain ⟨p, rfl⟩ : ∃ p : Nat, m = (p : Int) := ⟨m.toNat, by omega⟩
    have hk1 : 1 ≤ D.length := by omega
    have hk2 : D.length + p ≤ 14 := by omega
    simp only [Int.toNat_natCast] at hcode ⊢
    have hw0 := wid_at (D := D) (by omega)
    obtain ⟨b0, o0, ad0, cd0, rfl, hc0, hr0⟩ := hr.cell 0 (by omega)
    rw [← hw0] at hc0
    simp only [Nat.add_zero] at hc0
    have hle0 : wid D ≤ 1000000 := by rw [hw0]; exact hDl _ (List.getElem_mem _)
    have hlt0 : b0 < w.heap.size := World.block_lt_of_cell? w _ hc0
    obtain ⟨n, hnn⟩ : ∃ n, n = wid D := ⟨_, rfl⟩
    rw [← hnn] at hc0 hle0
    obtain ⟨r, hres⟩ : ∃ r, r = allN D := ⟨_, rfl⟩
    rw [← hres]
    have HNN := Lib.hid hnn
    have HR := Lib.hid hres
    have HDl := Lib.hid hDl
    have HC := Lib.hid hcode
    have HC0 := Lib.hid hc0
    have hDi : (1 : Int) ≤ (D.length : Int) := by omega
    have hDi2 : (D.length : Int) ≤ 14 := by omega
    have hcl := codeL_length D.length p
    have HCL := Lib.hid hcl
    have hlen0 : n ≤ 9223372036854775807 := by omega
    clear hB hk hk' hr0 hw0 hnn hres hDl hcode hcl hc0 hm
    obtain ⟨X, hX⟩ : ∃ X : Mx × Nat, X = if r = true then (timesL ((List.range p).map (codeRow D.length)) D, 0) else ([], 1) := ⟨_, rfl⟩
    rw [← hX]
    have HX := Lib.hid hX
    clear hX
    go_enter Tryd.func13, Tryd.ntmps13
    go_wp2_with fail
    refine HC.out.mono ?_
    clear HC
    intro e w1 h
    obtain ⟨a1, c1, rfl, hr1, hb1⟩ := MxP.rd h
    rw [show ((codeL D.length p, 0) : Mx × Nat).1.length = D.length + p from HCL.out]
    clear h
    have hc0 := (hb1.cell (p := ⟨b0, o0, none⟩) hlt0).trans HC0.out
    have hlt0' : b0 < w1.heap.size := by have := hb1.size; omega
    go_wp2
    go_loop [22] (fun s22 => ∃ j : Nat, j ≤ D.length ∧ s22 = .int .i64 j ∧ Hid (∀ q (hq : q < D.length), q < j → (D[q]).length ≠ 0 ∧ (D[q]).length = n)) (fun s22 => D.length - (intOf s22).toNat)
    case atStart => exact ⟨0, by omega, rfl, Lib.hid (fun q hq h => by omega)⟩
    case round =>
      obtain ⟨j, hj, rfl, HQ⟩ := hrel
      by_cases hlt : j < D.length
      · obtain ⟨b1, o1, ad1, cd1, he, hc1, hrr1⟩ := (hr.kept hb1).cell j hlt
        simp only [Option.some.injEq, Addr.mk.injEq, and_true] at he
        obtain ⟨rfl, rfl⟩ := he
        obtain ⟨l, hl⟩ : ∃ l, l = (D[j]).length := ⟨_, rfl⟩
        have hll : l ≤ 1000000 := by rw [hl]; exact HDl.out _ (List.getElem_mem _)
        rw [← hl] at hc1
        have HL := Lib.hid hl
        have hji : (j : Int) < (D.length : Int) := by omega
        clear hl hrr1
        by_cases hz : l = 0
        · have hf : Hid (r = false) := Lib.hid (by
            rw [HR.out]
            refine decide_eq_false (fun h => ?_)
            have := h (D[j]) (List.getElem_mem _)
            have := HL.out
            omega)
          subst hz
          go_wp2
          go_ret2
          rw [HX.out, hf.out]
          exact MxP.no 1 hb1
        · have hzi : ((l : Int) == 0) = false := by rw [beq_eq_false_iff_ne]; omega
          by_cases he : l = n
          · have hei : ((l : Int) != (n : Int)) = false := by rw [he]; simp
            have HQ' : Hid (∀ q (hq : q < D.length), q < j + 1 → (D[q]).length ≠ 0 ∧ (D[q]).length = n) := Lib.hid (fun q hq h => by
              by_cases hqj : q = j
              · subst hqj; have := HL.out; omega
              · exact HQ.out q hq (by omega))
            clear he hz
            go_wp2
            go_round
            case rel => exact ⟨j + 1, by omega, by go_num, HQ'⟩
            case measure => simp [intOf]; omega
          · have hei : ((l : Int) != (n : Int)) = true := by rw [bne_iff_ne]; omega
            have hf : Hid (r = false) := Lib.hid (by
              rw [HR.out]
              refine decide_eq_false (fun h => ?_)
              have := h (D[j]) (List.getElem_mem _)
              have := HL.out
              have := HNN.out
              omega)
            clear he hz
            go_wp2
            go_ret2
            rw [HX.out, hf.out]
            exact MxP.no 1 hb1
      · obtain rfl : j = D.length := by omega
        have hall : ∀ q ∈ D, q.length ≠ 0 ∧ q.length = n := by
          intro q hq
          obtain ⟨i, hi, rfl⟩ := List.mem_iff_getElem.1 hq
          exact HQ.out i hi hi
        have hf : Hid (r = true) := Lib.hid (by rw [HR.out, allN_iff, ← HNN.out]; exact hall)
        have htimes := times_any w1 (partA a1 c1 D.length) (some ⟨b0, o0, none⟩) (c1 - D.length) c ((codeL D.length p).drop D.length) D (hr1.drop D.length (by rw [HCL.out]; omega)) (hr.kept hb1)
          (by rw [codeL_drop]; simp; omega) (fun q hq => (codeL_dim D.length p).2 q (List.mem_of_mem_drop hq)) hk1 (by omega) (fun q hq => by rw [← HNN.out]; exact (hall q hq).2) (by rw [← HNN.out]; exact hle0)
        rw [show ((codeL D.length p).drop D.length).length = p by rw [List.length_drop, HCL.out]; omega, codeL_drop] at htimes
        have HT := Lib.hid htimes
        clear htimes hall
        go_wp2_with (with_reducible refine At.slot 42 ?_)
        refine At.out (wpList_plW rfl (.tmp 39) (.tmp 41) rfl elemR a1 (D.length + p) c1 rfl .i64 D.length rfl (by omega) ?_)
        rw [show D.length + p - D.length = p by omega]
        go_wp2_with fail
        refine HT.out.mono ?_
        rintro e w2 ⟨v2, rfl, hO2, hb2⟩
        have hb2' : Below w.heap.size w w2 := hb1.trans (hb2.mono hb1.size)
        have hO3 := hO2.base hb1.size
        obtain ⟨a2, c2, rfl, _⟩ := hO3.rd
        clear hO2
        go_wp2
        go_ret2
        rw [HX.out, hf.out]
        exact MxP.mk rfl hO3 hb2'
end Go.Proofs.YtmeckdgigjjjbaaDoor
