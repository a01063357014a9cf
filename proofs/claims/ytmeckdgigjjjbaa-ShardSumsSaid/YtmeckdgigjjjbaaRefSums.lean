/- The document's Sums: the contract. Conditions: its own premises. -/
import Derived.Test.YtmeckdgigjjjbaaRefCode
import Derived.Test.YtmeckdgigjjjbaaBlend
import Derived.Test.YtmeckdgigjjjbaaTimes
namespace Go.Proofs.Ytmeckdgigjjjbaa
open Go Go.RowKit

set_option maxRecDepth 100000 in
set_option maxHeartbeats 4000000 in
theorem refSums_any (w : World) (a : Option Addr) (c : Nat) (D : Mx) (m : Int) (hr : RdLL w a c D) (hD : D.length ≤ 1000000) (hDl : ∀ r ∈ D, r.length ≤ 1000000) :
    Calls Try.prog 7 #[.slice a D.length c, .int .i64 m] w (MxP w (sumsR D m)) := by
  have hcode := refCode_any w (D.length : Int) m
  unfold sumsR
  unfold codeR at hcode
  cases hB : codeBad D.length m with
  | true =>
    rw [hB, if_pos rfl] at hcode
    rw [if_pos rfl]
    have HC := Lib.hid hcode
    clear hcode hB
    go_enter Try.func7, Try.ntmps7
    go_wp2_with fail
    refine HC.out.mono ?_
    intro e w1 h
    obtain ⟨a1, c1, rfl, _, hb1⟩ := MxP.rd h
    clear h
    go_wp2
    go_ret2
    exact MxP.no 1 hb1
  | false =>
    rw [hB, if_neg (by simp)] at hcode
    rw [if_neg (by simp)]
    have hk := of_decide_eq_false hB
    obtain ⟨p, rfl⟩ : ∃ p : Nat, m = (p : Int) := ⟨m.toNat, by omega⟩
    have hk1 : 1 ≤ D.length := by omega
    have hk2 : D.length + p ≤ 14 := by omega
    simp only [Int.toNat_natCast] at hcode ⊢
    have hw0 := wid_at (D := D) (by omega)
    obtain ⟨b0, o0, ad0, cd0, rfl, hc0, hr0⟩ := hr.cell 0 (by omega)
    rw [← hw0] at hc0
    simp only [Nat.add_zero] at hc0
    have hle0 : wid D ≤ 1000000 := by rw [hw0]; exact hDl _ (List.getElem_mem _)
    have hlt0 : b0 < w.heap.size := World.block_lt_of_cell? w _ hc0
    obtain ⟨n, hnn⟩ : ∃ n, n = wid D := ⟨_, rfl⟩
    rw [← hnn] at hc0 hle0
    obtain ⟨r, hres⟩ : ∃ r, r = allN D := ⟨_, rfl⟩
    rw [← hres]
    have HNN := Lib.hid hnn
    have HR := Lib.hid hres
    have HDl := Lib.hid hDl
    have HC := Lib.hid hcode
    have HC0 := Lib.hid hc0
    have hDi : (1 : Int) ≤ (D.length : Int) := by omega
    have hD0 : (0 : Int) < (D.length : Int) := by omega
    have hDi2 : (D.length : Int) ≤ 14 := by omega
    have hkp : (D.length : Int) + (p : Int) ≤ 14 := by omega
    have hcl := codeL_length D.length p
    have HCL := Lib.hid hcl
    have hlen0 : n ≤ 9223372036854775807 := by omega
    obtain ⟨X, hX⟩ : ∃ X : Mx × Nat, X = if r = true then (timesL ((List.range p).map (codeRow D.length)) D, 0) else ([], 1) := ⟨_, rfl⟩
    rw [← hX]
    have HX := Lib.hid hX
    obtain ⟨G, hG⟩ : ∃ G, G = w.heap.size := ⟨_, rfl⟩
    have hGs0 : G ≤ w.heap.size := by omega
    have HG := Lib.hid hG
    clear hB hk hr0 hw0 hnn hres hDl hcode hcl hc0 hX hG
    go_enter Try.func7, Try.ntmps7
    go_wp2_with fail
    refine HC.out.mono ?_
    clear HC
    intro e w1 h
    obtain ⟨a1, c1, rfl, hr1, hb1⟩ := MxP.rd h
    rw [show ((codeL D.length p, 0) : Mx × Nat).1.length = D.length + p from HCL.out]
    rw [← HG.out] at hb1
    clear h
    go_wp2
    go_loopw [9] (fun s9 wr => ∃ j q : Nat, j ≤ D.length ∧ s9 = .int .i64 j ∧ wr = w1.drewN q ∧ Hid (∀ q (hq : q < D.length), q < j → (D[q]).length ≠ 0 ∧ (D[q]).length = n)) (fun s9 _ => D.length - (intOf s9).toNat)
    case atStart => exact ⟨0, 0, by omega, rfl, rfl, Lib.hid (fun q hq h => by omega)⟩
    case round =>
      obtain ⟨j, q, hj, rfl, rfl, HQ⟩ := hrel
      have hc0 := (hb1.cell (p := ⟨b0, o0, none⟩) (by have := HG.out; simp; omega)).trans HC0.out
      have hlt0' : b0 < w1.heap.size := by have := hb1.size; omega
      by_cases hlt : j < D.length
      · obtain ⟨b1, o1, ad1, cd1, he, hc1, hrr1⟩ := (hr.kept (HG.out ▸ hb1 : Below w.heap.size w w1)).cell j hlt
        simp only [Option.some.injEq, Addr.mk.injEq, and_true] at he
        obtain ⟨rfl, rfl⟩ := he
        obtain ⟨l, hl⟩ : ∃ l, l = (D[j]).length := ⟨_, rfl⟩
        have hll : l ≤ 1000000 := by rw [hl]; exact HDl.out _ (List.getElem_mem _)
        rw [← hl] at hc1
        have HL := Lib.hid hl
        have hji : (j : Int) < (D.length : Int) := by omega
        clear hl hrr1
        by_cases hz : l = 0
        · have hf : Hid (r = false) := Lib.hid (by
            rw [HR.out]
            refine decide_eq_false (fun h => ?_)
            have := h (D[j]) (List.getElem_mem _)
            have := HL.out
            omega)
          have hzi : ((l : Int) == 0) = true := by rw [beq_iff_eq]; omega
          clear hz
          go_wp2
          go_quiet (fail)
          go_wp2
          go_ret2
          rw [HX.out, hf.out]
          exact MxP.no 1 (HG.out ▸ below_drewN (below_drewN hb1 _) _)
        · have hzi : ((l : Int) == 0) = false := by rw [beq_eq_false_iff_ne]; omega
          by_cases he : l = n
          · have hei : ((l : Int) != (n : Int)) = false := by rw [he]; simp
            have HQ' : Hid (∀ q (hq : q < D.length), q < j + 1 → (D[q]).length ≠ 0 ∧ (D[q]).length = n) := Lib.hid (fun q hq h => by
              by_cases hqj : q = j
              · subst hqj; have := HL.out; omega
              · exact HQ.out q hq (by omega))
            clear he hz
            go_wp2
            go_quiet (fail)
            go_wp2
            go_roundw
            case rel => exact ⟨j + 1, _, by omega, by go_num, rfl, HQ'⟩
            case measure => simp [intOf]; omega
          · have hei : ((l : Int) != (n : Int)) = true := by rw [bne_iff_ne]; omega
            have hf : Hid (r = false) := Lib.hid (by
              rw [HR.out]
              refine decide_eq_false (fun h => ?_)
              have := h (D[j]) (List.getElem_mem _)
              have := HL.out
              have := HNN.out
              omega)
            clear he hz
            go_wp2
            go_quiet (fail)
            go_wp2
            go_ret2
            rw [HX.out, hf.out]
            exact MxP.no 1 (HG.out ▸ below_drewN (below_drewN hb1 _) _)
      · obtain rfl : j = D.length := by omega
        have hall : ∀ q ∈ D, q.length ≠ 0 ∧ q.length = n := by
          intro q hq
          obtain ⟨i, hi, rfl⟩ := List.mem_iff_getElem.1 hq
          exact HQ.out i hi hi
        have hf : Hid (r = true) := Lib.hid (by rw [HR.out, allN_iff, ← HNN.out]; exact hall)
        have hall2 : ∀ q ∈ D, q.length = wid D := fun q hq => by rw [← HNN.out]; exact (hall q hq).2
        obtain ⟨W, hW⟩ : ∃ W, W = w1.drewN q := ⟨_, rfl⟩
        have hbW : Below G w W := by rw [hW]; exact below_drewN hb1 q
        have hrW : RdLL W a1 c1 (codeL D.length p) := by rw [hW]; exact hr1.kept (below_drewN (Below.refl _ _) q)
        have HAll := Lib.hid hall2
        rw [← hW]
        clear hW hall hall2 hr1 hb1 hc0 hlt0'
        go_wp2
        obtain ⟨GW, hGW⟩ : ∃ GW, GW = W.heap.size := ⟨_, rfl⟩
        have HGW := Lib.hid hGW
        have hGle : G ≤ GW := by rw [hGW]; exact Nat.le_trans hGs0 hbW.size
        have hGW0 : GW ≤ W.heap.size := by omega
        clear hGW
        go_loopw [10, 11] (fun s10 s11 wr => ∃ (i : Nat), i ≤ p ∧ s11 = .int .i64 (D.length + i : Nat) ∧ OwnLL wr GW 32 5 s10 (timesL (((codeL D.length p).drop D.length).take i) D) ∧ Below GW W wr) (fun _ s11 _ => D.length + p - (intOf s11).toNat)
        case atStart => exact ⟨0, by omega, rfl, OwnLL.nil _ _ _ _, Below.refl _ _⟩
        case round =>
          obtain ⟨i, hi, rfl, hO, hb⟩ := hrel
          have hGs : GW ≤ wr.heap.size := Nat.le_trans hGW0 hb.size
          have hbw : Below G w wr := hbW.trans (hb.mono hGle)
          by_cases hlti : i < p
          · have hlc : D.length + i < (codeL D.length p).length := by rw [HCL.out]; omega
            obtain ⟨b2, o2, ad2, cd2, rfl, hc2, hr2⟩ := (hrW.kept (HGW.out ▸ hb : Below W.heap.size W wr)).cell (D.length + i) hlc
            have hl2 := (codeL_dim D.length p).2 _ (List.getElem_mem hlc)
            have hbl := blend_any wr ad2 cd2 _ (some ⟨b0, o0, none⟩) c D hr2 (hr.kept (HG.out ▸ hbw : Below w.heap.size w wr)) hl2 hk1 (by omega) HAll.out (by rw [← HNN.out]; exact hle0)
            have hdrop : i < ((codeL D.length p).drop D.length).length := by rw [List.length_drop, HCL.out]; omega
            have hnx := timesL_take ((codeL D.length p).drop D.length) D i hdrop
            have hge : ((codeL D.length p).drop D.length)[i] = (codeL D.length p)[D.length + i] := by rw [List.getElem_drop]
            rw [hge] at hnx
            have hbll : (blendL ((codeL D.length p)[D.length + i]) D).length = n := by rw [blendL_length]; exact HNN.out.symm
            obtain ⟨B, hB⟩ : ∃ B, B = blendL ((codeL D.length p)[D.length + i]) D := ⟨_, rfl⟩
            rw [← hB] at hbl hnx hbll
            rw [hl2] at hc2 hbl
            rw [← HNN.out] at hbl
            have hlen : (timesL (((codeL D.length p).drop D.length).take i) D).length = i := by rw [timesL_length, List.length_take]; omega
            have HBl := Lib.hid hbl
            have HNx := Lib.hid hnx
            have HBll := Lib.hid hbll
            have HLen := Lib.hid hlen
            have hii : (D.length : Int) + (i : Int) < (D.length : Int) + (p : Int) := by omega
            clear hl2 hr2 hbl hnx hge hbll hB hlen hdrop hlc
            go_wp2_with fail
            refine HBl.out.mono ?_
            rintro e w3 ⟨v3, rfl, ho3, hb3⟩
            have hO3 := hO.kept hb3
            have hbw3 : Below GW W w3 := hb.trans (hb3.mono hGs)
            have ho3' := own_base ho3 hGs
            have hGs3 : GW ≤ w3.heap.size := Nat.le_trans hGW0 hbw3.size
            obtain ⟨ar, cr, rfl, _⟩ := Rd.ofOwn ho3'
            clear hO ho3 hb3 HBl hb
            go_wp2_with (with_reducible refine At.slot 61 ?_)
            obtain ⟨vs, hv1, hv2⟩ := hO3.kept ((Below.refl w3.heap.size w3).alloc (Nat.le_refl _) (.cells #[.slice ar n cr] 32))
            refine At.out (wpList_app rfl (.tmp 53) (.tmp 60) 22 rfl elemR rfl GW _ i vs rfl (own_len hv1 HLen.out) _ 1 1 [.slice ar n cr] rfl rfl (Rd.one _ _ _) (by intro u hu; rw [List.mem_singleton.1 hu]; exact own_one ho3') (by unfold maxLen; omega) (by omega) (by simp; omega) ?_)
            intro v4 w4 hv3 hb4 hg4
            have hO4 := own_app (l := B) hv1 hv2 (own_len (ho3'.alloc _) HBll.out.symm) (by decide) (by rw [HLen.out]; exact hv3) hg4
            rw [← HNx.out] at hO4
            have hb5 : Below GW W w4 := (hbw3.alloc hGs3 _).trans hb4
            clear hv1 hv2 hv3 hO3 ho3' hg4 hb4 hbw3
            go_wp2
            go_roundw
            case rel => exact ⟨i + 1, by omega, by go_num, hO4, hb5⟩
            case measure => simp [intOf]; omega
          · obtain rfl : i = p := by omega
            rw [List.take_of_length_le (by rw [List.length_drop, HCL.out]; omega), codeL_drop] at hO
            have hO' := hO.base hGle
            have hii : (D.length : Int) + (i : Int) ≤ (D.length : Int) + (i : Int) := Int.le_refl _
            obtain ⟨a2, c2, rfl, _⟩ := hO'.rd
            clear hO
            go_wp2
            go_ret2
            rw [HX.out, hf.out]
            exact MxP.mk HG.out hO' hbw
end Go.Proofs.Ytmeckdgigjjjbaa
