/- The document's Send: the contract. Conditions: its own premises. -/
import Derived.Test.YtoagneajlfglcaaNetRefC
namespace Go.Proofs.Ytoagneajlfglcaa
open Go Go.RowKit

set_option maxRecDepth 100000 in
set_option maxHeartbeats 4000000 in
theorem refSend_f (w : World) (F : Nat → Prop) (g : Nat) (L : List Ms) (hI : NetF 41 w F g L) (hL : L.length ≤ 4096) (M : Ms) (an ad : Option Addr) (cn cd : Nat) (hn : Rd w an cn (BI M.nums)) (hd : Rd w ad cd (B8 M.data)) (ln : M.nums.length ≤ 100000000) (ld : M.data.length ≤ 100000000) :
    Calls Try.prog 12 #[.pointer (some ⟨g, 0, none⟩), msV M an cn ad cd] w fun e w' => e = .returned (.bool (decide (L.length < 4096))) ∧ NetF 41 w' (grew F w w') g (sendL L M) ∧ Off F w w' := by
  unfold sendL
  obtain ⟨nn, hnn⟩ : ∃ nn, nn = M.nums.length := ⟨_, rfl⟩
  obtain ⟨nd, hnd⟩ : ∃ nd, nd = M.data.length := ⟨_, rfl⟩
  obtain ⟨W0, hW0⟩ : ∃ W0, W0 = w.alloc (.cells #[.int .i64 M.fr, .int .i64 M.to, .int .i64 M.kd, .slice an nn cn, .slice ad nd cd] 31) := ⟨_, rfl⟩
  have hb0 : Below w.heap.size w W0 := by rw [hW0]; exact (Below.refl _ _).alloc (Nat.le_refl _) _
  have hI0 := hI.kept hb0
  have hlt7 := hI.lt
  obtain ⟨⟨v, xs, h1, h2, h3, h4, h5⟩, h6, _⟩ := hI0
  obtain ⟨a, c, rfl⟩ := own_slice h2
  obtain ⟨n, hnL⟩ : ∃ n, n = L.length := ⟨_, rfl⟩
  rw [← hnL] at h1 h2 h4 hL ⊢
  by_cases hlt : n < 4096
  · rw [if_pos hlt, decide_eq_true hlt]
    have hnf : ¬ (4096 : Int) ≤ (n : Int) := by omega
    have HNL := Lib.hid hnL
    clear hnL
    have H4 := Lib.hid h4
    have H5 := Lib.hid h5
    have H6 := Lib.hid h6
    have H7 := Lib.hid hlt7
    have hP : BlkV W0 w.heap.size 31 #[.int .i64 M.fr, .int .i64 M.to, .int .i64 M.kd, .slice an nn cn, .slice ad nd cd] := by rw [hW0]; exact BlkV.new w _ _
    obtain ⟨K, hK⟩ : ∃ K, K = w.heap.size := ⟨_, rfl⟩
    have howncall := fun W (hb : Below w.heap.size w W) => refClone_o W M an ad cn cd (hn.kept hb) (hd.kept hb) ln ld
    have HOC := Lib.hid howncall
    have HW0 := Lib.hid hW0
    have HK := Lib.hid hK
    have c0 := h1.cell 0
    have p0 := hP.cell 0
    have p1 := hP.cell 1
    have p2 := hP.cell 2
    have p3 := hP.cell 3
    have p4 := hP.cell 4
    simp only [List.getElem?_toArray, List.getElem?_cons_succ, List.getElem?_cons_zero] at c0 p0 p1 p2 p3 p4
    rw [← hK] at p0 p1 p2 p3 p4
    unfold msV at HOC ⊢
    rw [← hnn, ← hnd] at HOC ⊢
    have HNN := Lib.hid hnn
    have HND := Lib.hid hnd
    have HB0 := Lib.hid hb0
    clear hW0 howncall hP hI hn hd hnn hnd hb0 h4 h5 h6 hlt7
    go_enter Try.func12, Try.ntmps12
    go_upto_region 1 with (fail)
    rw [← HW0.out, ← hK]
    clear hK
    obtain ⟨wr, hwr⟩ : ∃ wr : World, wr = W0 := ⟨_, rfl⟩
    subst hwr
    go_upto_region 3 with (fail)
    have hgw := h1.lt
    go_region_law (first
      | ((with_reducible refine StepAt 17 ?_); (refine At.out ?_); go_simp; go_at_call 11; refine (HOC.out _ (HB0.out.drew)).mono ?_; rintro e w3 ⟨x3, rfl, hx3, hb3⟩
         (obtain ⟨an3, cn3, ad3, cd3, rfl⟩ := MsO.vals hx3); (have h13 := BlkV.below (w := wr.drew) h1 hb3); (have h23 := own_below (w := wr.drew) h2 hb3); (have h33 := RowR.map (fun x M (hm : MsR wr x M) => MsR.kept (w := wr.drew) hm hb3) h3); (have z3 : g < w3.heap.size := h13.lt); (have k0 := h13.cell 0); (simp only [List.getElem?_toArray, List.getElem?_cons_zero] at k0))
      | ((with_reducible refine StepAt 19 ?_)
         (refine At.out (step_appH (by rfl) (.tmp 15) (.tmp 18) 24 (by rfl) elemM rfl (by decide) 0 (.slice a n c) n xs (by rfl) (h23.alloc _) ⟨w3.heap.size, 0, none⟩ 1 1 [.int .i64 M.fr, .int .i64 M.to, .int .i64 M.kd, .slice an3 M.nums.length cn3, .slice ad3 M.data.length cd3] (by rfl) rfl (cells5 w3 _ _ _ _ _) (MsR.one hx3.toR) (by unfold maxLen; omega) (by omega) (Nat.zero_le _) ?_))
         (intro a4 c4 w4 ho4 hb4 hg4 hat4)
         (have h14 := BlkV.grown (BlkV.alloc h13 (.cells #[.int .i64 M.fr, .int .i64 M.to, .int .i64 M.kd, .slice an3 M.nums.length cn3, .slice ad3 M.data.length cd3] 31)) hg4 (own_type (h23.alloc _)) (by decide))
         (have i0 := h14.cell 0); (have if0 := h14.frozen 0); (simp only [List.getElem?_toArray, List.getElem?_cons_zero] at i0)))
    all_goals
      have e1 : Below w.heap.size w wr := HB0.out
      have e2 : Below w.heap.size w w3 := e1.trans ((Below.refl _ _).drew.trans (hb3.mono (by simp; exact e1.size)))
      obtain ⟨hfin, hbf⟩ := send_end (T := 41) (by decide) (by decide) (by decide) HNL.out h13 h23 h33 H4.out H5.out H6.out H7.out e2 (hx3.base (by simp; exact e1.size)) ho4 hg4 hat4
      have HFIN := Lib.hid hfin
      have HBF := Lib.hid hbf
      clear hfin hbf ho4 hb4 hg4 hat4 h14 i0 if0 h13 h23 h33 k0 hx3 hb3 h1 h2 h3 e1 e2
      go_wp2
      go_ret
      exact ⟨rfl, HFIN.out, HBF.out⟩
  · rw [if_neg hlt, decide_eq_false hlt]
    have hnf : (4096 : Int) ≤ (n : Int) := by omega
    have c0 := h1.cell 0
    have z0 := h1.lt
    simp only [List.getElem?_toArray, List.getElem?_cons_zero] at c0
    have HW0 := Lib.hid hW0
    have HI := Lib.hid (hI.kept hb0)
    have HB := Lib.hid hb0
    unfold msV
    rw [← hnn, ← hnd]
    clear hW0 hI hb0 hn hd hnn hnd h1 h2 h3 h4 h5 h6 hlt7 hnL
    go_enter Try.func12, Try.ntmps12
    go_upto_region 1 with (fail)
    rw [← HW0.out]
    clear HW0
    go_wp2
    go_ret
    exact ⟨rfl, HI.out.grewn, Off.ofBelow HB.out⟩
end Go.Proofs.Ytoagneajlfglcaa
