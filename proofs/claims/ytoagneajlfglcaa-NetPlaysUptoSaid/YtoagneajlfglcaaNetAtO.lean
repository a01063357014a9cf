/- net's own and At: what comes lies in memory of its own. Conditions: each contract's own premises. -/
import Derived.Test.YtoagneajlfglcaaNetF
namespace Go.Proofs.Ytoagneajlfglcaa
open Go Go.RowKit

theorem own_setC {w : World} {base : Nat} {e t' : TypeId} {sz : Nat} {v : Value} {n : Nat} {xs : List Value} (h : w.ownsRow base e sz v n xs) {g : Nat} {cs : Array Value} (hB : BlkV w g t' cs) (hne : e ≠ t') (j : Nat) (u : Value) : (w.setCell ⟨g, j, none⟩ u).ownsRow base e sz v n xs :=
  own_other h hB hne fun k hk => Below.heap_setCell w ⟨g, j, none⟩ u k hk
/-- What own gives. -/
def OwnO (w : World) (M : Ms) (e : Ending) (w' : World) : Prop := ∃ x, e = .returned (.agg x) ∧ MsO w' w.heap.size x.toList M ∧ Below w.heap.size w w'
/-- What At gives. -/
def AtO (w : World) (r : Option Ms) (e : Ending) (w' : World) : Prop := ∃ x, e = .returned (.tuple #[.agg x, .bool r.isSome]) ∧ MsO w' w.heap.size x.toList (r.getD Ms.zero) ∧ Below w.heap.size w w'

set_option maxRecDepth 100000 in
set_option maxHeartbeats 4000000 in
theorem own_o (w : World) (M : Ms) (an ad : Option Addr) (cn cd : Nat) (hn : Rd w an cn (BI M.nums)) (hd : Rd w ad cd (B8 M.data)) (ln : M.nums.length ≤ 100000000) (ld : M.data.length ≤ 100000000) :
    Calls Try.prog 22 #[msV M an cn ad cd] w (OwnO w M) := by
  obtain ⟨nn, hnn⟩ : ∃ nn, nn = M.nums.length := ⟨_, rfl⟩
  obtain ⟨nd, hnd⟩ : ∃ nd, nd = M.data.length := ⟨_, rfl⟩
  have hI : ∀ W, Below w.heap.size w W → Calls Try.prog 28 #[.slice an nn cn] W fun e w' => ∃ a c, e = .returned (.slice a nn c) ∧ w'.ownsRow w.heap.size 3 1 (.slice a nn c) nn (BI M.nums) ∧ Below W.heap.size W w' := fun W hb => by
    refine (cloneI_any W an cn nn M.nums hnn (hn.kept hb) ln).mono ?_
    rintro e w' ⟨r, rfl, ho, hb1⟩
    obtain ⟨a, c, rfl⟩ := own_slice ho
    exact ⟨a, c, rfl, own_base ho hb.size, hb1⟩
  have hB : ∀ W, Below w.heap.size w W → Calls Try.prog 29 #[.slice ad nd cd] W fun e w' => ∃ a c, e = .returned (.slice a nd c) ∧ w'.ownsRow w.heap.size 5 1 (.slice a nd c) nd (B8 M.data) ∧ Below W.heap.size W w' := fun W hb => by
    refine (cloneB_any W ad cd nd M.data hnd (hd.kept hb) ld).mono ?_
    rintro e w' ⟨r, rfl, ho, hb1⟩
    obtain ⟨a, c, rfl⟩ := own_slice ho
    exact ⟨a, c, rfl, own_base ho hb.size, hb1⟩
  have HI := Lib.hid hI
  have HB := Lib.hid hB
  obtain ⟨K, hK⟩ : ∃ K, K = w.heap.size := ⟨_, rfl⟩
  have HK := Lib.hid hK
  have HNN := Lib.hid hnn
  have HND := Lib.hid hnd
  unfold msV
  rw [← hnn, ← hnd]
  clear hI hB hn hd hnn hnd hK
  go_enter Try.func22, Try.ntmps22
  go_upto_region 1 with (fail)
  obtain ⟨W0, hW0⟩ : ∃ W0, W0 = (w.alloc (.cells #[.int .i64 M.fr, .int .i64 M.to, .int .i64 M.kd, .slice an nn cn, .slice ad nd cd] 31)).alloc (.cells #[.int .i64 0, .int .i64 0, .int .i64 0, .slice none 0 0, .slice none 0 0] 31) := ⟨_, rfl⟩
  have hb0 : Below K w W0 := by rw [hW0, HK.out]; exact ((Below.refl _ _).alloc (Nat.le_refl _) _).alloc (by simp) _
  have hM0 : BlkV W0 K 31 #[.int .i64 M.fr, .int .i64 M.to, .int .i64 M.kd, .slice an nn cn, .slice ad nd cd] := by rw [hW0, HK.out]; exact (BlkV.new w _ _).alloc _
  have hZ0 : BlkV W0 (K + 1) 31 #[.int .i64 0, .int .i64 0, .int .i64 0, .slice none 0 0, .slice none 0 0] := by
    rw [hW0, HK.out]
    have := BlkV.new (w.alloc (.cells #[.int .i64 M.fr, .int .i64 M.to, .int .i64 M.kd, .slice an nn cn, .slice ad nd cd] 31)) 31 #[.int .i64 0, .int .i64 0, .int .i64 0, .slice none 0 0, .slice none 0 0]
    simpa using this
  rw [← hW0, ← HK.out]
  have k3 := hM0.cell 3
  have k4 := hM0.cell 4
  simp only [List.getElem?_toArray, List.getElem?_cons_succ, List.getElem?_cons_zero] at k3 k4
  clear hW0
  go_region_law (first
    | ((with_reducible refine StepAt 5 ?_); (refine At.out ?_); go_simp; go_at_call 28; refine (HI.out _ (HK.out ▸ hb0.drew)).mono ?_; rintro e w3 ⟨a3, c3, rfl, ht3, hb3⟩
       (have hM3 := BlkV.below (w := W0.drew) hM0 hb3); (have j4 := hM3.cell 4); (simp only [List.getElem?_toArray, List.getElem?_cons_succ, List.getElem?_cons_zero] at j4))
    | ((with_reducible refine StepAt 8 ?_); (refine At.out ?_); go_simp; go_at_call 29; refine (HB.out _ (HK.out ▸ (hb0.drew.trans (hb3.mono (by have := hM0.lt; simp; omega))))).mono ?_; rintro e w4 ⟨a4, c4, rfl, ht4, hb4⟩
       (have hM4 := hM3.below hb4); (have i3 := hM4.cell 3); (have i4 := hM4.cell 4); (have f3 := hM4.frozen 3); (have f4 := hM4.frozen 4); (simp only [List.getElem?_toArray, List.getElem?_cons_succ, List.getElem?_cons_zero] at i3 i4)))
  all_goals
    have ht3' := own_below ht3 hb4
    have hM5 := hM4.set 3 (.slice a3 nn c3)
    have hM6 := hM5.set 4 (.slice a4 nd c4)
    have q3 := (own_setC (own_setC ht3' hM4 (by decide) 3 (.slice a3 nn c3)) hM5 (by decide) 4 (.slice a4 nd c4))
    have q4 := (own_setC (own_setC ht4 hM4 (by decide) 3 (.slice a3 nn c3)) hM5 (by decide) 4 (.slice a4 nd c4))
    have hZ4 := (BlkV.below (w := W0.drew) hZ0 hb3).below hb4
    have hZ6 := BlkV.far (BlkV.far hZ4 (show K + 1 ≠ K by omega) 3 (.slice a3 nn c3)) (show K + 1 ≠ K by omega) 4 (.slice a4 nd c4)
    have hb5 : Below K w w4 := (hb0.drew.trans (hb3.mono (by have := hM0.lt; simp; omega))).trans (hb4.mono (by have := hM3.lt; omega))
    have hb6 : Below K w ((w4.setCell ⟨K, 3, none⟩ (.slice a3 nn c3)).setCell ⟨K, 4, none⟩ (.slice a4 nd c4)) := (hb5.setCell (p := ⟨K, 3, none⟩) (Nat.le_refl _) _).setCell (p := ⟨K, 4, none⟩) (Nat.le_refl _) _
    simp only [List.setIfInBounds_toArray, List.set_cons_zero, List.set_cons_succ] at hM6
    obtain ⟨W6, hW6⟩ : ∃ W6, W6 = (w4.setCell ⟨K, 3, none⟩ (.slice a3 nn c3)).setCell ⟨K, 4, none⟩ (.slice a4 nd c4) := ⟨_, rfl⟩
    rw [← hW6] at hM6 q3 q4 hZ6 hb6 ⊢
    clear hW6 hM5 hM4 hM3 hM0 hZ4 hZ0 i3 i4 f3 f4 j4 hb5 hb4 hb3 ht3 ht4 ht3' hb0 k3 k4
    go_wp2_with (with_reducible refine At.slot 11 ?_)
    refine At.out (wpList_loadV rfl _ rfl (.tmp 1) rfl strM K _ rfl hM6 rfl ?_)
    go_wp2_with (with_reducible refine At.store 31 (.tmp 2) (.tmp 11) ?_)
    refine At.out (wpList_storeV rfl _ rfl (.tmp 2) (.tmp 11) rfl strM (K + 1) _ #[.int .i64 M.fr, .int .i64 M.to, .int .i64 M.kd, .slice a3 nn c3, .slice a4 nd c4] rfl rfl hZ6 rfl rfl (by simp [Value.oneCell']) ?_)
    intro w7 hB7 hbel7 hoth7
    have hb7 := hbel7 K w hb6 (by omega)
    have hg7 : ∀ k, k ≠ K + 1 → w7.heap[k]? = W6.heap[k]? := hoth7
    have r3 := own_other q3 hZ6 (by decide) hg7
    have r4 := own_other q4 hZ6 (by decide) hg7
    go_wp2_with fail
    exact bodyPost_ret (v := .agg #[.int .i64 M.fr, .int .i64 M.to, .int .i64 M.kd, .slice a3 nn c3, .slice a4 nd c4]) (results_cell1 rfl strM rfl hB7 rfl) rfl ⟨_, rfl, ⟨a3, c3, a4, c4, by rw [← HNN.out, ← HND.out], HNN.out ▸ r3, HND.out ▸ r4⟩, HK.out ▸ hb7⟩
set_option maxRecDepth 100000 in
set_option maxHeartbeats 2000000 in
theorem at_o (w : World) (B g : Nat) (L : List Ms) (h : NetI w B g L) (hL : L.length ≤ 4096) (hl : ∀ M ∈ L, M.nums.length ≤ 100000000 ∧ M.data.length ≤ 100000000) (i : Int) :
    Calls Try.prog 14 #[.pointer (some ⟨g, 0, none⟩), .int .i64 i] w (AtO w (atL L i)) := by
  obtain ⟨W0, hW0⟩ : ∃ W0, W0 = w.alloc (.cells #[.int .i64 0, .int .i64 0, .int .i64 0, .slice none 0 0, .slice none 0 0] 31) := ⟨_, rfl⟩
  have hb0 : Below w.heap.size w W0 := by rw [hW0]; exact (Below.refl _ _).alloc (Nat.le_refl _) _
  have hI0 := h.kept hb0
  have hhas := has_any W0 B g L hI0 i
  obtain ⟨K, hK⟩ : ∃ K, K = w.heap.size := ⟨_, rfl⟩
  have hZ : BlkV W0 K 31 #[.int .i64 0, .int .i64 0, .int .i64 0, .slice none 0 0, .slice none 0 0] := by rw [hW0, hK]; exact BlkV.new w _ _
  have HW0 := Lib.hid hW0
  have HK := Lib.hid hK
  by_cases hin : 0 ≤ i ∧ i < L.length
  · rw [decide_eq_true hin] at hhas
    obtain ⟨k, rfl⟩ : ∃ k : Nat, i = (k : Int) := ⟨i.toNat, by omega⟩
    have hkl : k < L.length := by omega
    have hat : atL L (k : Int) = some L[k] := by unfold atL; rw [if_pos (by omega), Int.toNat_natCast, List.getElem?_eq_getElem hkl]
    rw [hat]
    obtain ⟨a, c, xs, h1, h2, h3⟩ := hI0.len0
    have hm := h3.get k hkl
    obtain ⟨n, hn⟩ : ∃ n, n = L.length := ⟨_, rfl⟩
    obtain ⟨M, hM⟩ : ∃ M, M = L[k] := ⟨_, rfl⟩
    have hlM := hl M (by rw [hM]; exact List.getElem_mem _)
    rw [← hM] at hm ⊢
    rw [← hn] at h1 h2 hkl hL
    obtain ⟨an, cn, ad, cd, hx, t1, t2⟩ := hm
    have hpos : ∃ G, a = some ⟨G, 0, none⟩ := by
      obtain ⟨g', cap, he, _⟩ := own_pos h2 (by omega)
      cases he
      exact ⟨g', rfl⟩
    obtain ⟨G, rfl⟩ := hpos
    have hcell : ∀ j, j < 5 → W0.cell? ⟨G, k * 5 + j, none⟩ = [Value.int .i64 M.fr, .int .i64 M.to, .int .i64 M.kd, .slice an M.nums.length cn, .slice ad M.data.length cd][j]? := fun j hj => by
      rw [← hx, List.getElem?_take, if_pos hj, List.getElem?_drop]
      have hlt : k * 5 + j < xs.length := by have := h2.1; omega
      have := h2.cells (g := G) rfl (k * 5 + j) xs[k * 5 + j] (List.getElem?_eq_getElem hlt)
      rw [Addr.add_lit, Nat.zero_add] at this
      rw [this, List.getElem?_eq_getElem hlt]
    have q0 := hcell 0 (by omega)
    have q1 := hcell 1 (by omega)
    have q2 := hcell 2 (by omega)
    have q3 := hcell 3 (by omega)
    have q4 := hcell 4 (by omega)
    simp only [List.getElem?_cons_succ, List.getElem?_cons_zero, Nat.add_zero] at q0 q1 q2 q3 q4
    have hown := own_o W0 M an ad cn cd t1.1 t2.1 hlM.1 hlM.2
    have c0 := h1.cell 0
    simp only [List.getElem?_toArray, List.getElem?_cons_zero] at c0
    have hki : (k : Int) < (n : Int) := by omega
    obtain ⟨nn, hnn⟩ : ∃ nn, nn = M.nums.length := ⟨_, rfl⟩
    obtain ⟨nd, hnd⟩ : ∃ nd, nd = M.data.length := ⟨_, rfl⟩
    unfold msV at hown
    rw [← hnn, ← hnd] at hown
    rw [← hnn] at q3
    rw [← hnd] at q4
    have HH := Lib.hid hhas
    have HB := Lib.hid hb0
    have HO := Lib.hid hown
    clear hhas hI0 h hW0 hK hb0 hat hl hin hown hcell h2 h3 h1 hx t1 t2 hlM hM hnn hnd hn
    go_enter Try.func14, Try.ntmps14
    go_wp2_with fail
    rw [← HW0.out, ← HK.out]
    refine HH.out.mono ?_
    rintro e w1 ⟨rfl, hw1⟩
    have hw1 := hw1.symm
    subst hw1
    go_wp2_with fail
    refine HO.out.mono ?_
    rintro e w3 ⟨x3, rfl, hx3, hb3⟩
    obtain ⟨an3, cn3, ad3, cd3, rfl⟩ := MsO.vals hx3
    have hZ3 := hZ.below hb3
    go_wp2_with (with_reducible refine At.store 31 (.tmp 4) (.tmp 18) ?_)
    refine At.out (wpList_storeV rfl _ rfl (.tmp 4) (.tmp 18) rfl strM K _ #[.int .i64 M.fr, .int .i64 M.to, .int .i64 M.kd, .slice an3 M.nums.length cn3, .slice ad3 M.data.length cd3] rfl rfl hZ3 rfl rfl (by simp [Value.oneCell']) ?_)
    intro w6 hB6 hbel6 hoth6
    have hb6 := hbel6 w.heap.size w (HB.out.trans (hb3.mono HB.out.size)) (by have := HK.out; omega)
    have hx6 := hx3.same hZ3 (by decide) (by decide) hoth6
    go_wp2_with fail
    exact bodyPost_ret (v := .tuple #[.agg #[.int .i64 M.fr, .int .i64 M.to, .int .i64 M.kd, .slice an3 M.nums.length cn3, .slice ad3 M.data.length cd3], .bool true]) (results_cell2 rfl strM rfl rfl hB6 rfl) rfl ⟨_, rfl, hx6.base HB.out.size, hb6⟩
  · rw [decide_eq_false hin] at hhas
    have hat : atL L i = none := by
      unfold atL
      by_cases h0 : 0 ≤ i
      · rw [if_pos h0, List.getElem?_eq_none (by omega)]
      · rw [if_neg h0]
    rw [hat]
    have HH := Lib.hid hhas
    have HB := Lib.hid hb0
    clear hhas hI0 h hW0 hK hb0 hat hl hin
    go_enter Try.func14, Try.ntmps14
    go_wp2_with fail
    rw [← HW0.out, ← HK.out]
    refine HH.out.mono ?_
    rintro e w1 ⟨rfl, hw1⟩
    have hw1 := hw1.symm
    subst hw1
    go_wp2_with (with_reducible refine At.store 31 (.tmp 4) (.tmp 10) ?_)
    refine At.out (wpList_storeV rfl _ rfl (.tmp 4) (.tmp 10) rfl strM K _ #[.int .i64 0, .int .i64 0, .int .i64 0, .slice none 0 0, .slice none 0 0] rfl rfl hZ rfl rfl (by simp [Value.oneCell']) ?_)
    intro w6 hB6 hbel6 _
    have hb6 := hbel6 w.heap.size w HB.out (by have := HK.out; omega)
    go_wp2_with fail
    exact bodyPost_ret (v := .tuple #[.agg #[.int .i64 0, .int .i64 0, .int .i64 0, .slice none 0 0, .slice none 0 0], .bool false]) (results_cell2 rfl strM rfl rfl hB6 rfl) rfl ⟨_, rfl, MsO.zero w6 _, hb6⟩
end Go.Proofs.Ytoagneajlfglcaa
