/- The document's At: the contract. Conditions: its own premises. -/
import Derived.Test.YtoagneajlfglcaaNetRefSend
namespace Go.Proofs.Ytoagneajlfglcaa
open Go Go.RowKit

theorem NetF.len0 {T : TypeId} {w : World} {F : Nat → Prop} {g : Nat} {L : List Ms} (h : NetF T w F g L) : ∃ a c xs, BlkV w g T #[.slice a L.length c] ∧ w.ownsRow 0 31 5 (.slice a L.length c) L.length xs ∧ RowR w xs L := by
  obtain ⟨⟨v, xs, h1, h2, h3, _, _⟩, _, _⟩ := h
  obtain ⟨a, c, rfl⟩ := own_slice h2
  exact ⟨a, c, xs, h1, h2, h3⟩
set_option maxRecDepth 100000 in
set_option maxHeartbeats 2000000 in
theorem refAt_o (w : World) (F : Nat → Prop) (g : Nat) (L : List Ms) (h : NetF 41 w F g L) (hL : L.length ≤ 4096) (hl : ∀ M ∈ L, M.nums.length ≤ 100000000 ∧ M.data.length ≤ 100000000) (i : Int) :
    Calls Try.prog 15 #[.pointer (some ⟨g, 0, none⟩), .int .i64 i] w (AtO w (atL L i)) := by
  obtain ⟨W0, hW0⟩ : ∃ W0, W0 = w.alloc (.cells #[.int .i64 0, .int .i64 0, .int .i64 0, .slice none 0 0, .slice none 0 0] 31) := ⟨_, rfl⟩
  have hb0 : Below w.heap.size w W0 := by rw [hW0]; exact (Below.refl _ _).alloc (Nat.le_refl _) _
  have hI0 := h.kept hb0
  obtain ⟨a, c, xs, h1, h2, h3⟩ := hI0.len0
  obtain ⟨n, hn⟩ : ∃ n, n = L.length := ⟨_, rfl⟩
  have c0 := h1.cell 0
  have z0 := h1.lt
  simp only [List.getElem?_toArray, List.getElem?_cons_zero] at c0
  obtain ⟨K, hK⟩ : ∃ K, K = w.heap.size := ⟨_, rfl⟩
  have hZ : BlkV W0 K 31 #[.int .i64 0, .int .i64 0, .int .i64 0, .slice none 0 0, .slice none 0 0] := by rw [hW0, hK]; exact BlkV.new w _ _
  have HW0 := Lib.hid hW0
  have HK := Lib.hid hK
  by_cases hin : 0 ≤ i ∧ i < L.length
  · obtain ⟨k, rfl⟩ : ∃ k : Nat, i = (k : Int) := ⟨i.toNat, by omega⟩
    have hkl : k < L.length := by omega
    have hat : atL L (k : Int) = some L[k] := by unfold atL; rw [if_pos (by omega), Int.toNat_natCast, List.getElem?_eq_getElem hkl]
    rw [hat]
    have hm := h3.get k hkl
    obtain ⟨M, hM⟩ : ∃ M, M = L[k] := ⟨_, rfl⟩
    have hlM := hl M (by rw [hM]; exact List.getElem_mem _)
    rw [← hM] at hm ⊢
    rw [← hn] at h1 h2 hkl hL c0
    obtain ⟨an, cn, ad, cd, hx, t1, t2⟩ := hm
    have hpos : ∃ G, a = some ⟨G, 0, none⟩ := by
      obtain ⟨g', cap, he, _⟩ := own_pos h2 (by omega)
      cases he
      exact ⟨g', rfl⟩
    obtain ⟨G, rfl⟩ := hpos
    have hcell : ∀ j, j < 5 → W0.cell? ⟨G, k * 5 + j, none⟩ = [Value.int .i64 M.fr, .int .i64 M.to, .int .i64 M.kd, .slice an M.nums.length cn, .slice ad M.data.length cd][j]? := fun j hj => by
      rw [← hx, List.getElem?_take, if_pos hj, List.getElem?_drop]
      have hlt : k * 5 + j < xs.length := by have := h2.1; omega
      have := h2.cells (g := G) rfl (k * 5 + j) xs[k * 5 + j] (List.getElem?_eq_getElem hlt)
      rw [Addr.add_lit, Nat.zero_add] at this
      rw [this, List.getElem?_eq_getElem hlt]
    have q0 := hcell 0 (by omega)
    have q1 := hcell 1 (by omega)
    have q2 := hcell 2 (by omega)
    have q3 := hcell 3 (by omega)
    have q4 := hcell 4 (by omega)
    simp only [List.getElem?_cons_succ, List.getElem?_cons_zero, Nat.add_zero] at q0 q1 q2 q3 q4
    have hown := refClone_o W0 M an ad cn cd t1.1 t2.1 hlM.1 hlM.2
    have hk0 : ¬ (k : Int) < 0 := by omega
    have hkn : ¬ (n : Int) ≤ (k : Int) := by omega
    have hki : (k : Int) < (n : Int) := by omega
    obtain ⟨nn, hnn⟩ : ∃ nn, nn = M.nums.length := ⟨_, rfl⟩
    obtain ⟨nd, hnd⟩ : ∃ nd, nd = M.data.length := ⟨_, rfl⟩
    unfold msV at hown
    rw [← hnn, ← hnd] at hown
    rw [← hnn] at q3
    rw [← hnd] at q4
    have HB := Lib.hid hb0
    have HO := Lib.hid hown
    clear hI0 h hW0 hK hb0 hat hl hin hown hcell h2 h3 h1 hx t1 t2 hlM hM hnn hnd hn
    go_enter Try.func15, Try.ntmps15
    go_upto_region 1 with (fail)
    rw [← HW0.out, ← HK.out]
    clear HW0
    go_wp2_with fail
    refine HO.out.mono ?_
    rintro e w3 ⟨x3, rfl, hx3, hb3⟩
    obtain ⟨an3, cn3, ad3, cd3, rfl⟩ := MsO.vals hx3
    have hZ3 := hZ.below hb3
    go_wp2_with (with_reducible refine At.store 31 (.tmp 4) (.tmp 25) ?_)
    refine At.out (wpList_storeV rfl _ rfl (.tmp 4) (.tmp 25) rfl strM K _ #[.int .i64 M.fr, .int .i64 M.to, .int .i64 M.kd, .slice an3 M.nums.length cn3, .slice ad3 M.data.length cd3] rfl rfl hZ3 rfl rfl (by simp [Value.oneCell']) ?_)
    intro w6 hB6 hbel6 hoth6
    have hb6 := hbel6 w.heap.size w (HB.out.trans (hb3.mono HB.out.size)) (by have := HK.out; omega)
    have hx6 := hx3.same hZ3 (by decide) (by decide) hoth6
    go_wp2_with fail
    exact bodyPost_ret (v := .tuple #[.agg #[.int .i64 M.fr, .int .i64 M.to, .int .i64 M.kd, .slice an3 M.nums.length cn3, .slice ad3 M.data.length cd3], .bool true]) (results_cell2 rfl strM rfl rfl hB6 rfl) rfl ⟨_, rfl, hx6.base HB.out.size, hb6⟩
  · have hat : atL L i = none := by
      unfold atL
      by_cases h0 : 0 ≤ i
      · rw [if_pos h0, List.getElem?_eq_none (by omega)]
      · rw [if_neg h0]
    rw [hat]
    have HB := Lib.hid hb0
    rw [← hn] at c0 hin
    have hcs : i < 0 ∨ (¬ i < 0 ∧ (n : Int) ≤ i) := by omega
    clear hI0 h hW0 hK hb0 hat hl hin h1 h2 h3 hn
    have HCS := Lib.hid hcs
    clear hcs
    rcases HCS.out with hi | ⟨hi, hi2⟩
    all_goals
      go_enter Try.func15, Try.ntmps15
      go_upto_region 1 with (fail)
      rw [← HW0.out, ← HK.out]
      go_wp2_with (with_reducible refine At.store 31 (.tmp 4) (.tmp 17) ?_)
      refine At.out (wpList_storeV rfl _ rfl (.tmp 4) (.tmp 17) rfl strM K _ #[.int .i64 0, .int .i64 0, .int .i64 0, .slice none 0 0, .slice none 0 0] rfl rfl hZ rfl rfl (by simp [Value.oneCell']) ?_)
      intro w6 hB6 hbel6 _
      have hb6 := hbel6 w.heap.size w HB.out (by have := HK.out; omega)
      go_wp2_with fail
      exact bodyPost_ret (v := .tuple #[.agg #[.int .i64 0, .int .i64 0, .int .i64 0, .slice none 0 0, .slice none 0 0], .bool false]) (results_cell2 rfl strM rfl rfl hB6 rfl) rfl ⟨_, rfl, MsO.zero w6 _, hb6⟩
end Go.Proofs.Ytoagneajlfglcaa
