/- net's Len, has, At: the contracts. Conditions: each contract's own premises. -/
import Derived.Test.YtoagneajlfglcaaNetSend
namespace Go.Proofs.Ytoagneajlfglcaa
open Go Go.RowKit

theorem NetI.len0 {w : World} {B g : Nat} {L : List Ms} (h : NetI w B g L) : ∃ a c xs, BlkV w g 26 #[.slice a L.length c] ∧ w.ownsRow B 31 5 (.slice a L.length c) L.length xs ∧ RowR w xs L := by
  obtain ⟨⟨v, xs, h1, h2, h3⟩, _⟩ := h
  obtain ⟨a, c, rfl⟩ := own_slice h2
  exact ⟨a, c, xs, h1, h2, h3⟩
set_option maxRecDepth 100000 in
set_option maxHeartbeats 1000000 in
theorem len_any (w : World) (B g : Nat) (L : List Ms) (h : NetI w B g L) : Calls Try.prog 9 #[.pointer (some ⟨g, 0, none⟩)] w fun e w' => e = .returned (.int .i64 (L.length : Int)) ∧ w' = w := by
  obtain ⟨a, c, xs, h1, h2, h3⟩ := h.len0
  obtain ⟨n, hn⟩ : ∃ n, n = L.length := ⟨_, rfl⟩
  rw [← hn] at h1 ⊢
  have c0 := h1.cell 0
  simp only [List.getElem?_toArray, List.getElem?_cons_zero] at c0
  clear h1 h2 h3 h hn
  go_enter Try.func9, Try.ntmps9
  go_wp2
  go_ret
  exact ⟨rfl, rfl⟩
set_option maxRecDepth 100000 in
set_option maxHeartbeats 1000000 in
theorem has_any (w : World) (B g : Nat) (L : List Ms) (h : NetI w B g L) (i : Int) : Calls Try.prog 24 #[.pointer (some ⟨g, 0, none⟩), .int .i64 i] w fun e w' => e = .returned (.bool (decide (0 ≤ i ∧ i < L.length))) ∧ w' = w := by
  obtain ⟨a, c, xs, h1, h2, h3⟩ := h.len0
  obtain ⟨n, hn⟩ : ∃ n, n = L.length := ⟨_, rfl⟩
  rw [← hn] at h1 ⊢
  have c0 := h1.cell 0
  simp only [List.getElem?_toArray, List.getElem?_cons_zero] at c0
  clear h1 h2 h3 h hn
  by_cases h0 : 0 ≤ i
  · by_cases h1 : i < n
    · rw [decide_eq_true (show 0 ≤ i ∧ i < n from ⟨h0, h1⟩)]
      go_enter Try.func24, Try.ntmps24
      go_wp2
      go_ret
      first
        | exact ⟨rfl, rfl⟩
        | exact ⟨ret_bool (by simp; omega), rfl⟩
    · rw [decide_eq_false (fun h => h1 h.2)]
      have h2 : (n : Int) ≤ i := by omega
      go_enter Try.func24, Try.ntmps24
      go_wp2
      go_ret
      first
        | exact ⟨rfl, rfl⟩
        | exact ⟨ret_bool (by simp; omega), rfl⟩
  · rw [decide_eq_false (fun h => h0 h.1)]
    have h2 : i < 0 := by omega
    go_enter Try.func24, Try.ntmps24
    go_wp2
    go_ret
    first
      | exact ⟨rfl, rfl⟩
      | exact ⟨ret_bool (by simp; omega), rfl⟩
/-- The message that is none. -/
def Ms.zero : Ms := ⟨0, 0, 0, [], []⟩
/-- What At gives. -/
def AtP (w : World) (r : Option Ms) (e : Ending) (w' : World) : Prop := ∃ x, e = .returned (.tuple #[.agg x, .bool r.isSome]) ∧ MsR w' x.toList (r.getD Ms.zero) ∧ Below w.heap.size w w'
/-- The message at a place. -/
def atL (L : List Ms) (i : Int) : Option Ms := if 0 ≤ i then L[i.toNat]? else none
theorem MsR.zero (w : World) : MsR w [.int .i64 0, .int .i64 0, .int .i64 0, .slice none 0 0, .slice none 0 0] Ms.zero :=
  ⟨none, 0, none, 0, rfl, ⟨Rd.none w, fun _ _ h => absurd rfl h⟩, ⟨Rd.none w, fun _ _ h => absurd rfl h⟩⟩

set_option maxRecDepth 100000 in
set_option maxHeartbeats 2000000 in
theorem at_any (w : World) (B g : Nat) (L : List Ms) (h : NetI w B g L) (hL : L.length ≤ 4096) (hl : ∀ M ∈ L, M.nums.length ≤ 100000000 ∧ M.data.length ≤ 100000000) (i : Int) :
    Calls Try.prog 14 #[.pointer (some ⟨g, 0, none⟩), .int .i64 i] w (AtP w (atL L i)) := by
  obtain ⟨W0, hW0⟩ : ∃ W0, W0 = w.alloc (.cells #[.int .i64 0, .int .i64 0, .int .i64 0, .slice none 0 0, .slice none 0 0] 31) := ⟨_, rfl⟩
  have hb0 : Below w.heap.size w W0 := by rw [hW0]; exact (Below.refl _ _).alloc (Nat.le_refl _) _
  have hI0 := h.kept hb0
  have hhas := has_any W0 B g L hI0 i
  obtain ⟨K, hK⟩ : ∃ K, K = w.heap.size := ⟨_, rfl⟩
  have hZ : BlkV W0 K 31 #[.int .i64 0, .int .i64 0, .int .i64 0, .slice none 0 0, .slice none 0 0] := by rw [hW0, hK]; exact BlkV.new w _ _
  have HW0 := Lib.hid hW0
  have HK := Lib.hid hK
  by_cases hin : 0 ≤ i ∧ i < L.length
  · rw [decide_eq_true hin] at hhas
    obtain ⟨k, rfl⟩ : ∃ k : Nat, i = (k : Int) := ⟨i.toNat, by omega⟩
    have hkl : k < L.length := by omega
    have hat : atL L (k : Int) = some L[k] := by unfold atL; rw [if_pos (by omega), Int.toNat_natCast, List.getElem?_eq_getElem hkl]
    rw [hat]
    obtain ⟨a, c, xs, h1, h2, h3⟩ := hI0.len0
    have hm := h3.get k hkl
    obtain ⟨n, hn⟩ : ∃ n, n = L.length := ⟨_, rfl⟩
    obtain ⟨M, hM⟩ : ∃ M, M = L[k] := ⟨_, rfl⟩
    have hlM := hl M (by rw [hM]; exact List.getElem_mem _)
    rw [← hM] at hm ⊢
    rw [← hn] at h1 h2 hkl hL
    obtain ⟨an, cn, ad, cd, hx, t1, t2⟩ := hm
    have hpos : ∃ G, a = some ⟨G, 0, none⟩ := by
      obtain ⟨g', cap, he, _⟩ := own_pos h2 (by omega)
      cases he
      exact ⟨g', rfl⟩
    obtain ⟨G, rfl⟩ := hpos
    have hcell : ∀ j, j < 5 → W0.cell? ⟨G, k * 5 + j, none⟩ = [Value.int .i64 M.fr, .int .i64 M.to, .int .i64 M.kd, .slice an M.nums.length cn, .slice ad M.data.length cd][j]? := fun j hj => by
      rw [← hx, List.getElem?_take, if_pos hj, List.getElem?_drop]
      have hlt : k * 5 + j < xs.length := by have := h2.1; omega
      have := h2.cells (g := G) rfl (k * 5 + j) xs[k * 5 + j] (List.getElem?_eq_getElem hlt)
      rw [Addr.add_lit, Nat.zero_add] at this
      rw [this, List.getElem?_eq_getElem hlt]
    have q0 := hcell 0 (by omega)
    have q1 := hcell 1 (by omega)
    have q2 := hcell 2 (by omega)
    have q3 := hcell 3 (by omega)
    have q4 := hcell 4 (by omega)
    simp only [List.getElem?_cons_succ, List.getElem?_cons_zero, Nat.add_zero] at q0 q1 q2 q3 q4
    have hown := own_any W0 M an ad cn cd t1.1 t2.1 hlM.1 hlM.2
    have c0 := h1.cell 0
    simp only [List.getElem?_toArray, List.getElem?_cons_zero] at c0
    have hki : (k : Int) < (n : Int) := by omega
    obtain ⟨nn, hnn⟩ : ∃ nn, nn = M.nums.length := ⟨_, rfl⟩
    obtain ⟨nd, hnd⟩ : ∃ nd, nd = M.data.length := ⟨_, rfl⟩
    unfold msV at hown
    rw [← hnn, ← hnd] at hown
    rw [← hnn] at q3
    rw [← hnd] at q4
    have HH := Lib.hid hhas
    have HB := Lib.hid hb0
    have HO := Lib.hid hown
    clear hhas hI0 h hW0 hK hb0 hat hl hin hown hcell h2 h3 h1 hx t1 t2 hlM hM hnn hnd hn
    go_enter Try.func14, Try.ntmps14
    go_wp2_with fail
    rw [← HW0.out, ← HK.out]
    refine HH.out.mono ?_
    rintro e w1 ⟨rfl, hw1⟩
    have hw1 := hw1.symm
    subst hw1
    go_wp2_with fail
    refine HO.out.mono ?_
    rintro e w3 ⟨x3, rfl, hx3, hb3⟩
    obtain ⟨an3, cn3, ad3, cd3, rfl⟩ := MsR.vals hx3
    have hZ3 := hZ.below hb3
    go_wp2_with (with_reducible refine At.store 31 (.tmp 4) (.tmp 18) ?_)
    refine At.out (wpList_storeV rfl _ rfl (.tmp 4) (.tmp 18) rfl strM K _ #[.int .i64 M.fr, .int .i64 M.to, .int .i64 M.kd, .slice an3 M.nums.length cn3, .slice ad3 M.data.length cd3] rfl rfl hZ3 rfl rfl (by simp [Value.oneCell']) ?_)
    intro w6 hB6 hbel6 hoth6
    have hb6 := hbel6 w.heap.size w (HB.out.trans (hb3.mono HB.out.size)) (by have := HK.out; omega)
    have hx6 := hx3.same hZ3 (by decide) (by decide) hoth6
    go_wp2_with fail
    exact bodyPost_ret (v := .tuple #[.agg #[.int .i64 M.fr, .int .i64 M.to, .int .i64 M.kd, .slice an3 M.nums.length cn3, .slice ad3 M.data.length cd3], .bool true]) (results_cell2 rfl strM rfl rfl hB6 rfl) rfl ⟨_, rfl, hx6, hb6⟩
  · rw [decide_eq_false hin] at hhas
    have hat : atL L i = none := by
      unfold atL
      by_cases h0 : 0 ≤ i
      · rw [if_pos h0, List.getElem?_eq_none (by omega)]
      · rw [if_neg h0]
    rw [hat]
    have HH := Lib.hid hhas
    have HB := Lib.hid hb0
    clear hhas hI0 h hW0 hK hb0 hat hl hin
    go_enter Try.func14, Try.ntmps14
    go_wp2_with fail
    rw [← HW0.out, ← HK.out]
    refine HH.out.mono ?_
    rintro e w1 ⟨rfl, hw1⟩
    have hw1 := hw1.symm
    subst hw1
    go_wp2_with (with_reducible refine At.store 31 (.tmp 4) (.tmp 10) ?_)
    refine At.out (wpList_storeV rfl _ rfl (.tmp 4) (.tmp 10) rfl strM K _ #[.int .i64 0, .int .i64 0, .int .i64 0, .slice none 0 0, .slice none 0 0] rfl rfl hZ rfl rfl (by simp [Value.oneCell']) ?_)
    intro w6 hB6 hbel6 _
    have hb6 := hbel6 w.heap.size w HB.out (by have := HK.out; omega)
    go_wp2_with fail
    exact bodyPost_ret (v := .tuple #[.agg #[.int .i64 0, .int .i64 0, .int .i64 0, .slice none 0 0, .slice none 0 0], .bool false]) (results_cell2 rfl strM rfl rfl hB6 rfl) rfl ⟨_, rfl, MsR.zero w6, hb6⟩
end Go.Proofs.Ytoagneajlfglcaa
