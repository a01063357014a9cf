/- net's Take and Twice: the contracts. Conditions: each contract's own premises. -/
import Derived.Test.YtoagneajlfglcaaNetDel
namespace Go.Proofs.Ytoagneajlfglcaa
open Go Go.RowKit

theorem RowR.one {w : World} : ∀ {L : List Ms} {xs : List Value}, RowR w xs L → ∀ u ∈ xs, u.oneCell' = true
  | [], xs, h => by rw [show xs = [] from h]; simp
  | M :: L, xs, h => by
    obtain ⟨x, r, rfl, h1, h2⟩ := h
    intro u hu
    rcases List.mem_append.1 hu with h | h
    · exact h1.one u h
    · exact RowR.one h2 u h
theorem own_blk {w w' : World} {B : Nat} {e : TypeId} {sz G n cap : Nat} {xs : List Value} (h : w.ownsRow B e sz (.slice (some ⟨G, 0, none⟩) n cap) n xs) (hh : w'.heap[G]? = w.heap[G]?) : w'.ownsRow B e sz (.slice (some ⟨G, 0, none⟩) n cap) n xs := by
  refine ⟨h.1, ?_⟩
  rcases h.2 with h' | ⟨k, cap', cur, hv, hb, hg, r⟩
  · exact .inl h'
  · cases hv
    exact .inr ⟨_, _, cur, rfl, hb, by rw [hh]; exact hg, r⟩
/-- The messages behind a Take. -/
def takeL (L : List Ms) (i : Int) : List Ms := if 0 ≤ i then L.eraseIdx i.toNat else L
/-- What Take gives. -/
def TakeP (w : World) (B g : Nat) (L : List Ms) (i : Int) (e : Ending) (w' : World) : Prop := ∃ x, e = .returned (.tuple #[.agg x, .bool (atL L i).isSome]) ∧ MsR w' x.toList ((atL L i).getD Ms.zero) ∧ NetI w' B g (takeL L i) ∧ Below B w w'

set_option maxRecDepth 100000 in
set_option maxHeartbeats 2000000 in
theorem take_any (w : World) (B g : Nat) (L : List Ms) (h : NetI w B g L) (hL : L.length ≤ 4096) (hl : ∀ M ∈ L, M.nums.length ≤ 100000000 ∧ M.data.length ≤ 100000000) (i : Int) :
    Calls Try.prog 10 #[.pointer (some ⟨g, 0, none⟩), .int .i64 i] w (TakeP w B g L i) := by
  have hBw : B ≤ w.heap.size := by
    obtain ⟨⟨v, xs, h1, _, _⟩, h4⟩ := h
    have := h1.lt; omega
  obtain ⟨W0, hW0⟩ : ∃ W0, W0 = w.alloc (.cells #[.int .i64 0, .int .i64 0, .int .i64 0, .slice none 0 0, .slice none 0 0] 31) := ⟨_, rfl⟩
  have hb0 : Below w.heap.size w W0 := by rw [hW0]; exact (Below.refl _ _).alloc (Nat.le_refl _) _
  have hI0 := h.kept hb0
  have hat := at_any W0 B g L hI0 hL hl i
  obtain ⟨K, hK⟩ : ∃ K, K = w.heap.size := ⟨_, rfl⟩
  have hZ : BlkV W0 K 31 #[.int .i64 0, .int .i64 0, .int .i64 0, .slice none 0 0, .slice none 0 0] := by rw [hW0, hK]; exact BlkV.new w _ _
  have HW0 := Lib.hid hW0
  have HK := Lib.hid hK
  have HAT := Lib.hid hat
  have HB := Lib.hid hb0
  by_cases hin : 0 ≤ i ∧ i < L.length
  · obtain ⟨k, rfl⟩ : ∃ k : Nat, i = (k : Int) := ⟨i.toNat, by omega⟩
    have hkl : k < L.length := by omega
    obtain ⟨M, hM⟩ : ∃ M, M = L[k] := ⟨_, rfl⟩
    have ha : atL L (k : Int) = some M := by unfold atL; rw [if_pos (by omega), Int.toNat_natCast, List.getElem?_eq_getElem hkl, hM]
    have ht : takeL L (k : Int) = L.eraseIdx k := by unfold takeL; rw [if_pos (by omega), Int.toNat_natCast]
    have hel : (L.eraseIdx k).length = L.length - 1 := by rw [List.length_eraseIdx, if_pos hkl]
    unfold TakeP
    rw [ha, ht]
    rw [ha] at HAT
    obtain ⟨a, c, xs, h1, h2, h3⟩ := h.len0
    have hgB := h.base
    obtain ⟨n, hn⟩ : ∃ n, n = L.length := ⟨_, rfl⟩
    rw [← hn] at h1 h2 hkl hL hel
    have hpos : ∃ G, a = some ⟨G, 0, none⟩ ∧ B ≤ G ∧ G < w.heap.size := by
      obtain ⟨g', cap, he, q1, q2, _⟩ := own_pos h2 (by omega)
      cases he
      exact ⟨g', rfl, q1, q2⟩
    obtain ⟨G, rfl, hBG, hGw⟩ := hpos
    have hone := h3.one
    have hxe := fun (W : World) (hr : RowR W xs L) => hr.erase k (by omega)
    have HXE := Lib.hid hxe
    clear hn
    clear ha ht hin hW0 hat h hI0 hM hxe hl
    go_enter Try.func10, Try.ntmps10
    go_wp2_with fail
    rw [← HW0.out, ← HK.out]
    refine HAT.out.mono ?_
    rintro e w1 ⟨x, rfl, hx1, hb1⟩
    have hx1 : MsR w1 x.toList M := hx1
    obtain ⟨an, cn, ad, cd, rfl⟩ := MsR.vals hx1
    have hZ1 := hZ.below hb1
    have hbw1 : Below w.heap.size w w1 := hb0.trans (hb1.mono hb0.size)
    have h11 := h1.below hbw1
    have h21 := own_below h2 hbw1
    have h31 := h3.map fun x M hm => MsR.kept hm hbw1
    obtain ⟨K2, hK2⟩ : ∃ K2, K2 = w1.heap.size := ⟨_, rfl⟩
    have hKK : K < K2 := by rw [hK2]; exact hZ1.lt
    obtain ⟨W2, hW2⟩ : ∃ W2, W2 = w1.alloc (.cells #[.int .i64 M.fr, .int .i64 M.to, .int .i64 M.kd, .slice an M.nums.length cn, .slice ad M.data.length cd] 31) := ⟨_, rfl⟩
    have hb2 : Below w1.heap.size w1 W2 := by rw [hW2]; exact (Below.refl _ _).alloc (Nat.le_refl _) _
    have hT2 : BlkV W2 K2 31 #[.int .i64 M.fr, .int .i64 M.to, .int .i64 M.kd, .slice an M.nums.length cn, .slice ad M.data.length cd] := by rw [hW2, hK2]; exact BlkV.new w1 _ _
    have hZ2 := hZ1.below hb2
    have h12 := h11.below hb2
    have h22 := own_below h21 hb2
    have h32 := h31.map fun x M hm => MsR.kept hm hb2
    have hx2 := hx1.kept hb2
    have c0 := h11.cell 0
    have z0 := h11.lt
    simp only [List.getElem?_toArray, List.getElem?_cons_zero] at c0
    have hbw2 : Below w.heap.size w W2 := hbw1.trans (hb2.mono hbw1.size)
    have hdel := delete_any W2 B G c n k xs h22 hkl (by omega) hone
    rw [show ((k + 1 : Nat) : Int) = (k : Int) + 1 by omega] at hdel
    have HDEL := Lib.hid hdel
    have HW2 := Lib.hid hW2
    have HK2 := Lib.hid hK2
    have wr1 : IntKind.i64.wrap ((k : Int) + 1) = (k : Int) + 1 := IntWalk.i64_in _ (by omega)
    have HHB := Lib.hid hbw2
    have hgG : g ≠ G := by
      rintro rfl
      obtain ⟨cs, fr, hh⟩ := own_type h22 g rfl
      rw [show W2.heap[g]? = _ from h12] at hh
      cases hh
    have hKG : K ≠ G := by have := HK.out; omega
    have hK2G : K2 ≠ G := by have := HK.out; omega
    have hgK : g ≠ K := by have := h1.lt; have := HK.out; omega
    have hgK2 : g ≠ K2 := by have := h1.lt; have := HK.out; omega
    clear hdel hW2 hK2 hb2 h11 h21 h31 hx1 hZ1 hbw1 h1 h2 h3 hb1 hZ hbw2 hone hb0 hK
    go_wp2_with fail
    rw [← HW2.out]
    refine HDEL.out.mono ?_
    rintro e w3 ⟨rfl, ho3, hg3⟩
    rw [← HK2.out]
    have hrow : ∀ q, some G = some q → ∃ cs fr, W2.heap[q]? = some (.cells cs 31 fr) := own_type h22
    have h13 := h12.grown hg3 hrow (by decide)
    have h33 := (HXE.out W2 h32).map fun x M' hm => MsR.grown hm hg3 hrow (by decide) (by decide)
    have hx3 := hx2.grown hg3 hrow (by decide) (by decide)
    have hT3 : BlkV w3 K2 31 #[.int .i64 M.fr, .int .i64 M.to, .int .i64 M.kd, .slice an M.nums.length cn, .slice ad M.data.length cd] := by
      unfold BlkV
      rw [hg3.block K2 hT2.lt (fun e => hK2G (Option.some.inj e))]
      exact hT2
    have hZ3 : BlkV w3 K 31 #[.int .i64 0, .int .i64 0, .int .i64 0, .slice none 0 0, .slice none 0 0] := by
      unfold BlkV
      rw [hg3.block K hZ2.lt (fun e => hKG (Option.some.inj e))]
      exact hZ2
    have hs : ∀ q, q ≠ g → (w3.setCell ⟨g, 0, none⟩ (.slice (some ⟨G, 0, none⟩) (n - 1) c)).heap[q]? = w3.heap[q]? := fun q hq => Below.heap_setCell w3 ⟨g, 0, none⟩ _ q hq
    have hx4 := hx3.same h13 (by decide) (by decide) hs
    have h14 := h13.set 0 (.slice (some ⟨G, 0, none⟩) (n - 1) c)
    have h24 := own_blk ho3 (hs G hgG.symm)
    have h34 := h33.map fun x M' hm => MsR.same hm h13 (by decide) (by decide) hs
    have hT4 := hT3.far hgK2.symm 0 (.slice (some ⟨G, 0, none⟩) (n - 1) c)
    have hZ4 := hZ3.far hgK.symm 0 (.slice (some ⟨G, 0, none⟩) (n - 1) c)
    have hb4 : Below B w (w3.setCell ⟨g, 0, none⟩ (.slice (some ⟨G, 0, none⟩) (n - 1) c)) := by
      refine Below.setCell (p := ⟨g, 0, none⟩) ?_ hgB _
      exact (HHB.out.mono hBw).trans (below_grown hg3 (by have := HHB.out.size; omega) (fun q hq => by cases hq; exact hBG))
    have d0 := h13.cell 0
    have f0 := h13.frozen 0
    simp only [List.getElem?_toArray, List.getElem?_cons_zero] at d0
    have hKG2 := Lib.hid hKG
    have HGG := Lib.hid hgK
    have HX4 := Lib.hid hx4
    have HB4 := Lib.hid hb4
    obtain ⟨W5, hW5⟩ : ∃ W5, W5 = w3.setCell ⟨g, 0, none⟩ (.slice (some ⟨G, 0, none⟩) (n - 1) c) := ⟨_, rfl⟩
    rw [← hW5] at h14 h24 h34 HX4 HB4 hT4 hZ4
    have HW5 := Lib.hid hW5
    clear hrow h13 h33 hx3 hT3 hZ3 hs hx4 hb4 hW5 ho3 hg3 h12 h22 h32 hx2 hT2 hZ2 HHB c0 z0 hgG hKG hK2G hgK hgK2 HDEL HW2 HXE
    go_wp2_with (with_reducible refine At.slot 26 ?_)
    rw [← HW5.out]
    refine At.out (wpList_loadV rfl _ rfl (.tmp 6) rfl strM K2 _ rfl hT4 rfl ?_)
    go_wp2_with (with_reducible refine At.store 31 (.tmp 4) (.tmp 26) ?_)
    refine At.out (wpList_storeV rfl _ rfl (.tmp 4) (.tmp 26) rfl strM K _ #[.int .i64 M.fr, .int .i64 M.to, .int .i64 M.kd, .slice an M.nums.length cn, .slice ad M.data.length cd] rfl rfl hZ4 rfl rfl (by simp [Value.oneCell']) ?_)
    intro w6 hB6 hbel6 hoth6
    have hb6 := hbel6 B w HB4.out (by have := HK.out; omega)
    have hx6 := HX4.out.same hZ4 (by decide) (by decide) hoth6
    have hI6 : NetI w6 B g (L.eraseIdx k) := by
      refine ⟨⟨.slice (some ⟨G, 0, none⟩) (n - 1) c, _, ?_, own_len (own_blk h24 (hoth6 G hKG2.out.symm)) hel.symm, h34.map fun x M' hm => MsR.same hm hZ4 (by decide) (by decide) hoth6⟩, hgB⟩
      unfold BlkV
      rw [hoth6 g HGG.out]
      exact h14
    go_wp2_with fail
    exact bodyPost_ret (v := .tuple #[.agg #[.int .i64 M.fr, .int .i64 M.to, .int .i64 M.kd, .slice an M.nums.length cn, .slice ad M.data.length cd], .bool true]) (results_cell2 rfl strM rfl rfl hB6 rfl) rfl ⟨_, rfl, hx6, hI6, hb6⟩
  · have ha : atL L i = none := by
      unfold atL
      by_cases h0 : 0 ≤ i
      · rw [if_pos h0, List.getElem?_eq_none (by omega)]
      · rw [if_neg h0]
    have ht : takeL L i = L := by
      unfold takeL
      by_cases h0 : 0 ≤ i
      · rw [if_pos h0, List.eraseIdx_of_length_le (by omega)]
      · rw [if_neg h0]
    unfold TakeP
    rw [ha, ht]
    rw [ha] at HAT
    clear ha ht hin hW0 hat hl
    go_enter Try.func10, Try.ntmps10
    go_wp2_with fail
    rw [← HW0.out, ← HK.out]
    refine HAT.out.mono ?_
    rintro e w1 ⟨x, rfl, hx1, hb1⟩
    have hx1 : MsR w1 x.toList Ms.zero := hx1
    obtain ⟨an, cn, ad, cd, rfl⟩ := MsR.vals hx1
    have hZ1 := hZ.below hb1
    have hbw1 : Below w.heap.size w w1 := hb0.trans (hb1.mono hb0.size)
    have hI1 := h.kept hbw1
    obtain ⟨K2, hK2⟩ : ∃ K2, K2 = w1.heap.size := ⟨_, rfl⟩
    obtain ⟨W2, hW2⟩ : ∃ W2, W2 = w1.alloc (.cells #[.int .i64 0, .int .i64 0, .int .i64 0, .slice an 0 cn, .slice ad 0 cd] 31) := ⟨_, rfl⟩
    have hb2 : Below w1.heap.size w1 W2 := by rw [hW2]; exact (Below.refl _ _).alloc (Nat.le_refl _) _
    have hT2 : BlkV W2 K2 31 #[.int .i64 0, .int .i64 0, .int .i64 0, .slice an 0 cn, .slice ad 0 cd] := by rw [hW2, hK2]; exact BlkV.new w1 _ _
    have hZ2 := hZ1.below hb2
    have hbw2 := hbw1.trans (hb2.mono hbw1.size)
    have hx2 := hx1.kept hb2
    have HW2 := Lib.hid hW2
    have HK2 := Lib.hid hK2
    have HI := Lib.hid h
    have HBW := Lib.hid hbw2
    clear hW2 hK2 hb2 hZ1 hbw1 hI1 hx1 hb1 hZ h hI0 hbw2 hb0 hK
    go_wp2_with (with_reducible refine At.slot 26 ?_)
    rw [show Ms.zero.fr = 0 from rfl, show Ms.zero.to = 0 from rfl, show Ms.zero.kd = 0 from rfl, show Ms.zero.nums.length = 0 from rfl, show Ms.zero.data.length = 0 from rfl, ← HW2.out, ← HK2.out]
    refine At.out (wpList_loadV rfl _ rfl (.tmp 6) rfl strM K2 _ rfl hT2 rfl ?_)
    go_wp2_with (with_reducible refine At.store 31 (.tmp 4) (.tmp 26) ?_)
    refine At.out (wpList_storeV rfl _ rfl (.tmp 4) (.tmp 26) rfl strM K _ #[.int .i64 0, .int .i64 0, .int .i64 0, .slice an 0 cn, .slice ad 0 cd] rfl rfl hZ2 rfl rfl (by simp [Value.oneCell']) ?_)
    intro w6 hB6 hbel6 hoth6
    have hb6 := hbel6 w.heap.size w HBW.out (by have := HK.out; omega)
    have hx6 := hx2.same hZ2 (by decide) (by decide) hoth6
    have hI6 := HI.out.kept hb6
    go_wp2_with fail
    exact bodyPost_ret (v := .tuple #[.agg #[.int .i64 0, .int .i64 0, .int .i64 0, .slice an 0 cn, .slice ad 0 cd], .bool false]) (results_cell2 rfl strM rfl rfl hB6 rfl) rfl ⟨_, rfl, hx6, hI6, hb6.mono hBw⟩
end Go.Proofs.Ytoagneajlfglcaa
