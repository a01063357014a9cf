/- net's Take and Twice: the blocks that they write are the Net's own. Conditions: each contract's own premises. -/
import Derived.Test.YtoagneajlfglcaaNetSendF
namespace Go.Proofs.Ytoagneajlfglcaa
open Go Go.RowKit

/-- What Take gives. -/
def TakeF (w : World) (F : Nat → Prop) (g : Nat) (L : List Ms) (i : Int) (e : Ending) (w' : World) : Prop := ∃ x, e = .returned (.tuple #[.agg x, .bool (atL L i).isSome]) ∧ MsO w' w.heap.size x.toList ((atL L i).getD Ms.zero) ∧ NetF 26 w' F g (takeL L i) ∧ Off F w w'

set_option maxRecDepth 100000 in
set_option maxHeartbeats 2000000 in
theorem take_f (w : World) (F : Nat → Prop) (g : Nat) (L : List Ms) (hF : NetF 26 w F g L) (hL : L.length ≤ 4096) (hl : ∀ M ∈ L, M.nums.length ≤ 100000000 ∧ M.data.length ≤ 100000000) (i : Int) :
    Calls Try.prog 10 #[.pointer (some ⟨g, 0, none⟩), .int .i64 i] w (TakeF w F g L i) := by
  have h := hF.toI
  obtain ⟨W0, hW0⟩ : ∃ W0, W0 = w.alloc (.cells #[.int .i64 0, .int .i64 0, .int .i64 0, .slice none 0 0, .slice none 0 0] 31) := ⟨_, rfl⟩
  have hb0 : Below w.heap.size w W0 := by rw [hW0]; exact (Below.refl _ _).alloc (Nat.le_refl _) _
  have hI0 := h.kept hb0
  have hat := at_o W0 0 g L hI0 hL hl i
  obtain ⟨K, hK⟩ : ∃ K, K = w.heap.size := ⟨_, rfl⟩
  have hZ : BlkV W0 K 31 #[.int .i64 0, .int .i64 0, .int .i64 0, .slice none 0 0, .slice none 0 0] := by rw [hW0, hK]; exact BlkV.new w _ _
  have HW0 := Lib.hid hW0
  have HK := Lib.hid hK
  have HAT := Lib.hid hat
  have HB := Lib.hid hb0
  by_cases hin : 0 ≤ i ∧ i < L.length
  · obtain ⟨k, rfl⟩ : ∃ k : Nat, i = (k : Int) := ⟨i.toNat, by omega⟩
    have hkl : k < L.length := by omega
    obtain ⟨M, hM⟩ : ∃ M, M = L[k] := ⟨_, rfl⟩
    have ha : atL L (k : Int) = some M := by unfold atL; rw [if_pos (by omega), Int.toNat_natCast, List.getElem?_eq_getElem hkl, hM]
    have ht : takeL L (k : Int) = L.eraseIdx k := by unfold takeL; rw [if_pos (by omega), Int.toNat_natCast]
    have hel : (L.eraseIdx k).length = L.length - 1 := by rw [List.length_eraseIdx, if_pos hkl]
    unfold TakeF
    rw [ha, ht]
    rw [ha] at HAT
    obtain ⟨a, c, xs, h1, h2, h3, hv4, hv5⟩ : ∃ a c xs, BlkV w g 26 #[.slice a L.length c] ∧ w.ownsRow 0 31 5 (.slice a L.length c) L.length xs ∧ RowR w xs L ∧ (∀ k, (Value.slice a L.length c).ownBlock = some k → F k) ∧ ∀ u ∈ xs, ValF F u := by
      obtain ⟨⟨v, xs, e1, e2, e3, e4, e5⟩, _, _⟩ := hF
      obtain ⟨a, c, rfl⟩ := own_slice e2
      exact ⟨a, c, xs, e1, e2, e3, e4, e5⟩
    have hF6 := hF.own
    have hF7 := hF.lt
    obtain ⟨n, hn⟩ : ∃ n, n = L.length := ⟨_, rfl⟩
    rw [← hn] at h1 h2 hkl hL hel hv4
    have hpos : ∃ G, a = some ⟨G, 0, none⟩ ∧ 0 ≤ G ∧ G < w.heap.size := by
      obtain ⟨g', cap, he, q1, q2, _⟩ := own_pos h2 (by omega)
      cases he
      exact ⟨g', rfl, q1, q2⟩
    obtain ⟨G, rfl, _, hGw⟩ := hpos
    have hFG : F G := hv4 G rfl
    have HFG := Lib.hid hFG
    have HF5 := Lib.hid hv5
    have HF6 := Lib.hid hF6
    have HF7 := Lib.hid hF7
    clear hFG hv4 hv5 hF6 hF7
    have hone := h3.one
    have hxe := fun (W : World) (hr : RowR W xs L) => hr.erase k (by omega)
    have HXE := Lib.hid hxe
    clear hn
    clear ha ht hin hW0 hat h hI0 hM hxe hl hF
    go_enter Try.func10, Try.ntmps10
    go_wp2_with fail
    rw [← HW0.out, ← HK.out]
    refine HAT.out.mono ?_
    rintro e w1 ⟨x, rfl, hx1, hb1⟩
    have hx1 : MsO w1 W0.heap.size x.toList M := hx1
    have hx1 := hx1.base hb0.size
    obtain ⟨an, cn, ad, cd, rfl⟩ := MsO.vals hx1
    have hZ1 := hZ.below hb1
    have hbw1 : Below w.heap.size w w1 := hb0.trans (hb1.mono hb0.size)
    have h11 := h1.below hbw1
    have h21 := own_below h2 hbw1
    have h31 := h3.map fun x M hm => MsR.kept hm hbw1
    obtain ⟨K2, hK2⟩ : ∃ K2, K2 = w1.heap.size := ⟨_, rfl⟩
    have hKK : K < K2 := by rw [hK2]; exact hZ1.lt
    obtain ⟨W2, hW2⟩ : ∃ W2, W2 = w1.alloc (.cells #[.int .i64 M.fr, .int .i64 M.to, .int .i64 M.kd, .slice an M.nums.length cn, .slice ad M.data.length cd] 31) := ⟨_, rfl⟩
    have hb2 : Below w1.heap.size w1 W2 := by rw [hW2]; exact (Below.refl _ _).alloc (Nat.le_refl _) _
    have hT2 : BlkV W2 K2 31 #[.int .i64 M.fr, .int .i64 M.to, .int .i64 M.kd, .slice an M.nums.length cn, .slice ad M.data.length cd] := by rw [hW2, hK2]; exact BlkV.new w1 _ _
    have hZ2 := hZ1.below hb2
    have h12 := h11.below hb2
    have h22 := own_below h21 hb2
    have h32 := h31.map fun x M hm => MsR.kept hm hb2
    have hx2 := hx1.kept hb2
    have c0 := h11.cell 0
    have z0 := h11.lt
    simp only [List.getElem?_toArray, List.getElem?_cons_zero] at c0
    have hbw2 : Below w.heap.size w W2 := hbw1.trans (hb2.mono hbw1.size)
    have hdel := delete_any W2 0 G c n k xs h22 hkl (by omega) hone
    rw [show ((k + 1 : Nat) : Int) = (k : Int) + 1 by omega] at hdel
    have HDEL := Lib.hid hdel
    have HW2 := Lib.hid hW2
    have HK2 := Lib.hid hK2
    have wr1 : IntKind.i64.wrap ((k : Int) + 1) = (k : Int) + 1 := IntWalk.i64_in _ (by omega)
    have HHB := Lib.hid hbw2
    have hgG : g ≠ G := by
      rintro rfl
      obtain ⟨cs, fr, hh⟩ := own_type h22 g rfl
      rw [show W2.heap[g]? = _ from h12] at hh
      cases hh
    have hKG : K ≠ G := by have := HK.out; omega
    have hK2G : K2 ≠ G := by have := HK.out; omega
    have hgK : g ≠ K := by have := h1.lt; have := HK.out; omega
    have hgK2 : g ≠ K2 := by have := h1.lt; have := HK.out; omega
    clear hdel hW2 hK2 hb2 h11 h21 h31 hx1 hZ1 hbw1 h1 h2 h3 hb1 hZ hbw2 hone hb0 hK
    go_wp2_with fail
    rw [← HW2.out]
    refine HDEL.out.mono ?_
    rintro e w3 ⟨rfl, ho3, hg3⟩
    rw [← HK2.out]
    have hrow : ∀ q, some G = some q → ∃ cs fr, W2.heap[q]? = some (.cells cs 31 fr) := own_type h22
    have h13 := h12.grown hg3 hrow (by decide)
    have h33 := (HXE.out W2 h32).map fun x M' hm => MsR.grown hm hg3 hrow (by decide) (by decide)
    have hx3 := hx2.grown hg3 hrow (by decide) (by decide)
    have hT3 : BlkV w3 K2 31 #[.int .i64 M.fr, .int .i64 M.to, .int .i64 M.kd, .slice an M.nums.length cn, .slice ad M.data.length cd] := by
      unfold BlkV
      rw [hg3.block K2 hT2.lt (fun e => hK2G (Option.some.inj e))]
      exact hT2
    have hZ3 : BlkV w3 K 31 #[.int .i64 0, .int .i64 0, .int .i64 0, .slice none 0 0, .slice none 0 0] := by
      unfold BlkV
      rw [hg3.block K hZ2.lt (fun e => hKG (Option.some.inj e))]
      exact hZ2
    have hs : ∀ q, q ≠ g → (w3.setCell ⟨g, 0, none⟩ (.slice (some ⟨G, 0, none⟩) (n - 1) c)).heap[q]? = w3.heap[q]? := fun q hq => Below.heap_setCell w3 ⟨g, 0, none⟩ _ q hq
    have hx4 := hx3.same h13 (by decide) (by decide) hs
    have h14 := h13.set 0 (.slice (some ⟨G, 0, none⟩) (n - 1) c)
    have h24 := own_blk ho3 (hs G hgG.symm)
    have h34 := h33.map fun x M' hm => MsR.same hm h13 (by decide) (by decide) hs
    have hT4 := hT3.far hgK2.symm 0 (.slice (some ⟨G, 0, none⟩) (n - 1) c)
    have hZ4 := hZ3.far hgK.symm 0 (.slice (some ⟨G, 0, none⟩) (n - 1) c)
    have hb4 : Off F w (w3.setCell ⟨g, 0, none⟩ (.slice (some ⟨G, 0, none⟩) (n - 1) c)) :=
      ((Off.ofBelow HHB.out).then (Off.ofGrown hg3 fun q hq => by cases hq; exact HFG.out)).then (Off.setCell (p := ⟨g, 0, none⟩) HF6.out _)
    have d0 := h13.cell 0
    have f0 := h13.frozen 0
    simp only [List.getElem?_toArray, List.getElem?_cons_zero] at d0
    have hKG2 := Lib.hid hKG
    have HGG := Lib.hid hgK
    have HX4 := Lib.hid hx4
    have HB4 := Lib.hid hb4
    obtain ⟨W5, hW5⟩ : ∃ W5, W5 = w3.setCell ⟨g, 0, none⟩ (.slice (some ⟨G, 0, none⟩) (n - 1) c) := ⟨_, rfl⟩
    rw [← hW5] at h14 h24 h34 HX4 HB4 hT4 hZ4
    have HW5 := Lib.hid hW5
    clear hrow h13 h33 hx3 hT3 hZ3 hs hx4 hb4 hW5 ho3 hg3 h12 h22 h32 hx2 hT2 hZ2 HHB c0 z0 hgG hKG hK2G hgK hgK2 HDEL HW2 HXE
    go_wp2_with (with_reducible refine At.slot 26 ?_)
    rw [← HW5.out]
    refine At.out (wpList_loadV rfl _ rfl (.tmp 6) rfl strM K2 _ rfl hT4 rfl ?_)
    go_wp2_with (with_reducible refine At.store 31 (.tmp 4) (.tmp 26) ?_)
    refine At.out (wpList_storeV rfl _ rfl (.tmp 4) (.tmp 26) rfl strM K _ #[.int .i64 M.fr, .int .i64 M.to, .int .i64 M.kd, .slice an M.nums.length cn, .slice ad M.data.length cd] rfl rfl hZ4 rfl rfl (by simp [Value.oneCell']) ?_)
    intro w6 hB6 hbel6 hoth6
    have hsz6 : W5.heap.size ≤ w6.heap.size := (hbel6 0 W5 (Below.refl _ _) (Nat.zero_le _)).size
    have hb6 : Off F w w6 := HB4.out.trans (G := (· = K)) (Off.ofOne (hbel6 0 W5 (Below.refl _ _) (Nat.zero_le _)) hoth6 rfl) fun q hq => .inr (by have := HK.out; omega)
    have hx6 := HX4.out.same hZ4 (by decide) (by decide) hoth6
    have hI6 : NetF 26 w6 F g (L.eraseIdx k) := by
      refine ⟨⟨.slice (some ⟨G, 0, none⟩) (n - 1) c, xs.take (k * 5) ++ xs.drop ((k + 1) * 5), ?_, own_len (own_blk h24 (hoth6 G hKG2.out.symm)) hel.symm, h34.map fun x M' hm => MsR.same hm hZ4 (by decide) (by decide) hoth6, ?_, ?_⟩, HF6.out, ?_⟩
      · unfold BlkV
        rw [hoth6 g HGG.out]
        exact h14
      · intro q hq
        cases hq
        exact HFG.out
      · intro y hy
        refine HF5.out y ?_
        rcases List.mem_append.1 hy with h | h
        · exact List.mem_of_mem_take h
        · exact List.mem_of_mem_drop h
      · intro q hq
        have := HF7.out q hq
        have := hb6.size
        omega
    go_wp2_with fail
    exact bodyPost_ret (v := .tuple #[.agg #[.int .i64 M.fr, .int .i64 M.to, .int .i64 M.kd, .slice an M.nums.length cn, .slice ad M.data.length cd], .bool true]) (results_cell2 rfl strM rfl rfl hB6 rfl) rfl ⟨_, rfl, hx6, hI6, hb6⟩
  · have ha : atL L i = none := by
      unfold atL
      by_cases h0 : 0 ≤ i
      · rw [if_pos h0, List.getElem?_eq_none (by omega)]
      · rw [if_neg h0]
    have ht : takeL L i = L := by
      unfold takeL
      by_cases h0 : 0 ≤ i
      · rw [if_pos h0, List.eraseIdx_of_length_le (by omega)]
      · rw [if_neg h0]
    unfold TakeF
    rw [ha, ht]
    rw [ha] at HAT
    clear ha ht hin hW0 hat hl
    have HFF := Lib.hid hF
    clear hF
    go_enter Try.func10, Try.ntmps10
    go_wp2_with fail
    rw [← HW0.out, ← HK.out]
    refine HAT.out.mono ?_
    rintro e w1 ⟨x, rfl, hx1, hb1⟩
    have hx1 : MsO w1 W0.heap.size x.toList Ms.zero := hx1
    have hx1 := hx1.base hb0.size
    obtain ⟨an, cn, ad, cd, rfl⟩ := MsO.vals hx1
    have hZ1 := hZ.below hb1
    have hbw1 : Below w.heap.size w w1 := hb0.trans (hb1.mono hb0.size)
    have hI1 := h.kept hbw1
    obtain ⟨K2, hK2⟩ : ∃ K2, K2 = w1.heap.size := ⟨_, rfl⟩
    obtain ⟨W2, hW2⟩ : ∃ W2, W2 = w1.alloc (.cells #[.int .i64 0, .int .i64 0, .int .i64 0, .slice an 0 cn, .slice ad 0 cd] 31) := ⟨_, rfl⟩
    have hb2 : Below w1.heap.size w1 W2 := by rw [hW2]; exact (Below.refl _ _).alloc (Nat.le_refl _) _
    have hT2 : BlkV W2 K2 31 #[.int .i64 0, .int .i64 0, .int .i64 0, .slice an 0 cn, .slice ad 0 cd] := by rw [hW2, hK2]; exact BlkV.new w1 _ _
    have hZ2 := hZ1.below hb2
    have hbw2 := hbw1.trans (hb2.mono hbw1.size)
    have hx2 := hx1.kept hb2
    have HW2 := Lib.hid hW2
    have HK2 := Lib.hid hK2
    have HI := Lib.hid h
    have HBW := Lib.hid hbw2
    clear hW2 hK2 hb2 hZ1 hbw1 hI1 hx1 hb1 hZ h hI0 hbw2 hb0 hK
    go_wp2_with (with_reducible refine At.slot 26 ?_)
    rw [show Ms.zero.fr = 0 from rfl, show Ms.zero.to = 0 from rfl, show Ms.zero.kd = 0 from rfl, show Ms.zero.nums.length = 0 from rfl, show Ms.zero.data.length = 0 from rfl, ← HW2.out, ← HK2.out]
    refine At.out (wpList_loadV rfl _ rfl (.tmp 6) rfl strM K2 _ rfl hT2 rfl ?_)
    go_wp2_with (with_reducible refine At.store 31 (.tmp 4) (.tmp 26) ?_)
    refine At.out (wpList_storeV rfl _ rfl (.tmp 4) (.tmp 26) rfl strM K _ #[.int .i64 0, .int .i64 0, .int .i64 0, .slice an 0 cn, .slice ad 0 cd] rfl rfl hZ2 rfl rfl (by simp [Value.oneCell']) ?_)
    intro w6 hB6 hbel6 hoth6
    have hb6 := hbel6 w.heap.size w HBW.out (by have := HK.out; omega)
    have hx6 := hx2.same hZ2 (by decide) (by decide) hoth6
    have hI6 : NetF 26 w6 F g L := HFF.out.kept hb6
    go_wp2_with fail
    exact bodyPost_ret (v := .tuple #[.agg #[.int .i64 0, .int .i64 0, .int .i64 0, .slice an 0 cn, .slice ad 0 cd], .bool false]) (results_cell2 rfl strM rfl rfl hB6 rfl) rfl ⟨_, rfl, hx6, hI6, Off.ofBelow hb6⟩
set_option maxRecDepth 100000 in
set_option maxHeartbeats 2000000 in
theorem twice_f (w : World) (F : Nat → Prop) (g : Nat) (L : List Ms) (h : NetF 26 w F g L) (hL : L.length ≤ 4096) (hl : ∀ M ∈ L, M.nums.length ≤ 100000000 ∧ M.data.length ≤ 100000000) (i : Int) :
    Calls Try.prog 8 #[.pointer (some ⟨g, 0, none⟩), .int .i64 i] w fun e w' => e = .returned (.bool (twiceB L i)) ∧ NetF 26 w' (grew F w w') g (twiceL L i) ∧ Off F w w' := by
  have hat := at_o w 0 g L h.toI hL hl i
  cases ha : atL L i with
  | none =>
    rw [ha] at hat
    have HAT := Lib.hid hat
    have HI := Lib.hid h
    have hb : twiceB L i = false := by unfold twiceB; rw [ha]; rfl
    have hl' : twiceL L i = L := by unfold twiceL; rw [ha]
    rw [hb, hl']
    clear hat h hl ha hb hl'
    go_enter Try.func8, Try.ntmps8
    go_wp2_with fail
    refine HAT.out.mono ?_
    rintro e w1 ⟨x, rfl, hx1, hb1⟩
    have hx1 : MsR w1 x.toList Ms.zero := hx1.toR
    obtain ⟨an, cn, ad, cd, rfl⟩ := MsR.vals hx1
    have hI1 := HI.out.kept hb1
    have hI2 := fun o => hI1.kept ((Below.refl w1.heap.size w1).alloc (Nat.le_refl _) o)
    have H2 := Lib.hid hI2
    have HB1 := Lib.hid hb1
    clear hI1 hI2 hx1 hb1
    go_wp2
    go_ret
    have hbb := fun o => HB1.out.trans ((Below.refl w.heap.size w1).alloc HB1.out.size o)
    exact ⟨rfl, (H2.out _).grewn, Off.ofBelow (hbb _)⟩
  | some M =>
    rw [ha] at hat
    have hlM := hl M (atL_mem ha)
    have HAT := Lib.hid hat
    have HI := Lib.hid h
    have hb : twiceB L i = decide (L.length < 4096) := by unfold twiceB; rw [ha]; rfl
    have hl' : twiceL L i = sendL L M := by unfold twiceL; rw [ha]
    rw [hb, hl']
    obtain ⟨r, hr⟩ : ∃ r, r = decide (L.length < 4096) := ⟨_, rfl⟩
    rw [← hr]
    have HR := Lib.hid hr
    clear hat h hl ha hb hl' hr
    go_enter Try.func8, Try.ntmps8
    go_wp2_with fail
    refine HAT.out.mono ?_
    rintro e w1 ⟨x, rfl, hx1, hb1⟩
    have hx1 : MsR w1 x.toList M := hx1.toR
    have hI1 := HI.out.kept hb1
    obtain ⟨an, cn, ad, cd, hxe, t1, t2⟩ := hx1
    obtain rfl : x = #[.int .i64 M.fr, .int .i64 M.to, .int .i64 M.kd, .slice an M.nums.length cn, .slice ad M.data.length cd] := by rw [← Array.toList_inj, hxe]
    obtain ⟨W2, hW2⟩ : ∃ W2, W2 = w1.alloc (.cells #[.int .i64 M.fr, .int .i64 M.to, .int .i64 M.kd, .slice an M.nums.length cn, .slice ad M.data.length cd] 31) := ⟨_, rfl⟩
    have hb2 : Below w1.heap.size w1 W2 := by rw [hW2]; exact (Below.refl _ _).alloc (Nat.le_refl _) _
    have hs := send_f W2 F g L (hI1.kept hb2) hL M an ad cn cd (t1.1.kept hb2) (t2.1.kept hb2) hlM.1 hlM.2
    unfold msV at hs
    rw [← HR.out] at hs
    have HS := Lib.hid hs
    have HW2 := Lib.hid hW2
    have HB1 := Lib.hid (hb1.trans (hb2.mono hb1.size))
    clear hs hW2 hb1 hb2 hI1 t1 t2 hxe
    go_wp2_with fail
    rw [← HW2.out]
    refine HS.out.mono ?_
    rintro e w3 ⟨rfl, hI3, hb3⟩
    have HI3 : Hid (NetF 26 w3 (grew F W2 w3) g (sendL L M)) := Lib.hid hI3
    have HB3 := Lib.hid hb3
    clear hI3 hb3
    go_wp2
    go_ret
    have hoo : Off F w w3 := (Off.ofBelow HB1.out).then HB3.out
    refine ⟨rfl, HI3.out.sub (fun q hq => hq.elim .inl fun h => .inr ⟨Nat.le_trans HB1.out.size h.1, h.2⟩) ?_, hoo⟩
    rintro q (hq | hq)
    · exact HI3.out.lt q (.inl hq)
    · exact hq.2
end Go.Proofs.Ytoagneajlfglcaa
