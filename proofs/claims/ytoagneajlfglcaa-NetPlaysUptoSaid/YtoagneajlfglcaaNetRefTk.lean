/- The document's Take: the contract. Conditions: its own premises. -/
import Derived.Test.YtoagneajlfglcaaNetRefTw
namespace Go.Proofs.Ytoagneajlfglcaa
open Go Go.RowKit

theorem own_emptyM (w : World) : (w.alloc (.cells #[] 31)).ownsRow w.heap.size 31 5 (.slice (some ⟨w.heap.size, 0, none⟩) 0 0) 0 [] := by
  have := World.ownsRow_lit (e := 31) (size := 5) w #[] 0 (Nat.le_refl w.heap.size) (by unfold maxLen; omega) rfl
  simpa using this
/-- What Take gives. -/
def RefTakeP (w : World) (F : Nat → Prop) (g : Nat) (L : List Ms) (i : Int) (e : Ending) (w' : World) : Prop := ∃ (x : Array Value) (Q : Nat → Prop), e = .returned (.tuple #[.agg x, .bool (atL L i).isSome]) ∧ MsO w' w.heap.size x.toList ((atL L i).getD Ms.zero) ∧ NetF 41 w' (fun k => F k ∨ Q k) g (takeL L i) ∧ (∀ k, Q k → w.heap.size ≤ k ∧ ∃ cs fr, w'.heap[k]? = some (.cells cs 31 fr)) ∧ Off F w w'

set_option maxRecDepth 100000 in
set_option maxHeartbeats 2000000 in
theorem refTake_f (w : World) (F : Nat → Prop) (g : Nat) (L : List Ms) (hF : NetF 41 w F g L) (hL : L.length ≤ 4096) (hl : ∀ M ∈ L, M.nums.length ≤ 100000000 ∧ M.data.length ≤ 100000000) (i : Int) :
    Calls Try.prog 16 #[.pointer (some ⟨g, 0, none⟩), .int .i64 i] w (RefTakeP w F g L i) := by
  have h := hF
  obtain ⟨W0, hW0⟩ : ∃ W0, W0 = w.alloc (.cells #[.int .i64 0, .int .i64 0, .int .i64 0, .slice none 0 0, .slice none 0 0] 31) := ⟨_, rfl⟩
  have hb0 : Below w.heap.size w W0 := by rw [hW0]; exact (Below.refl _ _).alloc (Nat.le_refl _) _
  have hI0 := h.kept hb0
  have hat := refAt_o W0 F g L hI0 hL hl i
  obtain ⟨K, hK⟩ : ∃ K, K = w.heap.size := ⟨_, rfl⟩
  have hZ : BlkV W0 K 31 #[.int .i64 0, .int .i64 0, .int .i64 0, .slice none 0 0, .slice none 0 0] := by rw [hW0, hK]; exact BlkV.new w _ _
  have HW0 := Lib.hid hW0
  have HK := Lib.hid hK
  have HAT := Lib.hid hat
  have HB := Lib.hid hb0
  by_cases hin : 0 ≤ i ∧ i < L.length
  · obtain ⟨k, rfl⟩ : ∃ k : Nat, i = (k : Int) := ⟨i.toNat, by omega⟩
    have hkl : k < L.length := by omega
    obtain ⟨M, hM⟩ : ∃ M, M = L[k] := ⟨_, rfl⟩
    have ha : atL L (k : Int) = some M := by unfold atL; rw [if_pos (by omega), Int.toNat_natCast, List.getElem?_eq_getElem hkl, hM]
    have ht : takeL L (k : Int) = L.eraseIdx k := by unfold takeL; rw [if_pos (by omega), Int.toNat_natCast]
    have hel : (L.eraseIdx k).length = L.length - 1 := by rw [List.length_eraseIdx, if_pos hkl]
    unfold RefTakeP
    rw [ha, ht]
    rw [ha] at HAT
    obtain ⟨a, c, xs, h1, h2, h3, hv4, hv5⟩ : ∃ a c xs, BlkV w g 41 #[.slice a L.length c] ∧ w.ownsRow 0 31 5 (.slice a L.length c) L.length xs ∧ RowR w xs L ∧ (∀ k, (Value.slice a L.length c).ownBlock = some k → F k) ∧ ∀ u ∈ xs, ValF F u := by
      obtain ⟨⟨v, xs, e1, e2, e3, e4, e5⟩, _, _⟩ := hF
      obtain ⟨a, c, rfl⟩ := own_slice e2
      exact ⟨a, c, xs, e1, e2, e3, e4, e5⟩
    have hF6 := hF.own
    have hF7 := hF.lt
    obtain ⟨n, hn⟩ : ∃ n, n = L.length := ⟨_, rfl⟩
    rw [← hn] at h1 h2 hkl hL hel hv4
    have hpos : ∃ G, a = some ⟨G, 0, none⟩ ∧ 0 ≤ G ∧ G < w.heap.size := by
      obtain ⟨g', cap, he, q1, q2, _⟩ := own_pos h2 (by omega)
      cases he
      exact ⟨g', rfl, q1, q2⟩
    obtain ⟨G, rfl, _, hGw⟩ := hpos
    have hFG : F G := hv4 G rfl
    have HFG := Lib.hid hFG
    have HF5 := Lib.hid hv5
    have HF6 := Lib.hid hF6
    have HF7 := Lib.hid hF7
    clear hFG hv4 hv5 hF6 hF7
    have hone := h3.one
    have hxe := fun (W : World) (hr : RowR W xs L) => hr.erase k (by omega)
    have HXE := Lib.hid hxe
    clear hn
    clear ha ht hin hW0 hat h hI0 hM hxe hl hF
    go_enter Try.func16, Try.ntmps16
    go_wp2_with fail
    rw [← HW0.out, ← HK.out]
    refine HAT.out.mono ?_
    rintro e w1 ⟨x, rfl, hx1, hb1⟩
    have hx1 : MsO w1 W0.heap.size x.toList M := hx1
    have hx1 := hx1.base hb0.size
    obtain ⟨an, cn, ad, cd, rfl⟩ := MsO.vals hx1
    have hZ1 := hZ.below hb1
    have hbw1 : Below w.heap.size w w1 := hb0.trans (hb1.mono hb0.size)
    have h11 := h1.below hbw1
    have h21 := own_below h2 hbw1
    have h31 := h3.map fun x M hm => MsR.kept hm hbw1
    obtain ⟨K2, hK2⟩ : ∃ K2, K2 = w1.heap.size := ⟨_, rfl⟩
    have hKK : K < K2 := by rw [hK2]; exact hZ1.lt
    obtain ⟨W2, hW2⟩ : ∃ W2, W2 = w1.alloc (.cells #[.int .i64 M.fr, .int .i64 M.to, .int .i64 M.kd, .slice an M.nums.length cn, .slice ad M.data.length cd] 31) := ⟨_, rfl⟩
    have hb2 : Below w1.heap.size w1 W2 := by rw [hW2]; exact (Below.refl _ _).alloc (Nat.le_refl _) _
    have hT2 : BlkV W2 K2 31 #[.int .i64 M.fr, .int .i64 M.to, .int .i64 M.kd, .slice an M.nums.length cn, .slice ad M.data.length cd] := by rw [hW2, hK2]; exact BlkV.new w1 _ _
    have hZ2 := hZ1.below hb2
    have h12 := h11.below hb2
    have h22 := own_below h21 hb2
    have h32 := h31.map fun x M hm => MsR.kept hm hb2
    have hx2 := hx1.kept hb2
    have c0 := h11.cell 0
    have z0 := h11.lt
    simp only [List.getElem?_toArray, List.getElem?_cons_zero] at c0
    have hbw2 : Below w.heap.size w W2 := hbw1.trans (hb2.mono hbw1.size)
    have wr1 : IntKind.i64.wrap ((k : Int) + 1) = (k : Int) + 1 := IntWalk.i64_in _ (by omega)
    have HHB := Lib.hid hbw2
    have HW2 := Lib.hid hW2
    have HK2 := Lib.hid hK2
    have hgK : g ≠ K := by have := h1.lt; have := HK.out; omega
    have hgK2 : g ≠ K2 := by have := h1.lt; have := HK.out; omega
    have hxl : xs.length = n * 5 := by have := h2.1; omega
    obtain ⟨_, hnc, hcm⟩ : ∃ _ : True, n ≤ c ∧ c ≤ maxLen := by
      obtain ⟨g', cap, he, _, _, q3, q4⟩ := own_pos h2 (by omega)
      cases he
      exact ⟨trivial, q3, q4⟩
    have hcell : ∀ j u, xs[j]? = some u → W2.cell? ⟨G, j, none⟩ = some u := fun j u hj => by
      have := h22.cells (g := G) rfl j u hj
      rwa [Addr.add_lit, Nat.zero_add] at this
    have hGW2 : G < W2.heap.size := by have := hbw2.size; omega
    obtain ⟨A, hA, hAc⟩ : ∃ A : Addr, (if c = k + 1 then (some (⟨G, 0, none⟩ : Addr)) else some ⟨G, (k + 1) * 5, none⟩) = some A ∧ ∀ j u, (xs.drop ((k + 1) * 5))[j]? = some u → A.add j = ⟨G, (k + 1) * 5 + j, none⟩ := by
      by_cases hce : c = k + 1
      · refine ⟨⟨G, 0, none⟩, if_pos hce, fun j u hu => ?_⟩
        have := (List.getElem?_eq_some_iff.1 hu).1
        rw [List.length_drop] at this
        omega
      · exact ⟨⟨G, (k + 1) * 5, none⟩, if_neg hce, fun j u _ => Addr.add_lit _ _ _⟩
    have hn1 : ∀ W, Below W2.heap.size W2 W → ∀ j u, (xs.take (k * 5))[j]? = some u → W.cell? ((⟨G, 0, none⟩ : Addr).add j) = some u := fun W hb j u hu => by
      rw [Addr.add_lit, Nat.zero_add, hb.cell (p := ⟨G, j, none⟩) hGW2]
      rw [List.getElem?_take] at hu
      split at hu
      · exact hcell j u hu
      · cases hu
    have hn2 : ∀ W, Below W2.heap.size W2 W → ∀ j u, (xs.drop ((k + 1) * 5))[j]? = some u → W.cell? (A.add j) = some u := fun W hb j u hu => by
      rw [hAc j u hu, hb.cell (p := ⟨G, (k + 1) * 5 + j, none⟩) hGW2]
      rw [List.getElem?_drop] at hu
      exact hcell _ u hu
    have hone1 : ∀ u ∈ xs.take (k * 5), u.oneCell' = true := fun u hu => hone u (List.mem_of_mem_take hu)
    have hone2 : ∀ u ∈ xs.drop ((k + 1) * 5), u.oneCell' = true := fun u hu => hone u (List.mem_of_mem_drop hu)
    have hl1 : (xs.take (k * 5)).length = k * 5 := by rw [List.length_take, hxl]; omega
    have hl2 : (xs.drop ((k + 1) * 5)).length = (n - (k + 1)) * 5 := by rw [List.length_drop, hxl]; omega
    have C1 := h12.cell 0
    have Z1 := h12.lt
    simp only [List.getElem?_toArray, List.getElem?_cons_zero] at C1
    have H12 := Lib.hid h12
    have H32 := Lib.hid (HXE.out W2 h32)
    have HT2 := Lib.hid hT2
    have HZ2 := Lib.hid hZ2
    have HX2 := Lib.hid hx2
    have HN1 := Lib.hid hn1
    have HN2 := Lib.hid hn2
    have HO1 := Lib.hid hone1
    have HO2 := Lib.hid hone2
    have HL1 := Lib.hid hl1
    have HL2 := Lib.hid hl2
    have hkc : (k : Int) ≤ (c : Int) := by omega
    have hkci : (k : Int) + 1 ≤ (c : Int) := by omega
    have hkn1 : (k : Int) + 1 ≤ (n : Int) := by omega
    have hki : (k : Int) < (n : Int) := by omega
    have hkn : k + 1 ≤ n := by omega
    have hkc1 : k + 1 ≤ c := by omega
    have hkc0 : k ≤ c := by omega
    have hnci : (n : Int) ≤ (c : Int) := by omega
    have hcap : (c : Int) ≤ 9223372036854775807 := by unfold maxLen at hcm; omega
    have nk4 : ((k : Int) + 1).toNat = k + 1 := by omega
    have nk5 : (0 : Int) ≤ (k : Int) + 1 := by omega
    have hc0 : ¬ c = 0 := by omega
    have HKK := Lib.hid hKK
    clear hKK hW2 hK2 hb2 h11 h21 h31 hx1 hZ1 hbw1 h1 h2 h3 hb1 hZ hbw2 hone hb0 hK hcell hAc hn1 hn2 hone1 hone2 hl1 hl2 h12 h22 h32 hx2 hT2 hZ2 c0 z0 hxl HXE
    go_upto_region 3 with (fail)
    rw [← HW2.out]
    rw [← HK2.out]
    go_region_law (first
      | ((with_reducible refine StepAt 23 ?_)
         (refine At.out (step_appH (by rfl) (.tmp 16) (.tmp 22) 24 (by rfl) elemM rfl (by decide) W2.heap.size _ 0 [] (by rfl) (own_emptyM W2.drew) ⟨G, 0, none⟩ k c (xs.take (k * 5)) (by rfl) HL1.out (HN1.out _ ((Below.refl _ _).drew.alloc (Nat.le_refl _) _)) HO1.out (by unfold maxLen; omega) (by omega) (by simp) ?_))
         (intro a3 c3 w3 ho3 hb3 hg3 hat3)
         (rw [Nat.zero_add, List.nil_append] at ho3)
         (have hb23 : Below W2.heap.size W2 w3 := ((Below.refl W2.heap.size W2).drew.alloc (Nat.le_refl _) _).trans hb3)
         (have C3 := (BlkV.below H12.out hb23).cell 0); (simp only [List.getElem?_toArray, List.getElem?_cons_zero] at C3); (have Z3 : g < w3.heap.size := (BlkV.below H12.out hb23).lt))
      | ((with_reducible refine StepAt 31 ?_)
         (refine At.out (step_appH (by rfl) (.tmp 23) (.tmp 30) 24 (by rfl) elemM rfl (by decide) W2.heap.size _ k (xs.take (k * 5)) (by rfl) ho3 A (n - (k + 1)) (c - (k + 1)) (xs.drop ((k + 1) * 5)) (by rfl) HL2.out (HN2.out _ hb23) HO2.out (by unfold maxLen; omega) (by omega) hb23.size ?_))
         (intro a4 c4 w4 ho4 hb4 hg4 hat4)
         (rw [show k + (n - (k + 1)) = n - 1 by omega] at ho4 hat4 ⊢)
         (have hb24 : Below W2.heap.size W2 w4 := hb23.trans hb4)
         (have i0 := (BlkV.below H12.out hb24).cell 0); (have if0 := (BlkV.below H12.out hb24).frozen 0); (simp only [List.getElem?_toArray, List.getElem?_cons_zero] at i0); (have Z4 : g < w4.heap.size := (BlkV.below H12.out hb24).lt)))
    all_goals
      have hs : ∀ q, q ≠ g → (w4.setCell ⟨g, 0, none⟩ (.slice a4 (n - 1) c4)).heap[q]? = w4.heap[q]? := fun q hq => Below.heap_setCell w4 ⟨g, 0, none⟩ _ q hq
      have m1 := BlkV.below H12.out hb24
      have h14 := m1.set 0 (.slice a4 (n - 1) c4)
      have h24 := own_other ho4 m1 (by decide) hs
      have h34 := (H32.out.map fun x M' hm => MsR.kept hm hb24).map fun x M' hm => MsR.same hm m1 (by decide) (by decide) hs
      have hT4 := (HT2.out.below hb24).far hgK2.symm 0 (.slice a4 (n - 1) c4)
      have hZ4 := (HZ2.out.below hb24).far hgK.symm 0 (.slice a4 (n - 1) c4)
      have hx4 := (HX2.out.kept hb24).same m1 (by decide) (by decide) hs
      have hb4 : Off F w (w4.setCell ⟨g, 0, none⟩ (.slice a4 (n - 1) c4)) :=
        ((Off.ofBelow HHB.out).below hb24).then (Off.setCell (p := ⟨g, 0, none⟩) HF6.out _)
      have hKW : K < W2.heap.size := by have := HKK.out; have := HT2.out.lt; omega
      have HX4 := Lib.hid hx4
      have HB4 := Lib.hid hb4
      obtain ⟨W5, hW5⟩ : ∃ W5, W5 = w4.setCell ⟨g, 0, none⟩ (.slice a4 (n - 1) c4) := ⟨_, rfl⟩
      rw [← hW5] at h14 h24 h34 HX4 HB4 hT4 hZ4
      have HW5 := Lib.hid hW5
      clear hs m1 hx4 hW5 ho4 hg4 hat4 ho3 hg3 hat3 hb3 hb4 hb23 hb24 C3 Z3 i0 if0 Z4
      go_wp2_with (with_reducible refine At.slot 34 ?_)
      rw [← HW5.out]
      refine At.out (wpList_loadV rfl _ rfl (.tmp 6) rfl strM K2 _ rfl hT4 rfl ?_)
      go_wp2_with (with_reducible refine At.store 31 (.tmp 4) (.tmp 34) ?_)
      refine At.out (wpList_storeV rfl _ rfl (.tmp 4) (.tmp 34) rfl strM K _ #[.int .i64 M.fr, .int .i64 M.to, .int .i64 M.kd, .slice an M.nums.length cn, .slice ad M.data.length cd] rfl rfl hZ4 rfl rfl (by simp [Value.oneCell']) ?_)
      intro w6 hB6 hbel6 hoth6
      have ho6 : Off (· = K) W5 w6 := Off.ofOne (hbel6 0 W5 (Below.refl _ _) (Nat.zero_le _)) hoth6 rfl
      have hb6 : Off F w w6 := HB4.out.trans (G := (· = K)) ho6 fun q hq => .inr (by have := HK.out; omega)
      have hx6 := HX4.out.same hZ4 (by decide) (by decide) hoth6
      have hI6 : NetF 41 w6 (fun q => F q ∨ (Value.slice a4 (n - 1) c4).ownBlock = some q) g (L.eraseIdx k) := by
        refine ⟨⟨.slice a4 (n - 1) c4, xs.take (k * 5) ++ xs.drop ((k + 1) * 5), ?_, own_base (own_len (own_off h24 ho6 fun q hq => by have := (h24.lt q hq).1; omega) hel.symm) (Nat.zero_le _), h34.map fun x M' hm => MsR.same hm hZ4 (by decide) (by decide) hoth6, ?_, ?_⟩, .inl HF6.out, ?_⟩
        · unfold BlkV
          rw [hoth6 g hgK]
          exact h14
        · intro q hq
          exact .inr hq
        · intro y hy
          refine (HF5.out y ?_).mono fun q hq => .inl hq
          rcases List.mem_append.1 hy with h | h
          · exact List.mem_of_mem_take h
          · exact List.mem_of_mem_drop h
        · intro q hq
          rcases hq with h | h
          · have := HF7.out q h
            have := hb6.size
            omega
          · have h1 := (h24.lt q h).2
            have := ho6.size
            omega
      have hQ6 : ∀ q, (Value.slice a4 (n - 1) c4).ownBlock = some q → w.heap.size ≤ q ∧ ∃ cs fr, w6.heap[q]? = some (.cells cs 31 fr) := fun q hq => by
        have hww := HHB.out.size
        have h1 := (h24.lt q hq).1
        refine ⟨by omega, own_type (own_off h24 ho6 fun q hq => by have := (h24.lt q hq).1; omega) q hq⟩
      go_wp2_with fail
      exact bodyPost_ret (v := .tuple #[.agg #[.int .i64 M.fr, .int .i64 M.to, .int .i64 M.kd, .slice an M.nums.length cn, .slice ad M.data.length cd], .bool true]) (results_cell2 rfl strM rfl rfl hB6 rfl) rfl ⟨_, _, rfl, hx6, hI6, hQ6, hb6⟩
  · have ha : atL L i = none := by
      unfold atL
      by_cases h0 : 0 ≤ i
      · rw [if_pos h0, List.getElem?_eq_none (by omega)]
      · rw [if_neg h0]
    have ht : takeL L i = L := by
      unfold takeL
      by_cases h0 : 0 ≤ i
      · rw [if_pos h0, List.eraseIdx_of_length_le (by omega)]
      · rw [if_neg h0]
    unfold RefTakeP
    rw [ha, ht]
    rw [ha] at HAT
    clear ha ht hin hW0 hat hl
    have HFF := Lib.hid hF
    clear hF
    go_enter Try.func16, Try.ntmps16
    go_wp2_with fail
    rw [← HW0.out, ← HK.out]
    refine HAT.out.mono ?_
    rintro e w1 ⟨x, rfl, hx1, hb1⟩
    have hx1 : MsO w1 W0.heap.size x.toList Ms.zero := hx1
    have hx1 := hx1.base hb0.size
    obtain ⟨an, cn, ad, cd, rfl⟩ := MsO.vals hx1
    have hZ1 := hZ.below hb1
    have hbw1 : Below w.heap.size w w1 := hb0.trans (hb1.mono hb0.size)
    have hI1 := h.kept hbw1
    obtain ⟨K2, hK2⟩ : ∃ K2, K2 = w1.heap.size := ⟨_, rfl⟩
    obtain ⟨W2, hW2⟩ : ∃ W2, W2 = w1.alloc (.cells #[.int .i64 0, .int .i64 0, .int .i64 0, .slice an 0 cn, .slice ad 0 cd] 31) := ⟨_, rfl⟩
    have hb2 : Below w1.heap.size w1 W2 := by rw [hW2]; exact (Below.refl _ _).alloc (Nat.le_refl _) _
    have hT2 : BlkV W2 K2 31 #[.int .i64 0, .int .i64 0, .int .i64 0, .slice an 0 cn, .slice ad 0 cd] := by rw [hW2, hK2]; exact BlkV.new w1 _ _
    have hZ2 := hZ1.below hb2
    have hbw2 := hbw1.trans (hb2.mono hbw1.size)
    have hx2 := hx1.kept hb2
    have HW2 := Lib.hid hW2
    have HK2 := Lib.hid hK2
    have HI := Lib.hid h
    have HBW := Lib.hid hbw2
    clear hW2 hK2 hb2 hZ1 hbw1 hI1 hx1 hb1 hZ h hI0 hbw2 hb0 hK
    go_wp2_with (with_reducible refine At.slot 34 ?_)
    rw [show Ms.zero.fr = 0 from rfl, show Ms.zero.to = 0 from rfl, show Ms.zero.kd = 0 from rfl, show Ms.zero.nums.length = 0 from rfl, show Ms.zero.data.length = 0 from rfl, ← HW2.out, ← HK2.out]
    refine At.out (wpList_loadV rfl _ rfl (.tmp 6) rfl strM K2 _ rfl hT2 rfl ?_)
    go_wp2_with (with_reducible refine At.store 31 (.tmp 4) (.tmp 34) ?_)
    refine At.out (wpList_storeV rfl _ rfl (.tmp 4) (.tmp 34) rfl strM K _ #[.int .i64 0, .int .i64 0, .int .i64 0, .slice an 0 cn, .slice ad 0 cd] rfl rfl hZ2 rfl rfl (by simp [Value.oneCell']) ?_)
    intro w6 hB6 hbel6 hoth6
    have hb6 := hbel6 w.heap.size w HBW.out (by have := HK.out; omega)
    have hx6 := hx2.same hZ2 (by decide) (by decide) hoth6
    have hI6 : NetF 41 w6 (fun k => F k ∨ False) g L := (HFF.out.kept hb6).sub (fun q hq => .inl hq) fun q hq => hq.elim ((HFF.out.kept hb6).lt q) (fun h => h.elim)
    go_wp2_with fail
    exact bodyPost_ret (v := .tuple #[.agg #[.int .i64 0, .int .i64 0, .int .i64 0, .slice an 0 cn, .slice ad 0 cd], .bool false]) (results_cell2 rfl strM rfl rfl hB6 rfl) rfl ⟨_, fun _ => False, rfl, hx6, hI6, fun _ h => h.elim, Off.ofBelow hb6⟩
end Go.Proofs.Ytoagneajlfglcaa
