/- fsm's grow: the contract. Conditions: its own premises. -/
import Derived.Test.YteenbobblbehoaaFsmClone
import Derived.Deep.Cut
import Derived.Deep.CutRange
namespace Go.Proofs.Yteenbobblbehoaa
open Go Go.RowKit

theorem grow_end {wr w3 w4 : World} {F : Nat → Prop} {t N n c3 rc c4 : Nat} {L : List Vl} {l : List Int} {ra a3 a4 : Option Addr} {ps : List Nat}
    (hN : N = L.length) (hn : n = l.length) (h1 : BlkV wr t 58 (tblC t (.slice ra N rc))) (h2 : wr.ownsRow 0 61 1 (.slice ra N rc) N (ps.map ptrV)) (h3 : ∀ k, (Value.slice ra N rc).ownBlock = some k → F k)
    (h4 : ps.length = L.length) (h5 : ps.Nodup) (h6 : ∀ i p V, ps[i]? = some p → L[i]? = some V → F p ∧ VlR wr F p i V) (h7 : F t)
    (hb3 : Below wr.heap.size wr w3) (ho3 : w3.ownsRow wr.heap.size 3 1 (.slice a3 n c3) n (BI l))
    (ho4 : w4.ownsRow 0 61 1 (.slice a4 (N + 1) c4) (N + 1) (ps.map ptrV ++ [ptrV w3.heap.size]))
    (hg4 : ((w3.alloc (.cells #[.int .i64 ((N : Int) + 1), .int .i64 0, .int .i64 1, .slice a3 n c3, .bool false, .int .i64 0, .int .i64 1] 65)).alloc (.cells #[ptrV w3.heap.size] 61)).grownBy w4 (Value.slice ra N rc).ownBlock)
    (hat : (Value.slice a4 (N + 1) c4).ownBlock = (Value.slice ra N rc).ownBlock ∨ (Value.slice a4 (N + 1) c4).ownBlock = some ((w3.alloc (.cells #[.int .i64 ((N : Int) + 1), .int .i64 0, .int .i64 1, .slice a3 n c3, .bool false, .int .i64 0, .int .i64 1] 65)).alloc (.cells #[ptrV w3.heap.size] 61)).heap.size)
    (hT4 : BlkV w4 t 58 (tblC t (.slice ra N rc))) {g : Nat} (hgs : g = (w4.setCell ⟨t, 0, none⟩ (.slice a4 (N + 1) c4)).heap.size) :
    AnsP wr F t (([(N : Int) + 1], 0), L ++ [⟨0, 1, l, false, 1⟩]) (.returned (.tuple #[.slice (some ⟨g, 0, none⟩) 1 1, .int .i64 0])) ((w4.setCell ⟨t, 0, none⟩ (.slice a4 (N + 1) c4)).alloc (.cells #[.int .i64 ((N : Int) + 1)] 3)) := by
  subst hgs hN
  obtain ⟨W2, hW2⟩ : ∃ W2, W2 = (w3.alloc (.cells #[.int .i64 ((L.length : Int) + 1), .int .i64 0, .int .i64 1, .slice a3 n c3, .bool false, .int .i64 0, .int .i64 1] 65)).alloc (.cells #[ptrV w3.heap.size] 61) := ⟨_, rfl⟩
  have hp : BlkV W2 w3.heap.size 65 #[.int .i64 ((L.length : Int) + 1), .int .i64 0, .int .i64 1, .slice a3 n c3, .bool false, .int .i64 0, .int .i64 1] := by rw [hW2]; exact (BlkV.new w3 _ _).alloc _
  have hs2 : W2.heap.size = w3.heap.size + 2 := by rw [hW2]; simp
  have hb2 : Below w3.heap.size w3 W2 := by rw [hW2]; exact ((Below.refl _ _).alloc (Nat.le_refl _) _).alloc (by simp) _
  rw [← hW2] at hg4 hat
  have hs3 := hb3.size
  have hs4 := hg4.size
  have ht : t < wr.heap.size := h1.lt
  have hown := fun k hk => (h2.lt k hk).2
  have hp4 : BlkV w4 w3.heap.size 65 #[.int .i64 ((L.length : Int) + 1), .int .i64 0, .int .i64 1, .slice a3 n c3, .bool false, .int .i64 0, .int .i64 1] :=
    hp.off (Off.ofGrown (F := fun k => (Value.slice ra L.length rc).ownBlock = some k) hg4 fun _ h => h) fun e => by have := hown _ e; omega
  obtain ⟨a', c', hv', hR3⟩ := TRd.ofOwn ho3
  simp only [Value.slice.injEq, true_and] at hv'
  obtain ⟨rfl, rfl⟩ := hv'
  have hR4 : TRd w4 3 a3 c3 (BI l) := by
    refine TRd.off (F := fun k => (Value.slice ra L.length rc).ownBlock = some k) (hR3.kept hb2) (Off.ofGrown hg4 fun _ h => h) ?_
    intro k cs fr hk hh
    obtain ⟨cs', fr', hh'⟩ := own_ty h2 k hk
    rw [hb2.block k (by have := hown k hk; omega), hb3.block k (hown k hk), hh'] at hh
    cases hh
  have hab : ∀ b o, a3 = some ⟨b, o, none⟩ → wr.heap.size ≤ b := by
    intro b o e
    subst e
    rcases ho3.2 with ⟨e, _⟩ | ⟨g, cap, cur, hv, hb, _⟩
    · simp at e
    · simp only [Value.slice.injEq, Option.some.injEq, Addr.mk.injEq] at hv
      omega
  obtain ⟨W5, hW5⟩ : ∃ W5, W5 = w4.setCell ⟨t, 0, none⟩ (.slice a4 (L.length + 1) c4) := ⟨_, rfl⟩
  rw [← hW5]
  have o5 : Off (· = t) w4 W5 := by rw [hW5]; exact Off.setCell (F := (· = t)) (p := ⟨t, 0, none⟩) rfl _
  have hT5 : BlkV W5 t 58 (tblC t (.slice a4 (L.length + 1) c4)) := by rw [hW5]; exact hT4.set 0 _
  have hoff : Off (fun k => k = t ∨ (Value.slice ra L.length rc).ownBlock = some k) wr W5 :=
    (((Off.ofBelow hb3).then (Off.ofBelow hb2)).then (Off.ofGrown hg4 fun k h => .inr h)).then (o5.mono fun k h _ => .inl h)
  have hty : ∀ t', 58 ≠ t' → ∀ k cs fr, k = t → w4.heap[k]? ≠ some (.cells cs t' fr) := fun t' h => hT4.type h
  have hpt : w3.heap.size ≠ t := by omega
  have hTab : TabI W5 (fun k => F k ∨ wr.heap.size ≤ k) t (L ++ [⟨0, 1, l, false, 1⟩]) := by
    refine TabI.push (F' := fun k => F k ∨ wr.heap.size ≤ k) h1 h2 h4 h5 h6 h7 (fun k h => .inl h) hoff w3.heap.size hs3 (.inr hs3) _ a4 c4 hT5 ?_ ?_ ?_
    · refine own_off ho4 o5 fun k hk e => ?_
      obtain ⟨cs, fr, hh⟩ := own_ty ho4 k hk
      exact hty _ (by decide) k cs fr e hh
    · intro k hk
      rcases hat with e | e
      · rw [e] at hk; exact .inl (h3 k hk)
      · rw [e] at hk
        cases hk
        right; omega
    · refine ⟨a3, c3, ?_, ?_, fun b o _ e => .inr (hab b o e)⟩
      · have := hp4.off o5 hpt
        rw [← hn]
        exact this
      · exact hR4.off o5 (hty _ (by decide))
  have hsz5 : wr.heap.size ≤ W5.heap.size := hoff.size
  refine ⟨some ⟨W5.heap.size, 0, none⟩, 1, rfl, ?_, ?_, ?_⟩
  · exact World.ownsRow_lit (e := 3) (size := 1) W5 #[.int .i64 ((L.length : Int) + 1)] 1 hsz5 (by unfold maxLen; omega) rfl
  · refine TabI.kept (hTab.mono fun k h hk => h.elim .inl fun h => .inr ⟨h, fun o e => ?_⟩) ((Below.refl _ _).alloc (Nat.le_refl _) _)
    simp only [Option.some.injEq, Addr.mk.injEq] at e
    omega
  · refine (hoff.mono fun k h hk => ?_).below ((Below.refl _ _).alloc (Nat.le_refl _) _)
    rcases h with rfl | h
    · exact h7
    · exact h3 k h

set_option maxRecDepth 100000 in
set_option maxHeartbeats 4000000 in
theorem grow_any (w : World) (F : Nat → Prop) (t : Nat) (L : List Vl) (hT : TabI w F t L) (a : Option Addr) (c n : Nat) (l : List Int) (hn : n = l.length) (hr : Rd w a c (BI l)) (hl : l.length ≤ 64) :
    Calls Try.prog 23 #[ptrV t, .slice a n c] w (AnsP w F t (growL L l)) := by
  have hd := different_any w a c n l hn hr
  have hc := contains_any w a c n l hn (-1) hr
  have HD := Lib.hid hd
  have HC := Lib.hid hc
  have HT := Lib.hid hT
  clear hd hc
  by_cases h1 : diffF l 0 = false
  · have hX : growL L l = (([], 1), L) := by unfold growL; rw [if_pos (.inl h1)]
    rw [hX]
    rw [h1] at HD
    clear h1 hX hT hr hn
    unfold ptrV
    go_enter Try.func23, Try.ntmps23
    go_wp2_with fail
    refine HD.out.mono ?_
    rintro e w1 ⟨rfl, hw1⟩
    have hw1 := hw1.symm
    subst hw1
    go_wp2
    go_ret2
    exact AnsP.no 1 HT.out (Below.refl _ _)
  have h1 : diffF l 0 = true := by simpa using h1
  by_cases h2 : hasF (-1) l = true
  · have hX : growL L l = (([], 1), L) := by unfold growL; rw [if_pos (.inr h2)]
    rw [hX]
    rw [h1] at HD
    rw [h2] at HC
    clear h1 h2 hX hT hr hn
    unfold ptrV
    go_enter Try.func23, Try.ntmps23
    go_wp2_with fail
    refine HD.out.mono ?_
    rintro e w1 ⟨rfl, hw1⟩
    have hw1 := hw1.symm
    subst hw1
    go_wp2_with fail
    refine HC.out.mono ?_
    rintro e w2 ⟨rfl, hw2⟩
    have hw2 := hw2.symm
    subst hw2
    go_wp2
    go_ret2
    exact AnsP.no 1 HT.out (Below.refl _ _)
  have h2 : hasF (-1) l = false := by simpa using h2
  have hX : growL L l = if 4096 ≤ L.length then (([], 17), L) else (([(L.length : Int) + 1], 0), L ++ [⟨0, 1, l, false, 1⟩]) := by unfold growL; rw [if_neg (by simp [h1, h2])]
  rw [hX]
  rw [h1] at HD
  rw [h2] at HC
  clear h1 h2 hX
  obtain ⟨⟨ra, rc, ps, k1, k2, k3, k4, k5, k6⟩, k7⟩ := hT
  obtain ⟨N, hN⟩ : ∃ N, N = L.length := ⟨_, rfl⟩
  have c0 := k1.cell 0
  unfold tblC at c0
  simp only [List.getElem?_toArray, List.getElem?_cons_zero] at c0
  rw [← hN] at c0 ⊢
  have hlen : (ps.map ptrV).length = N := by rw [List.length_map, k4, hN]
  rw [← hN] at k1 k2 k3
  have HK := Lib.hid k1
  have HLN := Lib.hid hlen
  have HN := Lib.hid hN
  have K2 := Lib.hid k2
  have K4 := Lib.hid k4
  have K6 := Lib.hid k6
  have HL := Lib.hid hn
  have K3 := Lib.hid k3
  clear k2 k3 k4 k6 hlen
  by_cases h3 : 4096 ≤ N
  · rw [if_pos h3]
    have h3i : (4096 : Int) ≤ (N : Int) := by omega
    clear hr k1 k5 hN hn
    unfold ptrV
    go_enter Try.func23, Try.ntmps23
    go_wp2_with fail
    refine HD.out.mono ?_
    rintro e w1 ⟨rfl, hw1⟩
    have hw1 := hw1.symm
    subst hw1
    go_wp2_with fail
    refine HC.out.mono ?_
    rintro e w2 ⟨rfl, hw2⟩
    have hw2 := hw2.symm
    subst hw2
    go_wp2
    go_ret2
    exact AnsP.no 17 HT.out (Below.refl _ _)
  · rw [if_neg h3]
    have h3i : ¬ (4096 : Int) ≤ (N : Int) := by omega
    have hclone := fun W (hb : Below w.heap.size w W) => cloneN_any W a c n l hn (hr.kept hb) (by omega)
    have HCL := Lib.hid hclone
    have hw63 : IntKind.i64.wrap ((N : Int) + 1) = (N : Int) + 1 := IntWalk.i64_in _ (by omega)
    have HL := Lib.hid hn
    clear hclone hr k1 hN hn
    unfold ptrV
    go_enter Try.func23, Try.ntmps23
    go_wp2_with fail
    refine HD.out.mono ?_
    rintro e w1 ⟨rfl, hw1⟩
    have hw1 := hw1.symm
    subst hw1
    go_wp2_with fail
    refine HC.out.mono ?_
    rintro e w2 ⟨rfl, hw2⟩
    have hw2 := hw2.symm
    subst hw2
    obtain ⟨wr, hwr⟩ : ∃ wr : World, wr = w := ⟨_, rfl⟩
    subst hwr
    go_upto_region 6 with (fail)
    go_region_law (first
      | ((with_reducible refine StepAt 35 ?_); (refine At.out ?_); go_simp; go_at_call 47; refine (HCL.out _ (Below.refl _ _).drew).mono ?_; rintro e w3 ⟨a3, c3, rfl, ho3, hb3⟩
         (have hT3 := BlkV.below (w := wr.drew) HK.out hb3); (have h23 := own_below (w := wr.drew) K2.out hb3); (have z3 : t < w3.heap.size := hT3.lt); (have k0 := hT3.cell 0); (unfold tblC at k0); (simp only [List.getElem?_toArray, List.getElem?_cons_zero] at k0))
      | ((with_reducible refine StepAt 40 ?_)
         (refine At.out (step_appH (by rfl) (.tmp 32) (.tmp 39) 54 (by rfl) elemP rfl (by decide) 0 (.slice ra N rc) N (ps.map ptrV) (by rfl) ((h23.alloc _).alloc _) ⟨w3.heap.size + 1, 0, none⟩ 1 1 [ptrV w3.heap.size] (by rfl) rfl (rd_box2 _ _ _ _) (by simp [ptrV, Value.oneCell']) (by unfold maxLen; omega) (by omega) (Nat.zero_le _) ?_))
         (intro a4 c4 w4 ho4 hb4 hg4 hat4)
         (have hT4 := BlkV.grown ((hT3.alloc (.cells #[.int .i64 ((N : Int) + 1), .int .i64 0, .int .i64 1, .slice a3 n c3, .bool false, .int .i64 0, .int .i64 1] 65)).alloc (.cells #[ptrV w3.heap.size] 61)) hg4 (own_ty ((h23.alloc _).alloc _)) (by decide))
         (have i0 := hT4.cell 0); (have if0 := hT4.frozen 0); (unfold tblC at i0); (simp only [List.getElem?_toArray, List.getElem?_cons_zero] at i0)))
    all_goals
      go_wp2
      go_ret2
      exact grow_end HN.out HL.out HK.out K2.out K3.out K4.out k5 K6.out k7 (Below.trans (Below.refl wr.heap.size wr).drew hb3) ho3 ho4 hg4 hat4 hT4 (by simp [World.setCell])
end Go.Proofs.Yteenbobblbehoaa
