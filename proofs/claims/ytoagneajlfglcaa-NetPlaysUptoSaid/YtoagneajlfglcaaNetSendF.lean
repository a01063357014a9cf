/- net's Send: the blocks that it writes are the Net's own. Conditions: each contract's own premises. -/
import Derived.Test.YtoagneajlfglcaaNetAtO
namespace Go.Proofs.Ytoagneajlfglcaa
open Go Go.RowKit

/-- append of one row behind another at a step; what grew is told. (size: the element's cells) -/
theorem step_appH {P : Program} {ops : Array Oper} {o : Oper} {a : Act} {w : World} {K : Act → World → Prop} {Q : Exit → Act → World → Prop} {E : Prop} {e : TypeId} {z : Value} {bytes sz : Nat}
    (hgd : o.guard = none) (s x : Operand) (t : TypeId)
    (ho : o.op = .call { callee := .builtin .append, args := #[s, x], argTypes := #[t, t] })
    (T : ElemT P t e sz z bytes) (hz1 : z.cells.size = sz) (hsz0 : 0 < sz)
    (base : Nat) (v : Value) (n : Nat) (xs : List Value) (hs : a.eval s = v) (hown : w.ownsRow base e sz v n xs)
    (ad : Addr) (m c : Nat) (news : List Value) (hx : a.eval x = .slice (some ad) m c) (hm : news.length = m * sz) (hr : ∀ j u, news[j]? = some u → w.cell? (ad.add j) = some u) (h1 : ∀ u ∈ news, u.oneCell' = true)
    (h63 : n + m ≤ maxLen) (hbytes : (n + m) * bytes ≤ 140737488355328) (hbase : base ≤ w.heap.size)
    (h : ∀ a' c' w', w'.ownsRow base e sz (.slice a' (n + m) c') (n + m) (xs ++ news) → Below base w w' → w.grownBy w' v.ownBlock → ((Value.slice a' (n + m) c').ownBlock = v.ownBlock ∨ (Value.slice a' (n + m) c').ownBlock = some w.heap.size) → K (a.put o.dst (.slice a' (n + m) c')) w') :
    if Region.wanted o (yielded ops a.tmps) = true then Oper.wp P o a w K Q else E := by
  have hw : Region.wanted o (yielded ops a.tmps) = true := by simp [Region.wanted, hgd]
  rw [if_pos hw]
  obtain ⟨i, hi, hz, hsz, hby⟩ := T.hi
  obtain ⟨v', w', hrun, h2, h3, h4, h5⟩ := run_append_own_at (P := P) w base t o.type e i z sz bytes T.ht hi hz hsz hby hz1 hsz0 v n xs hown ad m c news hm hr h1 h63 hbytes hbase
  unfold Oper.wp execOp
  simp only [ho, resolve, invoke, builtin, Sem.run_bind, Sem.run_pure, Result.andThen_ok, List.map_toArray, List.map_cons, List.map_nil, hs, hx, hrun]
  have hsl : ∃ a' c', v' = .slice a' (n + m) c' := by
    rcases h2.2 with ⟨rfl, h0⟩ | ⟨k, cap, cur, rfl, _⟩
    · exact ⟨none, 0, by rw [h0]⟩
    · exact ⟨_, _, rfl⟩
  obtain ⟨a', c', rfl⟩ := hsl
  exact h a' c' w' h2 (below_grown h3 hbase (fun k hk => (hown.lt k hk).1)) h3 h5

theorem own_grownT {w w' : World} {base : Nat} {e t' : TypeId} {sz : Nat} {v : Value} {n : Nat} {xs : List Value} (h : w.ownsRow base e sz v n xs) {row : Option Nat} (hg : w.grownBy w' row) (hr : ∀ k, row = some k → ∃ cs fr, w.heap[k]? = some (.cells cs t' fr)) (hne : e ≠ t') : w'.ownsRow base e sz v n xs :=
  own_off h (Off.ofGrown (F := fun k => row = some k) hg fun _ h => h) fun k hk e1 => by
    obtain ⟨cs, fr, hh⟩ := hr k e1
    obtain ⟨cs', fr', hh'⟩ := own_type h k hk
    rw [hh] at hh'
    cases hh'
    exact hne rfl
theorem MsO.grown {w w' : World} {B : Nat} {x : List Value} {M : Ms} (h : MsO w B x M) {row : Option Nat} {t' : TypeId} (hg : w.grownBy w' row) (hr : ∀ k, row = some k → ∃ cs fr, w.heap[k]? = some (.cells cs t' fr)) (h1 : 3 ≠ t') (h2 : 5 ≠ t') : MsO w' B x M := by
  obtain ⟨an, cn, ad, cd, rfl, k1, k2⟩ := h
  exact ⟨an, cn, ad, cd, rfl, own_grownT k1 hg hr h1, own_grownT k2 hg hr h2⟩
/-- A message behind the others, and the row stored. -/
theorem send_end {T : TypeId} {w w3 w4 : World} {F : Nat → Prop} {g n : Nat} {L : List Ms} {M : Ms} {u : Value} {v : Value} {xs : List Value} {x : Array Value} {a4 : Option Addr} {c4 : Nat} (hT1 : 3 ≠ T) (hT2 : 5 ≠ T) (hT3 : 31 ≠ T) (hn : n = L.length)
    (h13 : BlkV w3 g T #[u]) (h23 : w3.ownsRow 0 31 5 v n xs) (h33 : RowR w3 xs L) (h4 : ∀ k, v.ownBlock = some k → F k) (h5 : ∀ u ∈ xs, ValF F u) (h6 : F g) (h7 : ∀ k, F k → k < w.heap.size) (hb3 : Below w.heap.size w w3) (hx3 : MsO w3 w.heap.size x.toList M)
    (ho4 : w4.ownsRow 0 31 5 (.slice a4 (n + 1) c4) (n + 1) (xs ++ x.toList)) (hg4 : (w3.alloc (.cells x 31)).grownBy w4 v.ownBlock) (hat : (Value.slice a4 (n + 1) c4).ownBlock = v.ownBlock ∨ (Value.slice a4 (n + 1) c4).ownBlock = some (w3.alloc (.cells x 31)).heap.size) :
    NetF T (w4.setCell ⟨g, 0, none⟩ (.slice a4 (n + 1) c4)) (grew F w (w4.setCell ⟨g, 0, none⟩ (.slice a4 (n + 1) c4))) g (L ++ [M]) ∧ Off F w (w4.setCell ⟨g, 0, none⟩ (.slice a4 (n + 1) c4)) := by
  subst hn
  obtain ⟨W3, hW3⟩ : ∃ W3, W3 = w3.alloc (.cells x 31) := ⟨_, rfl⟩
  have hbA : Below w3.heap.size w3 W3 := by rw [hW3]; exact (Below.refl _ _).alloc (Nat.le_refl _) _
  rw [← hW3] at hg4 hat
  have o1 : Off F w w3 := Off.ofBelow hb3
  have o2 : Off F w W3 := o1.below hbA
  have o3 : Off F w w4 := o2.then (Off.ofGrown hg4 h4)
  have o4 : Off F w (w4.setCell ⟨g, 0, none⟩ (.slice a4 (L.length + 1) c4)) := o3.then (Off.setCell (p := ⟨g, 0, none⟩) h6 _)
  have k1 := h13.below hbA
  have k2 := own_below h23 hbA
  have k3 := h33.map fun x M hm => MsR.kept hm hbA
  have k4 := hx3.kept hbA
  have hty := own_type k2
  have m1 := k1.grown hg4 hty hT3.symm
  have m3 := k3.map fun x M' hm => MsR.grown hm hg4 hty (by decide) (by decide)
  have m4 := k4.grown hg4 hty (by decide) (by decide)
  have m5 := RowR.snoc m4.toR m3
  have hs : ∀ k, k ≠ g → (w4.setCell ⟨g, 0, none⟩ (.slice a4 (L.length + 1) c4)).heap[k]? = w4.heap[k]? := fun k hk => Below.heap_setCell w4 ⟨g, 0, none⟩ _ k hk
  have hll : L.length + 1 = (L ++ [M]).length := by simp
  have hsz : (w4.setCell ⟨g, 0, none⟩ (.slice a4 (L.length + 1) c4)).heap.size = w4.heap.size := by simp [World.setCell]
  have hs3 : w3.heap.size ≤ w4.heap.size := Nat.le_trans hbA.size hg4.size
  refine ⟨⟨⟨.slice a4 (L.length + 1) c4, xs ++ x.toList, m1.set 0 _, ?_, m5.map fun x M' hm => hm.same m1 hT1 hT2 hs, ?_, ?_⟩, .inl h6, ?_⟩, o4⟩
  · exact own_len (own_other ho4 m1 hT3 hs) hll
  · intro k hk
    rcases hat with e | e
    · rw [e] at hk
      exact .inl (h4 k hk)
    · have h1 := (ho4.lt k hk).2
      rw [e] at hk
      cases hk
      right
      rw [hsz]
      exact ⟨o2.size, h1⟩
  · intro y hy
    rcases List.mem_append.1 hy with h | h
    · exact (h5 y h).mono fun k hk => .inl hk
    · refine (hx3.valF y h).mono fun k hk => .inr ⟨hk.1, ?_⟩
      rw [hsz]; omega
  · intro k hk
    rcases hk with h | h
    · have := h7 k h
      have := o4.size
      omega
    · exact h.2

set_option maxRecDepth 100000 in
set_option maxHeartbeats 4000000 in
theorem send_f (w : World) (F : Nat → Prop) (g : Nat) (L : List Ms) (hI : NetF 26 w F g L) (hL : L.length ≤ 4096) (M : Ms) (an ad : Option Addr) (cn cd : Nat) (hn : Rd w an cn (BI M.nums)) (hd : Rd w ad cd (B8 M.data)) (ln : M.nums.length ≤ 100000000) (ld : M.data.length ≤ 100000000) :
    Calls Try.prog 7 #[.pointer (some ⟨g, 0, none⟩), msV M an cn ad cd] w fun e w' => e = .returned (.bool (decide (L.length < 4096))) ∧ NetF 26 w' (grew F w w') g (sendL L M) ∧ Off F w w' := by
  unfold sendL
  obtain ⟨nn, hnn⟩ : ∃ nn, nn = M.nums.length := ⟨_, rfl⟩
  obtain ⟨nd, hnd⟩ : ∃ nd, nd = M.data.length := ⟨_, rfl⟩
  obtain ⟨W0, hW0⟩ : ∃ W0, W0 = w.alloc (.cells #[.int .i64 M.fr, .int .i64 M.to, .int .i64 M.kd, .slice an nn cn, .slice ad nd cd] 31) := ⟨_, rfl⟩
  have hb0 : Below w.heap.size w W0 := by rw [hW0]; exact (Below.refl _ _).alloc (Nat.le_refl _) _
  have hI0 := hI.kept hb0
  have hfull := full_any W0 0 g L hI0.toI hL
  by_cases hlt : L.length < 4096
  · rw [if_pos hlt, decide_eq_true hlt]
    rw [decide_eq_false (show ¬ 4096 ≤ L.length by omega)] at hfull
    have hlt7 := hI.lt
    obtain ⟨⟨v, xs, h1, h2, h3, h4, h5⟩, h6, _⟩ := hI0
    have H4 := Lib.hid h4
    have H5 := Lib.hid h5
    have H6 := Lib.hid h6
    have H7 := Lib.hid hlt7
    have hP : BlkV W0 w.heap.size 31 #[.int .i64 M.fr, .int .i64 M.to, .int .i64 M.kd, .slice an nn cn, .slice ad nd cd] := by rw [hW0]; exact BlkV.new w _ _
    obtain ⟨K, hK⟩ : ∃ K, K = w.heap.size := ⟨_, rfl⟩
    have howncall := fun W (hb : Below w.heap.size w W) => own_o W M an ad cn cd (hn.kept hb) (hd.kept hb) ln ld
    have HOC := Lib.hid howncall
    have HF := Lib.hid hfull
    have HW0 := Lib.hid hW0
    have HK := Lib.hid hK
    have c0 := h1.cell 0
    have p0 := hP.cell 0
    have p1 := hP.cell 1
    have p2 := hP.cell 2
    have p3 := hP.cell 3
    have p4 := hP.cell 4
    simp only [List.getElem?_toArray, List.getElem?_cons_succ, List.getElem?_cons_zero] at c0 p0 p1 p2 p3 p4
    rw [← hK] at p0 p1 p2 p3 p4
    unfold msV at HOC ⊢
    rw [← hnn, ← hnd] at HOC ⊢
    have HNN := Lib.hid hnn
    have HND := Lib.hid hnd
    have HB0 := Lib.hid hb0
    clear hfull hW0 howncall hP hI hn hd hnn hnd hb0 h4 h5 h6 hlt7
    go_enter Try.func7, Try.ntmps7
    go_wp2_with fail
    rw [← HW0.out, ← hK]
    clear hK
    refine HF.out.mono ?_
    rintro e w1 ⟨rfl, hw1⟩
    have hw1 := hw1.symm
    subst hw1
    obtain ⟨wr, hwr⟩ : ∃ wr : World, wr = W0 := ⟨_, rfl⟩
    subst hwr
    go_upto_region 3 with (fail)
    have hgw := h1.lt
    go_region_law (first
      | ((with_reducible refine StepAt 13 ?_); (refine At.out ?_); go_simp; go_at_call 22; refine (HOC.out _ (HB0.out.drew)).mono ?_; rintro e w3 ⟨x3, rfl, hx3, hb3⟩
         (obtain ⟨an3, cn3, ad3, cd3, rfl⟩ := MsO.vals hx3); (have h13 := BlkV.below (w := wr.drew) h1 hb3); (have h23 := own_below (w := wr.drew) h2 hb3); (have h33 := RowR.map (fun x M (hm : MsR wr x M) => MsR.kept (w := wr.drew) hm hb3) h3); (have z3 : g < w3.heap.size := h13.lt); (have k0 := h13.cell 0); (simp only [List.getElem?_toArray, List.getElem?_cons_zero] at k0))
      | ((with_reducible refine StepAt 15 ?_)
         (refine At.out (step_appH (by rfl) (.tmp 11) (.tmp 14) 24 (by rfl) elemM rfl (by decide) 0 v L.length xs (by rfl) (h23.alloc _) ⟨w3.heap.size, 0, none⟩ 1 1 [.int .i64 M.fr, .int .i64 M.to, .int .i64 M.kd, .slice an3 M.nums.length cn3, .slice ad3 M.data.length cd3] (by rfl) rfl (cells5 w3 _ _ _ _ _) (MsR.one hx3.toR) (by unfold maxLen; omega) (by omega) (Nat.zero_le _) ?_))
         (intro a4 c4 w4 ho4 hb4 hg4 hat4)
         (have h14 := BlkV.grown (BlkV.alloc h13 (.cells #[.int .i64 M.fr, .int .i64 M.to, .int .i64 M.kd, .slice an3 M.nums.length cn3, .slice ad3 M.data.length cd3] 31)) hg4 (own_type (h23.alloc _)) (by decide))
         (have i0 := h14.cell 0); (have if0 := h14.frozen 0); (simp only [List.getElem?_toArray, List.getElem?_cons_zero] at i0)))
    all_goals
      have e1 : Below w.heap.size w wr := HB0.out
      have e2 : Below w.heap.size w w3 := e1.trans ((Below.refl _ _).drew.trans (hb3.mono (by simp; exact e1.size)))
      obtain ⟨hfin, hbf⟩ := send_end (T := 26) (by decide) (by decide) (by decide) rfl h13 h23 h33 H4.out H5.out H6.out H7.out e2 (hx3.base (by simp; exact e1.size)) ho4 hg4 hat4
      have HFIN := Lib.hid hfin
      have HBF := Lib.hid hbf
      clear hfin hbf ho4 hb4 hg4 hat4 h14 i0 if0 h13 h23 h33 k0 hx3 hb3 h1 h2 h3 e1 e2
      go_wp2
      go_ret
      exact ⟨rfl, HFIN.out, HBF.out⟩
  · rw [if_neg hlt, decide_eq_false hlt]
    rw [decide_eq_true (show 4096 ≤ L.length by omega)] at hfull
    have HF := Lib.hid hfull
    have HW0 := Lib.hid hW0
    have HI := Lib.hid hI0
    have HB := Lib.hid hb0
    unfold msV
    rw [← hnn, ← hnd]
    clear hfull hW0 hI hI0 hb0 hn hd hnn hnd
    go_enter Try.func7, Try.ntmps7
    go_wp2_with fail
    rw [← HW0.out]
    refine HF.out.mono ?_
    rintro e w1 ⟨rfl, hw1⟩
    have hw1 := hw1.symm
    subst hw1
    go_wp2
    go_ret
    exact ⟨rfl, HI.out.grewn, Off.ofBelow HB.out⟩
end Go.Proofs.Ytoagneajlfglcaa
