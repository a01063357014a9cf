/- net's full, has, Len, Send: the contracts. Conditions: each contract's own premises. -/
import Derived.Test.YtoagneajlfglcaaNetOwn
namespace Go.Proofs.Ytoagneajlfglcaa
open Go Go.RowKit

theorem elemM : ElemT Try.prog 24 31 5 (.agg #[.int .i64 0, .int .i64 0, .int .i64 0, .slice none 0 0, .slice none 0 0]) 72 := ⟨Try.underlying24, info_parts (by kernel_rfl)⟩
theorem own_slice {w : World} {base : Nat} {e : TypeId} {sz : Nat} {v : Value} {n : Nat} {xs : List Value} (h : w.ownsRow base e sz v n xs) : ∃ a c, v = .slice a n c := by
  rcases h.2 with ⟨rfl, h0⟩ | ⟨k, cap, cur, rfl, _⟩
  · exact ⟨none, 0, by rw [h0]⟩
  · exact ⟨_, _, rfl⟩
theorem own_type {w : World} {base : Nat} {e : TypeId} {sz : Nat} {v : Value} {n : Nat} {xs : List Value} (h : w.ownsRow base e sz v n xs) : ∀ k, v.ownBlock = some k → ∃ cs fr, w.heap[k]? = some (.cells cs e fr) := by
  intro k hk
  rcases h.2 with ⟨rfl, _⟩ | ⟨g, cap, cur, rfl, _, hg, _⟩
  · simp [Value.ownBlock] at hk
  · simp [Value.ownBlock] at hk
    subst hk
    exact ⟨cur, _, hg⟩
theorem BlkV.grown {w w' : World} {g : Nat} {t t' : TypeId} {cs : Array Value} (h : BlkV w g t cs) {row : Option Nat} (hg : w.grownBy w' row) (hr : ∀ k, row = some k → ∃ cs fr, w.heap[k]? = some (.cells cs t' fr)) (hne : t ≠ t') : BlkV w' g t cs := by
  unfold BlkV at h ⊢
  rw [hg.block g (Array.getElem?_eq_some_iff.1 h).1 fun e => ?_]
  · exact h
  · obtain ⟨cs', fr', hh⟩ := hr g e.symm
    rw [h] at hh
    cases hh
    exact hne rfl
theorem own_other {w w' : World} {base : Nat} {e t' : TypeId} {sz : Nat} {v : Value} {n : Nat} {xs : List Value} (h : w.ownsRow base e sz v n xs) {g : Nat} {cs : Array Value} (hB : BlkV w g t' cs) (hne : e ≠ t') (hg : ∀ k, k ≠ g → w'.heap[k]? = w.heap[k]?) : w'.ownsRow base e sz v n xs := by
  refine ⟨h.1, ?_⟩
  rcases h.2 with h' | ⟨k, cap, cur, hv, hb, hh, r⟩
  · exact .inl h'
  · refine .inr ⟨k, cap, cur, hv, hb, ?_, r⟩
    rw [hg k ?_]
    · exact hh
    · rintro rfl
      rw [show w.heap[k]? = _ from hB] at hh
      cases hh
      exact hne rfl
theorem MsR.same {w w' : World} {x : List Value} {M : Ms} (h : MsR w x M) {t' : TypeId} {g : Nat} {cs : Array Value} (hB : BlkV w g t' cs) (h1 : 3 ≠ t') (h2 : 5 ≠ t') (hg : ∀ k, k ≠ g → w'.heap[k]? = w.heap[k]?) : MsR w' x M := by
  obtain ⟨an, cn, ad, cd, k1, k2, k3⟩ := h
  exact ⟨an, cn, ad, cd, k1, k2.same hB h1 hg, k3.same hB h2 hg⟩
/-- A Net behind a store of its row. -/
theorem NetI.store {w : World} {B g : Nat} {L : List Ms} {u v : Value} {xs : List Value} (hg : B ≤ g) (hB : BlkV w g 26 #[u]) (ho : w.ownsRow B 31 5 v L.length xs) (hr : RowR w xs L) : NetI (w.setCell ⟨g, 0, none⟩ v) B g L := by
  have hs : ∀ k, k ≠ g → (w.setCell ⟨g, 0, none⟩ v).heap[k]? = w.heap[k]? := fun k hk => Below.heap_setCell w ⟨g, 0, none⟩ v k hk
  exact ⟨⟨v, xs, hB.set 0 v, own_other ho hB (by decide) hs, hr.map fun x M hm => hm.same hB (by decide) (by decide) hs⟩, hg⟩
/-- append of messages at a step of a region. -/
theorem step_app5 {P : Program} {ops : Array Oper} {o : Oper} {a : Act} {w : World} {K : Act → World → Prop} {Q : Exit → Act → World → Prop} {E : Prop} {e : TypeId} {z : Value} {bytes sz : Nat}
    (hgd : o.guard = none) (s x : Operand) (t : TypeId)
    (ho : o.op = .call { callee := .builtin .append, args := #[s, x], argTypes := #[t, t] })
    (T : ElemT P t e sz z bytes) (hz1 : z.cells.size = sz) (hsz0 : 0 < sz)
    (base : Nat) (v : Value) (n : Nat) (xs : List Value) (hs : a.eval s = v) (hown : w.ownsRow base e sz v n xs)
    (ad : Addr) (m c : Nat) (news : List Value) (hx : a.eval x = .slice (some ad) m c) (hm : news.length = m * sz) (hr : ∀ j u, news[j]? = some u → w.cell? (ad.add j) = some u) (h1 : ∀ u ∈ news, u.oneCell' = true)
    (h63 : n + m ≤ maxLen) (hbytes : (n + m) * bytes ≤ 140737488355328) (hbase : base ≤ w.heap.size)
    (h : ∀ v' w', w'.ownsRow base e sz v' (n + m) (xs ++ news) → Below base w w' → w.grownBy w' v.ownBlock → K (a.put o.dst v') w') :
    if Region.wanted o (yielded ops a.tmps) = true then Oper.wp P o a w K Q else E := by
  have hw : Region.wanted o (yielded ops a.tmps) = true := by simp [Region.wanted, hgd]
  rw [if_pos hw]
  obtain ⟨i, hi, hz, hsz, hby⟩ := T.hi
  refine wp_append_own w s x t ho base e i z sz bytes T.ht hi hz hsz hby hz1 hsz0 v n xs hs hown ad m c news hx hm hr h1 h63 hbytes hbase ?_
  intro v' w' ho' hg _
  exact h v' w' ho' (below_grown hg hbase (fun k hk => (hown.lt k hk).1)) hg

set_option maxRecDepth 100000 in
set_option maxHeartbeats 1000000 in
theorem full_any (w : World) (B g : Nat) (L : List Ms) (h : NetI w B g L) (hL : L.length ≤ 4096) : Calls Try.prog 21 #[.pointer (some ⟨g, 0, none⟩)] w fun e w' => e = .returned (.bool (decide (4096 ≤ L.length))) ∧ w' = w := by
  obtain ⟨⟨v, xs, h1, h2, h3⟩, h4⟩ := h
  obtain ⟨n, hn⟩ : ∃ n, n = L.length := ⟨_, rfl⟩
  rw [← hn] at h2 hL ⊢
  have hv : ∃ a c, v = .slice a n c := by
    exact own_slice h2
  obtain ⟨a, c, rfl⟩ := hv
  have c0 := h1.cell 0
  simp only [List.getElem?_toArray, List.getElem?_cons_zero] at c0
  obtain ⟨r, hr⟩ : ∃ r, r = decide (4096 ≤ n) := ⟨_, rfl⟩
  rw [← hr]
  have hri : decide ((4096 : Int) ≤ (n : Int)) = r := by rw [hr]; exact decide_eq_decide.2 (by omega)
  clear h1 h2 h3 hr hn
  go_enter Try.func21, Try.ntmps21
  go_wp2
  go_ret
  exact ⟨rfl, rfl⟩

/-- A message that came, as its five values. -/
theorem MsR.vals {w : World} {x : Array Value} {M : Ms} (h : MsR w x.toList M) : ∃ an cn ad cd, x = #[.int .i64 M.fr, .int .i64 M.to, .int .i64 M.kd, .slice an M.nums.length cn, .slice ad M.data.length cd] := by
  obtain ⟨an, cn, ad, cd, h1, _⟩ := h
  exact ⟨an, cn, ad, cd, by rw [← Array.toList_inj, h1]⟩

theorem cells5 (w : World) (x0 x1 x2 x3 x4 : Value) : ∀ j u, [x0, x1, x2, x3, x4][j]? = some u → (w.alloc (.cells #[x0, x1, x2, x3, x4] 31)).cell? ((⟨w.heap.size, 0, none⟩ : Addr).add j) = some u := by
  intro j u h
  rw [Addr.add_lit, Nat.zero_add, (BlkV.new w 31 #[x0, x1, x2, x3, x4]).cell j]
  simpa using h

set_option maxRecDepth 100000 in
set_option maxHeartbeats 4000000 in
theorem send_any (w : World) (B g : Nat) (L : List Ms) (hI : NetI w B g L) (hL : L.length ≤ 4096) (M : Ms) (an ad : Option Addr) (cn cd : Nat) (hn : Rd w an cn (BI M.nums)) (hd : Rd w ad cd (B8 M.data)) (ln : M.nums.length ≤ 100000000) (ld : M.data.length ≤ 100000000) :
    Calls Try.prog 7 #[.pointer (some ⟨g, 0, none⟩), msV M an cn ad cd] w fun e w' => e = .returned (.bool (decide (L.length < 4096))) ∧ NetI w' B g (if L.length < 4096 then L ++ [M] else L) ∧ Below B w w' := by
  have hBw : B ≤ w.heap.size := by
    obtain ⟨⟨v, xs, h1, _, _⟩, h4⟩ := hI
    have := h1.lt; omega
  obtain ⟨nn, hnn⟩ : ∃ nn, nn = M.nums.length := ⟨_, rfl⟩
  obtain ⟨nd, hnd⟩ : ∃ nd, nd = M.data.length := ⟨_, rfl⟩
  obtain ⟨W0, hW0⟩ : ∃ W0, W0 = w.alloc (.cells #[.int .i64 M.fr, .int .i64 M.to, .int .i64 M.kd, .slice an nn cn, .slice ad nd cd] 31) := ⟨_, rfl⟩
  have hb0 : Below w.heap.size w W0 := by rw [hW0]; exact (Below.refl _ _).alloc (Nat.le_refl _) _
  have hI0 := hI.kept hb0
  have hfull := full_any W0 B g L hI0 hL
  by_cases hlt : L.length < 4096
  · rw [if_pos hlt, decide_eq_true hlt]
    rw [decide_eq_false (show ¬ 4096 ≤ L.length by omega)] at hfull
    obtain ⟨⟨v, xs, h1, h2, h3⟩, h4⟩ := hI0
    have hP : BlkV W0 w.heap.size 31 #[.int .i64 M.fr, .int .i64 M.to, .int .i64 M.kd, .slice an nn cn, .slice ad nd cd] := by rw [hW0]; exact BlkV.new w _ _
    obtain ⟨K, hK⟩ : ∃ K, K = w.heap.size := ⟨_, rfl⟩
    have howncall := fun W (hb : Below w.heap.size w W) => own_any W M an ad cn cd (hn.kept hb) (hd.kept hb) ln ld
    have HOC := Lib.hid howncall
    have HF := Lib.hid hfull
    have HW0 := Lib.hid hW0
    have HK := Lib.hid hK
    have c0 := h1.cell 0
    have p0 := hP.cell 0
    have p1 := hP.cell 1
    have p2 := hP.cell 2
    have p3 := hP.cell 3
    have p4 := hP.cell 4
    simp only [List.getElem?_toArray, List.getElem?_cons_succ, List.getElem?_cons_zero] at c0 p0 p1 p2 p3 p4
    rw [← hK] at p0 p1 p2 p3 p4 hBw
    unfold msV at HOC ⊢
    rw [← hnn, ← hnd] at HOC ⊢
    have HNN := Lib.hid hnn
    have HND := Lib.hid hnd
    have HB0 := Lib.hid hb0
    clear hfull hW0 howncall hP hI hn hd hnn hnd hb0
    go_enter Try.func7, Try.ntmps7
    go_wp2_with fail
    rw [← HW0.out, ← hK]
    clear hK
    refine HF.out.mono ?_
    rintro e w1 ⟨rfl, hw1⟩
    have hw1 := hw1.symm
    subst hw1
    obtain ⟨wr, hwr⟩ : ∃ wr : World, wr = W0 := ⟨_, rfl⟩
    subst hwr
    go_upto_region 3 with (fail)
    have hB1 : B ≤ wr.heap.size := by have := h1.lt; omega
    go_region_law (first
      | ((with_reducible refine StepAt 13 ?_); (refine At.out ?_); go_simp; go_at_call 22; refine (HOC.out _ (HB0.out.drew)).mono ?_; rintro e w3 ⟨x3, rfl, hx3, hb3⟩
         (obtain ⟨an3, cn3, ad3, cd3, rfl⟩ := MsR.vals hx3); (have h13 := BlkV.below (w := wr.drew) h1 hb3); (have h23 := own_below (w := wr.drew) h2 hb3); (have h33 := RowR.map (fun x M (hm : MsR wr x M) => MsR.kept (w := wr.drew) hm hb3) h3); (have z3 : g < w3.heap.size := h13.lt); (have k0 := h13.cell 0); (simp only [List.getElem?_toArray, List.getElem?_cons_zero] at k0))
      | ((with_reducible refine StepAt 15 ?_)
         (refine At.out (step_app5 (by rfl) (.tmp 11) (.tmp 14) 24 (by rfl) elemM rfl (by decide) B v L.length xs (by rfl) (h23.alloc _) ⟨w3.heap.size, 0, none⟩ 1 1 [.int .i64 M.fr, .int .i64 M.to, .int .i64 M.kd, .slice an3 M.nums.length cn3, .slice ad3 M.data.length cd3] (by rfl) rfl (cells5 w3 _ _ _ _ _) (MsR.one hx3) (by unfold maxLen; omega) (by omega) (by have := hb3.size; simp at this ⊢; omega) ?_))
         (intro v4 w4 ho4 hb4 hg4)
         (obtain ⟨a4, c4, rfl⟩ := own_slice ho4)
         (have h14 := BlkV.grown (BlkV.alloc h13 (.cells #[.int .i64 M.fr, .int .i64 M.to, .int .i64 M.kd, .slice an3 M.nums.length cn3, .slice ad3 M.data.length cd3] 31)) hg4 (own_type (h23.alloc _)) (by decide))
         (have i0 := h14.cell 0); (have if0 := h14.frozen 0); (simp only [List.getElem?_toArray, List.getElem?_cons_zero] at i0)))
    all_goals
      have hx4 := MsR.grown (MsR.kept hx3 ((Below.refl w3.heap.size w3).alloc (Nat.le_refl _) (.cells #[.int .i64 M.fr, .int .i64 M.to, .int .i64 M.kd, .slice an3 M.nums.length cn3, .slice ad3 M.data.length cd3] 31))) hg4 (own_type (h23.alloc _)) (by decide) (by decide)
      have h34 := RowR.map (fun x M' (hm : MsR w3 x M') => MsR.grown (MsR.kept hm ((Below.refl w3.heap.size w3).alloc (Nat.le_refl _) (.cells #[.int .i64 M.fr, .int .i64 M.to, .int .i64 M.kd, .slice an3 M.nums.length cn3, .slice ad3 M.data.length cd3] 31))) hg4 (own_type (h23.alloc _)) (by decide) (by decide)) h33
      have hr5 := RowR.snoc hx4 h34
      have hll : L.length + 1 = (L ++ [M]).length := by simp
      have hfin := NetI.store h4 h14 (own_len ho4 hll) hr5
      have hbf : Below B w (w4.setCell ⟨g, 0, none⟩ (.slice a4 (L.length + 1) c4)) := by
        refine Below.setCell (p := ⟨g, 0, none⟩) ?_ h4 _
        have e1 : Below B w wr := HB0.out.mono (by have := HK.out; omega)
        have e2 : Below B wr w3 := (Below.refl _ _).drew.trans (hb3.mono (by simp; omega))
        exact (e1.trans e2).trans (((Below.refl B w3).alloc (by have := hb3.size; simp at this; omega) _).trans hb4)
      have HFIN := Lib.hid hfin
      have HBF := Lib.hid hbf
      clear hx4 h34 hr5 hll hfin hbf ho4 hb4 hg4 h14 i0 if0 h13 h23 h33 k0 hx3 hb3 h1 h2 h3
      go_wp2
      go_ret
      exact ⟨rfl, HFIN.out, HBF.out⟩
  · rw [if_neg hlt, decide_eq_false hlt]
    rw [decide_eq_true (show 4096 ≤ L.length by omega)] at hfull
    have HF := Lib.hid hfull
    have HW0 := Lib.hid hW0
    have HI := Lib.hid hI0
    have HB := Lib.hid hb0
    unfold msV
    rw [← hnn, ← hnd]
    clear hfull hW0 hI hI0 hb0 hn hd hnn hnd
    go_enter Try.func7, Try.ntmps7
    go_wp2_with fail
    rw [← HW0.out]
    refine HF.out.mono ?_
    rintro e w1 ⟨rfl, hw1⟩
    have hw1 := hw1.symm
    subst hw1
    go_wp2
    go_ret
    exact ⟨rfl, HI.out, HB.out.mono hBw⟩
end Go.Proofs.Ytoagneajlfglcaa
