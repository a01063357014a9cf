/- fsm's own, Volume, Volumes: the contracts. fsm's Volumes: the contract. fsm's Volume: the contract. Conditions: each law's own premises. -/
import Derived.Test.YteenbobblbehoaaFsmNil
namespace Go.Proofs.Yteenbobblbehoaa
open Go Go.RowKit

/-- A volume as six values. -/
abbrev volC (i : Nat) (V : Vl) (a : Option Addr) (m c : Nat) : Array Value := #[.int .i64 ((i : Int) + 1), .int .i64 V.st, .int .i64 V.ep, .slice a m c, .bool V.fr, .int .i64 0]

set_option maxRecDepth 100000 in
set_option maxHeartbeats 4000000 in
theorem own_any (w : World) (p i m : Nat) (V : Vl) (an : Option Addr) (cn : Nat) (hB : BlkV w p 65 (rowC i V an m cn)) (hm : m = V.nodes.length) (hrn : Rd w an cn (BI V.nodes)) (hl : V.nodes.length ≤ 64) :
    Calls Try.prog 29 #[ptrV p] w fun e w' => ∃ a' c', e = .returned (.agg (volC i V a' m c')) ∧ w'.ownsRow w.heap.size 3 1 (.slice a' m c') m (BI V.nodes) ∧ Below w.heap.size w w' := by
  have c0 := hB.cell 0
  have c1 := hB.cell 1
  have c2 := hB.cell 2
  have c3 := hB.cell 3
  have c4 := hB.cell 4
  have c5 := hB.cell 5
  unfold rowC at c0 c1 c2 c3 c4 c5
  simp only [List.getElem?_toArray, List.getElem?_cons_succ, List.getElem?_cons_zero] at c0 c1 c2 c3 c4 c5
  have hpl : p < w.heap.size := hB.lt
  have HM := Lib.hid hm
  obtain ⟨K, hK⟩ : ∃ K, K = w.heap.size := ⟨_, rfl⟩
  have HK := Lib.hid hK
  obtain ⟨W2, hW2⟩ : ∃ W2, W2 = (w.alloc (.cells #[.int .i64 0, .int .i64 0, .int .i64 0, .slice none 0 0, .bool false, .int .i64 0] 37)).alloc (.cells (volC i V an m cn) 37) := ⟨_, rfl⟩
  have HW2 := Lib.hid hW2
  have hb2 : Below w.heap.size w W2 := by rw [hW2]; exact ((Below.refl _ _).alloc (Nat.le_refl _) _).alloc (by simp) _
  have hZ2 : BlkV W2 K 37 #[.int .i64 0, .int .i64 0, .int .i64 0, .slice none 0 0, .bool false, .int .i64 0] := by rw [hW2, hK]; exact (BlkV.new w _ _).alloc _
  have hM2 : BlkV W2 (K + 1) 37 (volC i V an m cn) := by
    rw [hW2, hK]
    have := BlkV.new (w.alloc (.cells #[.int .i64 0, .int .i64 0, .int .i64 0, .slice none 0 0, .bool false, .int .i64 0] 37)) 37 (volC i V an m cn)
    simpa using this
  have hcl := cloneN_any W2 an cn m V.nodes hm (hrn.kept hb2) (by omega)
  have HCL := Lib.hid hcl
  clear hB hW2 hK hm hcl hl hrn
  unfold ptrV
  go_enter Try.func29, Try.ntmps29
  go_wp2_with fail
  rw [← HW2.out, ← HK.out]
  refine HCL.out.mono ?_
  rintro e w3 ⟨a3, c3', rfl, ho3, hb3⟩
  have hM3 := hM2.below hb3
  have hZ3 := hZ2.below hb3
  have f3 := hM3.frozen 3
  have i3 := hM3.cell 3
  simp only [volC, List.getElem?_toArray, List.getElem?_cons_succ, List.getElem?_cons_zero] at i3
  have hM4 := hM3.set 3 (.slice a3 m c3')
  have hZ4 := hZ3.far (show K ≠ K + 1 by omega) 3 (.slice a3 m c3')
  simp only [volC, List.setIfInBounds_toArray, List.set_cons_zero, List.set_cons_succ] at hM4
  have hsz := hM2.lt
  have ho4 := own_setFar ho3 (show K + 1 < W2.heap.size by omega) 3 (.slice a3 m c3')
  have hb4 : Below w.heap.size w (w3.setCell ⟨K + 1, 3, none⟩ (.slice a3 m c3')) := (hb2.trans (hb3.mono hb2.size)).setCell (p := ⟨K + 1, 3, none⟩) (by have := HK.out; simp; omega) _
  obtain ⟨W4, hW4⟩ : ∃ W4, W4 = w3.setCell ⟨K + 1, 3, none⟩ (.slice a3 m c3') := ⟨_, rfl⟩
  rw [← hW4] at hM4 hZ4 ho4 hb4
  have HW4 := Lib.hid hW4
  have HO4 := Lib.hid ho4
  have HB4 := Lib.hid hb4
  have HM4 := Lib.hid hM4
  have HZ4 := Lib.hid hZ4
  clear hM2 hZ2 hM3 hZ3 hM4 hZ4 ho3 hb3 ho4 hb4 hW4
  go_wp2_with (with_reducible refine At.slot 12 ?_)
  rw [← HW4.out]
  refine At.out (wpList_loadV rfl _ rfl (.tmp 3) rfl strV (K + 1) _ rfl HM4.out rfl ?_)
  go_wp2_with (with_reducible refine At.store 37 (.tmp 2) (.tmp 12) ?_)
  refine At.out (wpList_storeV rfl _ rfl (.tmp 2) (.tmp 12) rfl strV K _ (volC i V a3 m c3') rfl rfl HZ4.out rfl rfl (by simp [Value.oneCell']) ?_)
  intro w5 hB5 hbel hoth
  have hb5 := hbel w.heap.size w HB4.out (by have := HK.out; omega)
  have ho5 := own_same HO4.out (fun k hk => hoth k (by omega))
  go_wp2_with fail
  exact bodyPost_ret (v := .agg (volC i V a3 m c3')) (results_cell1 rfl strV rfl hB5 rfl) rfl ⟨a3, c3', rfl, own_base ho5 (by have := hb2.size; have := HK.out; omega), hb5⟩

/-- Volumes, one behind the other, each with nodes of its own. -/
def VsR (w : World) (B : Nat) : Nat → List Value → List Vl → Prop
  | _, xs, [] => xs = []
  | i, xs, V :: L => ∃ a c r, xs = (volC i V a V.nodes.length c).toList ++ r ∧ (TRd w 3 a c (BI V.nodes) ∧ ∀ b o, a = some ⟨b, o, none⟩ → B ≤ b) ∧ VsR w B (i + 1) r L
theorem VsR.len {w : World} {B : Nat} : ∀ {L : List Vl} {i : Nat} {xs : List Value}, VsR w B i xs L → xs.length = L.length * 6
  | [], _, xs, h => by rw [show xs = [] from h]; rfl
  | V :: L, i, xs, h => by
    obtain ⟨a, c, r, rfl, _, h2⟩ := h
    rw [List.length_append, h2.len, List.length_cons]
    simp
    omega
theorem VsR.map {w w' : World} {B : Nat} (hm : ∀ a c xs, TRd w 3 a c xs → TRd w' 3 a c xs) : ∀ {L : List Vl} {i : Nat} {xs : List Value}, VsR w B i xs L → VsR w' B i xs L
  | [], _, _, h => h
  | _ :: _, _, _, h => by
    obtain ⟨a, c, r, rfl, h1, h2⟩ := h
    exact ⟨a, c, r, rfl, ⟨hm _ _ _ h1.1, h1.2⟩, VsR.map hm h2⟩
theorem VsR.snoc {w : World} {B : Nat} {V : Vl} {a : Option Addr} {c : Nat} (hx : TRd w 3 a c (BI V.nodes)) (hB : ∀ b o, a = some ⟨b, o, none⟩ → B ≤ b) : ∀ {L : List Vl} {i : Nat} {xs : List Value}, VsR w B i xs L → VsR w B i (xs ++ (volC (i + L.length) V a V.nodes.length c).toList) (L ++ [V])
  | [], i, xs, h => by
    rw [show xs = [] from h]
    exact ⟨a, c, [], by simp, ⟨hx, hB⟩, rfl⟩
  | N :: L, i, xs, h => by
    obtain ⟨a', c', r, rfl, h1, h2⟩ := h
    have := VsR.snoc hx hB h2
    refine ⟨a', c', _, by rw [List.append_assoc], h1, ?_⟩
    rw [List.length_cons, show i + (L.length + 1) = i + 1 + L.length by omega]
    exact this
theorem VsR.get {w : World} {B : Nat} : ∀ {L : List Vl} {i : Nat} {xs : List Value} (k : Nat) {V : Vl} (_ : VsR w B i xs L) (_ : L[k]? = some V), ∃ a c, (∀ j, j < 6 → xs[k * 6 + j]? = (volC (i + k) V a V.nodes.length c)[j]?) ∧ TRd w 3 a c (BI V.nodes) ∧ ∀ b o, a = some ⟨b, o, none⟩ → B ≤ b
  | N :: L, i, xs, 0, V, h, hV => by
    obtain ⟨a, c, r, rfl, h1, _⟩ := h
    simp only [List.getElem?_cons_zero, Option.some.injEq] at hV
    subst hV
    refine ⟨a, c, fun j hj => ?_, h1.1, h1.2⟩
    rw [List.getElem?_append_left (by simp; omega)]
    simp
  | N :: L, i, xs, k + 1, V, h, hV => by
    obtain ⟨a, c, r, rfl, h1, h2⟩ := h
    rw [List.getElem?_cons_succ] at hV
    obtain ⟨a', c', g1, g2⟩ := VsR.get k h2 hV
    refine ⟨a', c', fun j hj => ?_, g2⟩
    rw [List.getElem?_append_right (by simp; omega), show i + (k + 1) = i + 1 + k by omega, ← g1 j hj]
    congr 1
    simp
    omega
/-- Volumes that read, the first of number i0 + 1, beside a table with blocks out of F. -/
def VlsB (w : World) (F : Nat → Prop) (a : Option Addr) (c i0 : Nat) (L : List Vl) : Prop := L.length ≤ c ∧ c ≤ maxLen ∧
  ∀ i V, L[i]? = some V → ∃ b o an cn, a = some ⟨b, o, none⟩ ∧ ¬ F b ∧ b < w.heap.size ∧ (∀ j, j < 6 → w.cell? ⟨b, o + i * 6 + j, none⟩ = (volC (i0 + i) V an V.nodes.length cn)[j]?) ∧ Beside w F an cn (BI V.nodes)
theorem VlsB.off {w w' : World} {F F' : Nat → Prop} {a : Option Addr} {c i0 : Nat} {L : List Vl} (h : VlsB w F a c i0 L) (ho : Off F w w') (hF : ∀ k, F' k → F k ∨ w.heap.size ≤ k) : VlsB w' F' a c i0 L := by
  refine ⟨h.1, h.2.1, fun i V hV => ?_⟩
  obtain ⟨b, o, an, cn, h1, h2, h3, h4, h5⟩ := h.2.2 i V hV
  refine ⟨b, o, an, cn, h1, fun hf => (hF b hf).elim h2 (by omega), by have := ho.size; omega, fun j hj => ?_, h5.off ho hF⟩
  rw [World.cell?_of_block (ho.block b h3 h2)]
  exact h4 j hj
theorem VlsB.kept {w w' : World} {F : Nat → Prop} {a : Option Addr} {c i0 : Nat} {L : List Vl} (h : VlsB w F a c i0 L) (hb : Below w.heap.size w w') : VlsB w' F a c i0 L := h.off (Off.ofBelow hb) fun _ h => .inl h
theorem VlsB.ofOwn {w W : World} {F : Nat → Prop} {L : List Vl} {v : Value} {xs : List Value} (ho : w.ownsRow W.heap.size 37 6 v L.length xs) (hr : VsR w W.heap.size 0 xs L) (hF : ∀ k, F k → k < W.heap.size) : ∃ a c, v = .slice a L.length c ∧ VlsB w F a c 0 L := by
  rcases ho.2 with ⟨rfl, h0⟩ | ⟨g, cap, cur, rfl, hg, hh, hnc, hcm, hcs, ht⟩
  · refine ⟨none, 0, by rw [h0], by omega, by unfold maxLen; omega, fun i V hV => ?_⟩
    have := (List.getElem?_eq_some_iff.1 hV).1
    omega
  · refine ⟨some ⟨g, 0, none⟩, cap, rfl, hnc, hcm, fun i V hV => ?_⟩
    have hi := (List.getElem?_eq_some_iff.1 hV).1
    have hgl : g < w.heap.size := (Array.getElem?_eq_some_iff.1 hh).1
    obtain ⟨an, cn, g1, g2, g3⟩ := VsR.get i hr hV
    refine ⟨g, 0, an, cn, rfl, fun hf => by have := hF g hf; omega, hgl, fun j hj => ?_, g2.1, fun b o hx ha => ⟨fun hf => by have := hF b hf; have := g3 b o ha; omega, ?_⟩⟩
    · rw [← g1 j hj, ← ht, cell_of_row w g (0 + i * 6 + j) cur _ _ hh, List.getElem?_take, if_pos (by omega)]
      simp
    · obtain ⟨cs, fr, hh'⟩ := g2.2 b o hx ha
      exact (Array.getElem?_eq_some_iff.1 hh').1
end Go.Proofs.Yteenbobblbehoaa

namespace Go.Proofs.Yteenbobblbehoaa
open Go Go.RowKit

theorem elemV : ElemT Try.prog 34 37 6 (.agg #[.int .i64 0, .int .i64 0, .int .i64 0, .slice none 0 0, .bool false, .int .i64 0]) 64 := ⟨Try.underlying34, info_parts (by kernel_rfl)⟩
/-- append of elements of some cells. -/
theorem wpList_appS {P : Program} {w : World} {ops : Array Oper} {rest : List Oper} {o : Oper} {a : Act} {Q : Exit → Act → World → Prop} {e : TypeId} {z : Value} {bytes sz : Nat}
    (hgd : o.guard = none) (s x : Operand) (t : TypeId)
    (ho : o.op = .call { callee := .builtin .append, args := #[s, x], argTypes := #[t, t] })
    (T : ElemT P t e sz z bytes) (hz1 : z.cells.size = sz) (hsz0 : 0 < sz)
    (base : Nat) (v : Value) (n : Nat) (xs : List Value) (hs : a.eval s = v) (hown : w.ownsRow base e sz v n xs)
    (ad : Addr) (m c : Nat) (news : List Value) (hx : a.eval x = .slice (some ad) m c) (hm : news.length = m * sz) (hr : ∀ j u, news[j]? = some u → w.cell? (ad.add j) = some u) (h1 : ∀ u ∈ news, u.oneCell' = true)
    (h63 : n + m ≤ maxLen) (hbytes : (n + m) * bytes ≤ 140737488355328) (hbase : base ≤ w.heap.size)
    (h : ∀ a' c' w', w'.ownsRow base e sz (.slice a' (n + m) c') (n + m) (xs ++ news) → Below base w w' → w.grownBy w' v.ownBlock → wpList P ops Q rest (a.put o.dst (.slice a' (n + m) c')) w') : wpList P ops Q (o :: rest) a w := by
  obtain ⟨i, hi, hz, hsz, hby⟩ := T.hi
  refine wpList_append_own w hgd s x t ho base e i z sz bytes T.ht hi hz hsz hby hz1 hsz0 v n xs hs hown ad m c news hx hm hr h1 h63 hbytes hbase ?_
  intro v' w' ho' hg _
  have hsl : ∃ a' c', v' = .slice a' (n + m) c' := by
    rcases ho'.2 with ⟨rfl, h0⟩ | ⟨k, cap, cur, rfl, _⟩
    · exact ⟨none, 0, by rw [h0]⟩
    · exact ⟨_, _, rfl⟩
  obtain ⟨a', c', rfl⟩ := hsl
  exact h a' c' w' ho' (below_grown hg hbase (fun k hk => (hown.lt k hk).1)) hg
theorem cells6 (w : World) (C : List Value) (t : TypeId) : ∀ j u, C[j]? = some u → (w.alloc (.cells C.toArray t)).cell? ((⟨w.heap.size, 0, none⟩ : Addr).add j) = some u := by
  intro j u h
  rw [Addr.add_lit, Nat.zero_add, (BlkV.new w t C.toArray).cell j]
  simpa using h

set_option maxRecDepth 100000 in
set_option maxHeartbeats 4000000 in
theorem volumes_any (w : World) (F : Nat → Prop) (t : Nat) (L : List Vl) (hT : TabI w F t L) (hok : OkL L) (hL : L.length ≤ 4096) :
    Calls Try.prog 12 #[ptrV t] w fun e w' => ∃ v xs, e = .returned v ∧ w'.ownsRow w.heap.size 37 6 v L.length xs ∧ VsR w' w.heap.size 0 xs L ∧ Below w.heap.size w w' := by
  obtain ⟨⟨ra, rc, ps, k1, k2, k3, k4, k5, k6⟩, k7⟩ := hT
  obtain ⟨N, hN⟩ : ∃ N, N = L.length := ⟨_, rfl⟩
  have c0 := k1.cell 0
  unfold tblC at c0
  simp only [List.getElem?_toArray, List.getElem?_cons_zero] at c0
  obtain ⟨a', c', hv', hrow⟩ := Rd.ofOwn k2
  cases hv'
  have hps : ∀ i V, L[i]? = some V → ∃ p, (∃ b o, ra = some ⟨b, o, none⟩ ∧ w.cell? ⟨b, o + i, none⟩ = some (ptrV p)) ∧ VlR w F p i V := by
    intro i V hV
    have hi := (List.getElem?_eq_some_iff.1 hV).1
    have hpi : ps[i]? = some ps[i] := List.getElem?_eq_getElem (by omega)
    obtain ⟨b, o, e1, e2⟩ := hrow.cs i (ptrV ps[i]) (by simp [hpi])
    exact ⟨ps[i], ⟨b, o, e1, e2⟩, (k6 i _ V hpi hV).2⟩
  have htl : t < w.heap.size := k1.lt
  have HPS := Lib.hid hps
  rw [← hN] at c0 hL ⊢
  have HN := Lib.hid hN
  clear hrow hps k1 k2 k3 k4 k5 k6 k7 hN
  unfold ptrV
  go_enter Try.func12, Try.ntmps12
  go_wp2
  go_loopw [3, 13] (fun s3 s13 wr => ∃ (k : Nat) (xs : List Value) (sa : Option Addr) (sc : Nat), k ≤ N ∧ s13 = .int .i64 k ∧ s3 = .slice sa k sc ∧ wr.ownsRow w.heap.size 37 6 (.slice sa k sc) k xs ∧ Hid (VsR wr w.heap.size 0 xs (L.take k)) ∧ Below w.heap.size w wr) (fun _ s13 _ => N - (intOf s13).toNat)
  case atStart => exact ⟨0, [], none, 0, by omega, rfl, rfl, World.ownsRow_nil _ _ _ _, rfl, Below.refl _ _⟩
  case round =>
    obtain ⟨k, xs, sa, sc, hk, rfl, rfl, ho, hR, hb⟩ := hrel
    by_cases hlt : k < N
    · have hkl : k < L.length := by have := HN.out; omega
      obtain ⟨V, hV⟩ : ∃ V, L[k]? = some V := ⟨_, List.getElem?_eq_getElem hkl⟩
      obtain ⟨p, ⟨b, o, rfl, hc⟩, an, cn, hB, hTr, _⟩ := HPS.out k V hV
      have hki : (k : Int) < (N : Int) := by omega
      have hcr : wr.cell? ⟨b, o + k, none⟩ = some (.pointer (some ⟨p, 0, none⟩)) := by
        have hbl : b < w.heap.size := by
          unfold World.cell? at hc
          by_cases hb' : b < w.heap.size
          · exact hb'
          · rw [Array.getElem?_eq_none (by simpa using hb')] at hc
            simp at hc
        exact (hb.cell (p := ⟨b, o + k, none⟩) hbl).trans hc
      have hvl : V.nodes.length ≤ 64 := by have := hok V (List.mem_of_getElem? hV); unfold OkV at this; omega
      have hown := own_any wr p k V.nodes.length V an cn (hB.at hb hB.lt) rfl (hTr.1.kept hb) hvl
      have HOW := Lib.hid hown
      have HV := Lib.hid hV
      have HO := Lib.hid ho
      unfold ptrV at HOW
      clear hown hB hTr hc hV ho
      go_wp2_with fail
      refine HOW.out.mono ?_
      rintro e w2 ⟨a2, c2, rfl, ho2, hb2⟩
      have hO2 := own_below HO.out hb2
      have hwr : w.heap.size ≤ wr.heap.size := hb.size
      have hw2 := hb2.size
      have hvol : VsR w2 w.heap.size 0 xs (L.take k) := hR.out.map fun a c xs h => h.kept hb2
      obtain ⟨a2', c2', hv2, hT2⟩ := TRd.ofOwn ho2
      simp only [Value.slice.injEq, true_and] at hv2
      obtain ⟨rfl, rfl⟩ := hv2
      have hB2 : ∀ b o, a2 = some ⟨b, o, none⟩ → w.heap.size ≤ b := by
        intro b o e
        subst e
        rcases ho2.2 with ⟨e, _⟩ | ⟨g, cap, cur, hv, hb, _⟩
        · simp at e
        · simp only [Value.slice.injEq, Option.some.injEq, Addr.mk.injEq] at hv
          omega
      have HT2 := Lib.hid hT2
      have HVOL := Lib.hid hvol
      have HO2 := Lib.hid hO2
      have HB2 := Lib.hid hB2
      have HBB := Lib.hid (hb.trans (hb2.mono hwr))
      clear hT2 hvol hO2 hB2 ho2 hb2
      go_wp2_with (with_reducible refine At.slot 21 ?_)
      have hbl := below_lit w2 (volC k V a2 V.nodes.length c2) 37
      refine At.out (wpList_appS rfl (.tmp 17) (.tmp 20) 34 rfl elemV rfl (by decide) w.heap.size (.slice sa k sc) k xs rfl (HO2.out.alloc _) ⟨w2.heap.size, 0, none⟩ 1 1 (volC k V a2 V.nodes.length c2).toList rfl rfl (cells6 w2 (volC k V a2 V.nodes.length c2).toList _) (by simp [Value.oneCell']) (by unfold maxLen; omega) (by omega) (by simp; omega) ?_)
      intro a4 c4 w4 ho4 hb4 hg4
      have hvt := fun (a : Option Addr) (c : Nat) (ys : List Value) (h : TRd w2 3 a c ys) => TRd.off (F := fun q => (Value.slice sa k sc).ownBlock = some q) (h.kept hbl) (Off.ofGrown hg4 fun _ h => h) (by
        intro q cs fr hq hh
        obtain ⟨cs', fr', hh'⟩ := own_ty (HO2.out.alloc (.cells (volC k V a2 V.nodes.length c2) 37)) q hq
        rw [hh'] at hh
        cases hh)
      have hsn := (HVOL.out.map hvt).snoc (hvt _ _ _ HT2.out) HB2.out
      have htk : L.take (k + 1) = L.take k ++ [V] := by rw [List.take_succ_eq_append_getElem hkl, ← Option.some.inj (HV.out.symm.trans (List.getElem?_eq_getElem hkl))]
      have hlen : 0 + (L.take k).length = k := by rw [List.length_take]; omega
      rw [hlen, ← htk] at hsn
      have hbf := HBB.out.trans ((hbl.mono (by omega)).trans hb4)
      have HSN := Lib.hid hsn
      have HO4 := Lib.hid ho4
      have HBF := Lib.hid hbf
      clear hsn ho4 hbf hb4 hg4 hvt htk hlen hbl
      go_wp2
      go_roundw
      case rel => exact ⟨k + 1, _, _, _, by omega, by go_num, rfl, HO4.out, HSN, HBF.out⟩
      case measure => simp [intOf]; omega
    · have hkN : k = N := by omega
      have hLk : L.take k = L := List.take_of_length_le (by have := HN.out; omega)
      rw [hLk] at hR
      subst hkN
      have HO := Lib.hid ho
      have HB := Lib.hid hb
      clear ho hb hLk
      go_wp2
      go_ret
      exact ⟨_, _, rfl, HO.out, hR.out, HB.out⟩
end Go.Proofs.Yteenbobblbehoaa

namespace Go.Proofs.Yteenbobblbehoaa
open Go Go.RowKit

/-- What Volume gives. -/
def VolP (w : World) (id : Int) (o : Option Vl) (e : Ending) (w' : World) : Prop := Below w.heap.size w w' ∧
  match o with
  | none => e = .returned (.tuple #[.agg #[.int .i64 0, .int .i64 0, .int .i64 0, .slice none 0 0, .bool false, .int .i64 0], .bool false])
  | some V => ∃ a c, e = .returned (.tuple #[.agg (volC (id - 1).toNat V a V.nodes.length c), .bool true]) ∧ w'.ownsRow w.heap.size 3 1 (.slice a V.nodes.length c) V.nodes.length (BI V.nodes)

set_option maxRecDepth 100000 in
set_option maxHeartbeats 2000000 in
theorem volume_any (w : World) (F : Nat → Prop) (t : Nat) (L : List Vl) (hT : TabI w F t L) (hok : OkL L) (id : Int) :
    Calls Try.prog 13 #[ptrV t, .int .i64 id] w (VolP w id (ofL L id)) := by
  obtain ⟨W0, hW0⟩ : ∃ W0, W0 = w.alloc (.cells #[.int .i64 0, .int .i64 0, .int .i64 0, .slice none 0 0, .bool false, .int .i64 0] 37) := ⟨_, rfl⟩
  obtain ⟨K, hK⟩ : ∃ K, K = w.heap.size := ⟨_, rfl⟩
  have hb0 : Below w.heap.size w W0 := by rw [hW0]; exact (Below.refl _ _).alloc (Nat.le_refl _) _
  have hZ : BlkV W0 K 37 #[.int .i64 0, .int .i64 0, .int .i64 0, .slice none 0 0, .bool false, .int .i64 0] := by rw [hW0, hK]; exact BlkV.new w _ _
  have hT0 := hT.kept hb0
  have HW0 := Lib.hid hW0
  have HK := Lib.hid hK
  have HB := Lib.hid hb0
  have hz0 : W0.heap.size = K + 1 := by rw [hW0, hK]; simp
  clear hW0 hK
  cases hof : ofL L id with
  | none =>
    have HO := Lib.hid (of_none W0 F t L hT0 id hof)
    unfold ptrV at HO ⊢
    clear hof hT hT0 hok hb0
    go_enter Try.func13, Try.ntmps13
    go_wp2_with fail
    rw [← HW0.out, ← HK.out]
    refine HO.out.mono ?_
    rintro e w1 ⟨rfl, hw1⟩
    have hw1 := hw1.symm
    subst hw1
    go_wp2_with (with_reducible refine At.store 37 (.tmp 4) (.tmp 12) ?_)
    refine At.out (wpList_storeV rfl _ rfl (.tmp 4) (.tmp 12) rfl strV K _ #[.int .i64 0, .int .i64 0, .int .i64 0, .slice none 0 0, .bool false, .int .i64 0] rfl rfl hZ rfl rfl (by simp [Value.oneCell']) ?_)
    intro w6 hB6 hbel6 _
    have hb6 := hbel6 w.heap.size w HB.out (by have := HK.out; omega)
    go_wp2_with fail
    exact bodyPost_ret (v := .tuple #[.agg #[.int .i64 0, .int .i64 0, .int .i64 0, .slice none 0 0, .bool false, .int .i64 0], .bool false]) (results_cell2 rfl strV rfl rfl hB6 rfl) rfl ⟨hb6, rfl⟩
  | some V =>
    obtain ⟨i, rfl, hV, hi⟩ := ofL_some hof
    obtain ⟨ra, rc, p, r1, ⟨rb, ro, rfl, r2⟩, r3, r4, r5, r6⟩ := hT0.row hV
    have hlt : i < L.length := (List.getElem?_eq_some_iff.1 hV).1
    obtain ⟨_, _, _, hLm⟩ := hT.head
    have HO := Lib.hid (of_some W0 t rb ro L.length rc p i r1 r2 hlt hLm)
    obtain ⟨an, cn, v1, v2, v3⟩ := r5
    have hvl : V.nodes.length ≤ 64 := by have := hok V (List.mem_of_getElem? hV); unfold OkV at this; omega
    have HOW := Lib.hid (own_any W0 p i V.nodes.length V an cn v1 rfl v2.1 hvl)
    unfold ptrV at HO HOW ⊢
    have HZ := Lib.hid hZ
    have HI := Lib.hid hi
    clear hof hT hT0 hok hb0 r1 r2 r3 r4 r6 v1 v2 v3 hV hvl hLm hlt hZ hi
    go_enter Try.func13, Try.ntmps13
    go_wp2_with fail
    rw [← HW0.out, ← HK.out]
    refine HO.out.mono ?_
    rintro e w1 ⟨rfl, hw1⟩
    have hw1 := hw1.symm
    subst hw1
    go_wp2_with fail
    refine HOW.out.mono ?_
    rintro e w2 ⟨a2, c2, rfl, ho2, hb2⟩
    have hZ2 := HZ.out.below hb2
    go_wp2_with (with_reducible refine At.store 37 (.tmp 4) (.tmp 14) ?_)
    refine At.out (wpList_storeV rfl _ rfl (.tmp 4) (.tmp 14) rfl strV K _ (volC i V a2 V.nodes.length c2) rfl rfl hZ2 rfl rfl (by simp [Value.oneCell']) ?_)
    intro w6 hB6 hbel6 hoth6
    have hb6 := hbel6 w.heap.size w (HB.out.trans (hb2.mono (by have := HB.out.size; omega))) (by have := HK.out; omega)
    have ho6 := own_same ho2 (fun k hk => hoth6 k (by have := HB.out.size; omega))
    go_wp2_with fail
    exact bodyPost_ret (v := .tuple #[.agg (volC i V a2 V.nodes.length c2), .bool true]) (results_cell2 rfl strV rfl rfl hB6 rfl) rfl ⟨hb6, a2, c2, by rw [HI.out], own_base ho6 (by have := HB.out.size; omega)⟩
end Go.Proofs.Yteenbobblbehoaa
