/- slices.DeleteFunc with Drop's own test: the contract. Conditions: its own premises. -/
import Derived.Test.YtoagneajlfglcaaNetIdx
namespace Go.Proofs.Ytoagneajlfglcaa
open Go Go.RowKit

/-- Cells of a block, written one behind the other. -/
def putCs : Array Value → Nat → List Value → Array Value
  | cur, _, [] => cur
  | cur, i, v :: r => putCs (cur.setIfInBounds i v) (i + 1) r
theorem putCs_list : ∀ (vs : List Value) (cur : Array Value) (off : Nat), off + vs.length ≤ cur.size → (putCs cur off vs).toList = cur.toList.take off ++ vs ++ cur.toList.drop (off + vs.length)
  | [], cur, off, _ => by simp [putCs]
  | v :: r, cur, off, h => by
    simp only [List.length_cons] at h
    have hi : off < cur.size := by omega
    rw [putCs, putCs_list r _ _ (by simp; omega)]
    have hl : cur.toList.length = cur.size := Array.length_toList
    have hi' : off < cur.toList.length := by omega
    rw [Array.toList_setIfInBounds, List.take_set, List.drop_set_of_lt (by omega)]
    rw [List.take_succ_eq_append_getElem hi', List.set_append_right _ _ (by simp; omega)]
    simp [Nat.min_eq_left (Nat.le_of_lt hi), Nat.add_comm, Nat.add_left_comm]
theorem run_storeCells_off {P : Program} (g off : Nat) (t : TypeId) : ∀ (vs : List Value) (i : Nat) (cur : Array Value) (w : World), BlkV w g t cur → off + i + vs.length ≤ cur.size → (∀ v ∈ vs, v.oneCell' = true) →
    ∃ w', (storeCells ⟨g, off, none⟩ vs i).run P w = .ok () w' ∧ BlkV w' g t (putCs cur (off + i) vs) ∧ Off (· = g) w w'
  | [], i, cur, w, hg, _, _ => ⟨w, rfl, hg, Off.refl _ _⟩
  | v :: rest, i, cur, w, hg, hl, h1 => by
    simp only [List.length_cons] at hl
    have hi : off + i < cur.size := by omega
    have hadd : (⟨g, off, none⟩ : Addr).add i = ⟨g, off + i, none⟩ := Addr.add_lit ..
    have hcell : w.cell? ⟨g, off + i, none⟩ = some cur[off + i] := by rw [hg.cell]; simp [hi]
    have hfro : w.frozen? ⟨g, off + i, none⟩ = false := hg.frozen _
    have hst : (store ((⟨g, off, none⟩ : Addr).add i) v).run P w = .ok () (w.setCell ⟨g, off + i, none⟩ v) := by
      rw [hadd, run_store P w _ v _ (h1 v (by simp)), hcell]
      simp [hfro]
    obtain ⟨w', e1, e2, e3⟩ := run_storeCells_off (P := P) g off t rest (i + 1) (cur.setIfInBounds (off + i) v) (w.setCell ⟨g, off + i, none⟩ v) (hg.set _ _) (by simp; omega) (fun x hx => h1 x (by simp [hx]))
    refine ⟨w', ?_, ?_, (Off.setCell (F := (· = g)) (p := ⟨g, off + i, none⟩) rfl v).then e3⟩
    · simp only [storeCells, Sem.run_bind, hst, Result.andThen_ok]
      exact e1
    · exact e2
/-- Some cells of a block stored. -/
theorem wpList_storeOff {P : Program} {w : World} {ops : Array Oper} {rest : List Oper} {o : Oper} {a : Act} {Q : Exit → Act → World → Prop} {t : TypeId} (hgd : o.guard = none) (dst : Option Tmp) (hdst : o.dst = dst) (ty : TypeId) (x y : Operand) (ho : o.op = .store ty x y)
    (g off : Nat) (c0 cs : Array Value) (hx : a.eval x = .pointer (some ⟨g, off, none⟩)) (hy : a.eval y = .agg cs) (hi : (P.info? ty).map (·.size) = some cs.size) (hg : BlkV w g t c0) (hl : off + cs.size ≤ c0.size) (h1 : cs.all (·.oneCell') = true)
    (h : ∀ w', BlkV w' g t (putCs c0 off cs.toList) → Off (· = g) w w' → wpList P ops Q rest (a.put dst undef) w') : wpList P ops Q (o :: rest) a w := by
  subst hdst
  obtain ⟨w', e1, e2, e3⟩ := run_storeCells_off (P := P) g off t cs.toList 0 c0 w hg (by simpa using hl) (fun v hv => (Array.all_eq_true_iff_forall_mem.1 h1) v (by simpa using hv))
  refine wpList_plain hgd fun K hK => ?_
  have hrun : (storeVar ty ⟨g, off, none⟩ (.agg cs)).run P w = .ok () w' := by
    cases hq : P.info? ty with
    | none => simp [hq] at hi
    | some i =>
      have hs : cs.size = i.size := by simp [hq] at hi; omega
      simp [storeVar, sizeOf, typeInfo, hq, Value.cells, hs, e1]
  unfold Oper.wp execOp
  simp only [ho, hx, hy, Instr.storeAt, Instr.sureAddr, Sem.run_bind, Sem.run_pure, Result.andThen_ok, hrun]
  exact hK _ _ (h w' (by simpa using e2) e3)

/-- The row of a block: the messages that stay, of the first j; then what is left over; then what is still to be looked at. -/
structure Half (cs0 : List Value) (cur : Array Value) (i j : Nat) (zs : List Value) : Prop where
  ex : ∃ mid, cur.toList = zs ++ mid ++ cs0.drop (j * 5) ∧ mid.length = (j - i) * 5
  len : zs.length = i * 5
  le : i ≤ j
theorem Half.skip {cs0 : List Value} {cur : Array Value} {i j : Nat} {zs : List Value} (h : Half cs0 cur i j zs) (hj : (j + 1) * 5 ≤ cs0.length) : Half cs0 cur i (j + 1) zs := by
  obtain ⟨⟨mid, h1, h2⟩, h3, h4⟩ := h
  refine ⟨⟨mid ++ (cs0.drop (j * 5)).take 5, ?_, ?_⟩, h3, by omega⟩
  · have e3 : cs0.drop (j * 5) = (cs0.drop (j * 5)).take 5 ++ cs0.drop ((j + 1) * 5) := by
      rw [show (j + 1) * 5 = j * 5 + 5 by omega, ← List.drop_drop, List.take_append_drop]
    rw [h1]
    simp only [List.append_assoc]
    rw [← e3]
  · rw [List.length_append, h2, List.length_take, List.length_drop]; omega
theorem Half.take {cs0 : List Value} {cur : Array Value} {i j : Nat} {zs vs : List Value} (h : Half cs0 cur i j zs) (hij : i < j) (hj : (j + 1) * 5 ≤ cs0.length) (hv : vs = (cs0.drop (j * 5)).take 5) : Half cs0 (putCs cur (i * 5) vs) (i + 1) (j + 1) (zs ++ vs) := by
  obtain ⟨⟨mid, h1, h2⟩, h3, h4⟩ := h
  have hvl : vs.length = 5 := by rw [hv, List.length_take, List.length_drop]; omega
  have hsz : cur.size = i * 5 + (j - i) * 5 + (cs0.length - j * 5) := by rw [← Array.length_toList, h1]; simp [h2, h3, List.length_drop]; omega
  refine ⟨⟨mid.drop 5 ++ vs, ?_, ?_⟩, by rw [List.length_append, h3, hvl]; omega, by omega⟩
  · rw [putCs_list _ _ _ (by omega), h1, hvl]
    have e1 : (zs ++ mid ++ cs0.drop (j * 5)).take (i * 5) = zs := by rw [List.append_assoc, List.take_append_of_le_length (by omega), List.take_of_length_le (by omega)]
    have e2 : (zs ++ mid ++ cs0.drop (j * 5)).drop (i * 5 + 5) = mid.drop 5 ++ cs0.drop (j * 5) := by
      rw [List.append_assoc, ← h3, List.drop_append]
      rw [List.drop_of_length_le (by omega), List.nil_append, show zs.length + 5 - zs.length = 5 by omega, List.drop_append_of_le_length (by omega)]
    rw [e1, e2]
    have e3 : cs0.drop (j * 5) = vs ++ cs0.drop ((j + 1) * 5) := by
      rw [hv, show (j + 1) * 5 = j * 5 + 5 by omega, ← List.drop_drop, List.take_append_drop]
    rw [e3]
    simp only [List.append_assoc]
  · rw [List.length_append, List.length_drop, h2, hvl]; omega

theorem Half.at {cs0 : List Value} {cur : Array Value} {i j : Nat} {zs : List Value} (h : Half cs0 cur i j zs) (q : Nat) : cur[j * 5 + q]? = cs0[j * 5 + q]? := by
  obtain ⟨⟨mid, h1, h2⟩, h3, h4⟩ := h
  rw [← Array.getElem?_toList, h1, List.getElem?_append_right (by rw [List.length_append]; omega), List.getElem?_drop]
  congr 1
  rw [List.length_append]; omega
/-- What DeleteFunc does to a row. -/
def DelP (w : World) (G cap : Nat) (L : List Ms) (xs : List Value) (z : Int) (e : Ending) (w' : World) : Prop :=
  ∃ zs, e = .returned (.slice (some ⟨G, 0, none⟩) (dropL L z).length cap) ∧ w'.ownsRow 0 31 5 (.slice (some ⟨G, 0, none⟩) (dropL L z).length cap) (dropL L z).length zs ∧ RowR w zs (dropL L z) ∧ (∀ u ∈ zs, u ∈ xs) ∧ Off (· = G) w w'
theorem dropL_all {z : Int} {L : List Ms} (h : firstGone z L = L.length) : dropL L z = L := by
  unfold dropL
  rw [List.filter_eq_self]
  intro M hM
  obtain ⟨k, hk, rfl⟩ := List.getElem_of_mem hM
  exact firstGone_lt (by omega) (List.getElem?_eq_getElem hk)
theorem dropL_first {z : Int} {L : List Ms} (h : firstGone z L < L.length) : dropL (L.take (firstGone z L + 1)) z = L.take (firstGone z L) := by
  rw [dropL_take L z _ h, firstGone_at (List.getElem?_eq_getElem h)]
  simp only [Bool.false_eq_true, if_false, List.append_nil]
  unfold dropL
  rw [List.filter_eq_self]
  intro M hM
  obtain ⟨k, hk, rfl⟩ := List.getElem_of_mem hM
  rw [List.length_take] at hk
  rw [List.getElem_take]
  exact firstGone_lt (by omega) (List.getElem?_eq_getElem (by omega))
theorem RowR.take {w : World} : ∀ {L : List Ms} {xs : List Value} (i : Nat), RowR w xs L → RowR w (xs.take (i * 5)) (L.take i)
  | _, xs, 0, _ => by simp [RowR]
  | [], xs, i + 1, h => by rw [show xs = [] from h]; simp [RowR]
  | M :: L, xs, i + 1, h => by
    obtain ⟨x, r, rfl, h1, h2⟩ := h
    have h3 := h1.len
    refine ⟨x, r.take (i * 5), ?_, h1, RowR.take i h2⟩
    rw [List.take_append, List.take_of_length_le (by omega), show (i + 1) * 5 - x.length = i * 5 by omega]
theorem infoM : (Try.prog.info? 31).map (·.size) = some 5 := by
  obtain ⟨i, h1, h2⟩ := strM.info
  rw [h1]; simp [h2]

set_option maxRecDepth 100000 in
set_option maxHeartbeats 4000000 in
theorem deleteFn_f (w : World) (G cap n : Nat) (L : List Ms) (xs : List Value) (hn : n = L.length) (hL : n ≤ 4096) (h : w.ownsRow 0 31 5 (.slice (some ⟨G, 0, none⟩) n cap) n xs) (h3 : RowR w xs L) (b : Nat) (z : Int) (hbz : w.cell? ⟨b, 0, none⟩ = some (.int .i64 z)) (hb : b < w.heap.size) (hbG : b ≠ G) :
    Calls Try.prog 26 #[.slice (some ⟨G, 0, none⟩) n cap, delV b] w (DelP w G cap L xs z) := by
  have hidx := indexFn_any w L _ n cap xs hn hL h h3 b z hbz hb
  have hone := h3.one
  have hall := fun h => dropL_all (z := z) (L := L) h
  have hfst := fun h => dropL_first (z := z) (L := L) h
  obtain ⟨q, hq⟩ : ∃ q, q = firstGone z L := ⟨_, rfl⟩
  rw [← hq] at hidx hall hfst
  have hql : q ≤ n := by rw [hq, hn]; exact firstGone_le z L
  obtain ⟨cur, hG, hnc, hcm, hcs, hxs⟩ : ∃ cur : Array Value, w.heap[G]? = some (.cells cur 31 (0, 0)) ∧ n ≤ cap ∧ cap ≤ maxLen ∧ cur.size = cap * 5 ∧ cur.toList.take (n * 5) = xs := by
    rcases h.2 with ⟨hv, _⟩ | ⟨g, cap', cur, hv, hb, hg, a1, a2, a3, a4⟩
    · cases hv
    · cases hv
      exact ⟨cur, hg, a1, a2, a3, a4⟩
  have hxl : xs.length = n * 5 := by have := h.1; omega
  obtain ⟨r, hr⟩ : ∃ r : Int, r = (if q < n then (q : Int) else -1) := ⟨_, rfl⟩
  rw [← hr] at hidx
  have HIDX := Lib.hid hidx
  have HG := Lib.hid hG
  have HXS := Lib.hid hxs
  have HCS := Lib.hid hcs
  have HCM := Lib.hid hcm
  have HN := Lib.hid hn
  have HR3 := Lib.hid h3
  have HOWN := Lib.hid h
  have HALL := Lib.hid hall
  have HFST := Lib.hid hfst
  have HQ := Lib.hid hq
  have HXL := Lib.hid hxl
  have HONE := Lib.hid hone
  have HBZ := Lib.hid hbz
  unfold delV at HIDX ⊢
  by_cases hqn : q < n
  · rw [if_pos hqn] at hr
    subst hr
    have hne : ((q : Int) == -1) = false := by rw [beq_eq_false_iff_ne]; omega
    clear hidx hG hxs hcs hcm hn h3 h hall hfst hq hxl hone hbz
    go_enter Try.func26, Try.ntmps26
    go_wp2_with fail
    refine HIDX.out.mono ?_
    rintro e w1 ⟨rfl, hb1⟩
    have HB1 := Lib.hid hb1
    clear hb1
    go_wp2
    go_loopw [5, 6] (fun s5 s6 wr => ∃ (i j : Nat) (C : Array Value) (zs : List Value), q + 1 ≤ j ∧ j ≤ n ∧ i < j ∧ s5 = .int .i64 i ∧ s6 = .int .i64 j ∧ Hid (BlkV wr G 31 C) ∧ Hid (Half cur.toList C i j zs) ∧ Hid (RowR w zs (dropL (L.take j) z)) ∧ Hid (∀ u ∈ zs, u ∈ xs) ∧ Hid (Off (· = G) w wr)) (fun _ s6 _ => n - (intOf s6).toNat)
    case atStart =>
      refine ⟨q, q + 1, cur, xs.take (q * 5), by omega, by omega, by omega, rfl, by go_num, ?_, ?_, ?_, fun u hu => List.mem_of_mem_take hu, Off.ofBelow HB1.out⟩
      · exact BlkV.below (w := w) HG.out HB1.out
      · have hcl : cur.toList.length = cap * 5 := by rw [Array.length_toList, HCS.out]
        refine ⟨⟨(cur.toList.drop (q * 5)).take 5, ?_, ?_⟩, ?_, by omega⟩
        · rw [← HXS.out, List.take_take, Nat.min_eq_left (by omega), List.append_assoc]
          rw [show (q + 1) * 5 = q * 5 + 5 by omega, ← List.drop_drop, List.take_append_drop, List.take_append_drop]
        · rw [List.length_take, List.length_drop, hcl]; omega
        · rw [List.length_take, HXL.out]; omega
      · have hqq : firstGone z L < L.length := by rw [← HQ.out, ← HN.out]; exact hqn
        show RowR w (xs.take (q * 5)) (dropL (L.take (q + 1)) z)
        rw [HFST.out (by rw [← HN.out]; exact hqn)]
        exact HR3.out.take q
    case round =>
      obtain ⟨i, j, C, zs, hqj, hjn, hij, rfl, rfl, hC, hH, hR, hM, hO⟩ := hrel
      have hcl : cur.toList.length = cap * 5 := by rw [Array.length_toList, HCS.out]
      by_cases hlt : j < n
      · have hji : (j : Int) < (n : Int) := by omega
        have hkl : j < L.length := by have := HN.out; omega
        obtain ⟨an, cn, ad, cd, hx, t1, t2⟩ := HR3.out.get j hkl
        obtain ⟨M, hMe⟩ : ∃ M, M = L[j] := ⟨_, rfl⟩
        rw [← hMe] at hx t1 t2
        have hvs : (cur.toList.drop (j * 5)).take 5 = [.int .i64 M.fr, .int .i64 M.to, .int .i64 M.kd, .slice an M.nums.length cn, .slice ad M.data.length cd] := by
          rw [← hx, ← HXS.out, List.drop_take, List.take_take, Nat.min_eq_left (by omega)]
        have hcell : ∀ p, p < 5 → wr.cell? ⟨G, j * 5 + p, none⟩ = [Value.int .i64 M.fr, .int .i64 M.to, .int .i64 M.kd, .slice an M.nums.length cn, .slice ad M.data.length cd][p]? := fun p hp => by
          rw [hC.out.cell, hH.out.at, ← hvs, List.getElem?_take, if_pos hp, List.getElem?_drop]
        have hdt := dropL_take L z j hkl
        rw [← hMe] at hdt
        have hxm : ∀ u ∈ [Value.int .i64 M.fr, .int .i64 M.to, .int .i64 M.kd, .slice an M.nums.length cn, .slice ad M.data.length cd], u ∈ xs := fun u hu => by
          rw [← hx] at hu
          exact List.mem_of_mem_drop (List.mem_of_mem_take hu)
        have hmr : MsR w [.int .i64 M.fr, .int .i64 M.to, .int .i64 M.kd, .slice an M.nums.length cn, .slice ad M.data.length cd] M := ⟨an, cn, ad, cd, rfl, t1, t2⟩
        obtain ⟨nn, hnn⟩ : ∃ nn, nn = M.nums.length := ⟨_, rfl⟩
        obtain ⟨nd, hnd⟩ : ∃ nd, nd = M.data.length := ⟨_, rfl⟩
        rw [← hnn, ← hnd] at hmr hxm hvs hcell
        have q0 := hcell 0 (by omega)
        have q1 := hcell 1 (by omega)
        have q2 := hcell 2 (by omega)
        have q3 := hcell 3 (by omega)
        have q4 := hcell 4 (by omega)
        simp only [List.getElem?_cons_succ, List.getElem?_cons_zero, Nat.add_zero] at q0 q1 q2 q3 q4
        have hbw : b < wr.heap.size := Nat.lt_of_lt_of_le hb hO.out.size
        obtain ⟨K, hK⟩ : ∃ K, K = wr.heap.size := ⟨_, rfl⟩
        obtain ⟨W1, hW1⟩ : ∃ W1, W1 = wr.alloc (.cells #[.int .i64 M.fr, .int .i64 M.to, .int .i64 M.kd, .slice an nn cn, .slice ad nd cd] 31) := ⟨_, rfl⟩
        have hbA : Below wr.heap.size wr W1 := by rw [hW1]; exact (Below.refl _ _).alloc (Nat.le_refl _) _
        have hT1 : BlkV W1 K 31 #[.int .i64 M.fr, .int .i64 M.to, .int .i64 M.kd, .slice an nn cn, .slice ad nd cd] := by rw [hW1, hK]; exact BlkV.new wr _ _
        have hz1 : W1.cell? ⟨b, 0, none⟩ = some (.int .i64 z) := by
          rw [hbA.cell (p := ⟨b, 0, none⟩) hbw, World.cell?_of_block (hO.out.block b hb hbG)]
          exact HBZ.out
        have hdel := delFn_any W1 b z M.fr M.to (.int .i64 M.kd) (.slice an nn cn) (.slice ad nd cd) hz1 (Nat.lt_of_lt_of_le hbw hbA.size)
        have hKG : K ≠ G := by have := hC.out.lt; omega
        have HDEL := Lib.hid hdel
        have HW1 := Lib.hid hW1
        have HK := Lib.hid hK
        have HBA := Lib.hid hbA
        have HT1 := Lib.hid hT1
        have HVS := Lib.hid hvs
        have HXM := Lib.hid hxm
        have HMR := Lib.hid hmr
        have HDT := Lib.hid hdt
        have HCL := Lib.hid hcl
        have HKG := Lib.hid hKG
        clear hdel hW1 hK hbA hT1 hvs hxm hmr hdt hcl hKG hz1 hcell hx t1 t2 hMe hnn hnd
        go_wp2_with fail
        rw [← HW1.out, ← HK.out]
        refine HDEL.out.mono ?_
        rintro e w2 ⟨rfl, hb2⟩
        obtain ⟨s, hs⟩ : ∃ s, s = ((M.fr != z) && (M.to != z)) := ⟨_, rfl⟩
        rw [← hs]
        have hst : stays z M = s := by rw [hs]; rfl
        have hO2 : Off (· = G) w w2 := (hO.out.below HBA.out).below hb2
        have hC2 := (hC.out.below HBA.out).below hb2
        have hT2 := HT1.out.below hb2
        have HST := Lib.hid hst
        have HO2 := Lib.hid hO2
        have HC2 := Lib.hid hC2
        clear hs hst hO2 hC2 hb2 q0 q1 q2 q3 q4
        cases s with
        | false =>
          have hno : dropL (L.take (j + 1)) z = dropL (L.take j) z := by rw [HDT.out, HST.out]; simp
          have HNO := Lib.hid hno
          clear hno
          go_wp2
          go_roundw
          case rel => exact ⟨i, j + 1, C, zs, by omega, by omega, by omega, rfl, by go_num, HC2, hH.out.skip (by rw [HCL.out]; omega), HNO.out.symm ▸ hR.out, hM, HO2⟩
          case measure => simp [intOf]; omega
        | true =>
          have hyes : dropL (L.take (j + 1)) z = dropL (L.take j) z ++ [M] := by rw [HDT.out, HST.out]; simp
          have hH2 := hH.out.take hij (by rw [HCL.out]; omega) HVS.out.symm
          have hCs : C.size = cap * 5 := by
            obtain ⟨⟨mid, e1, e2⟩, e3, e4⟩ := hH.out
            rw [← Array.length_toList, e1, List.length_append, List.length_append, List.length_drop, HCL.out, e2, e3]; omega
          have hii : (i : Int) < (n : Int) := by omega
          have HYES := Lib.hid hyes
          have HH2 := Lib.hid hH2
          have HCS2 := Lib.hid hCs
          clear hyes hH2 hCs
          go_wp2_with (with_reducible refine At.slot 32 ?_)
          refine At.out (wpList_loadV rfl _ rfl (.tmp 7) rfl strM K _ rfl hT2 rfl ?_)
          go_wp2_with (with_reducible refine At.store 31 (.tmp 33) (.tmp 32) ?_)
          refine At.out (wpList_storeOff rfl _ rfl _ (.tmp 33) (.tmp 32) rfl G (i * 5) C #[.int .i64 M.fr, .int .i64 M.to, .int .i64 M.kd, .slice an nn cn, .slice ad nd cd] rfl rfl infoM HC2.out (by rw [HCS2.out]; simp; omega) (by simp [Value.oneCell']) ?_)
          intro w5 hC5 hO5
          have HC5 := Lib.hid hC5
          have HO5 := Lib.hid (HO2.out.then hO5)
          have hM5 : ∀ u ∈ zs ++ [.int .i64 M.fr, .int .i64 M.to, .int .i64 M.kd, .slice an nn cn, .slice ad nd cd], u ∈ xs := fun u hu => (List.mem_append.1 hu).elim (hM.out u) (HXM.out u)
          have HM5 := Lib.hid hM5
          clear hC5 hO5 hM5 hT2
          go_wp2
          go_roundw
          case rel => exact ⟨i + 1, j + 1, _, zs ++ [.int .i64 M.fr, .int .i64 M.to, .int .i64 M.kd, .slice an nn cn, .slice ad nd cd], by omega, by omega, by omega, by go_num, by go_num, HC5, HH2, HYES.out.symm ▸ RowR.snoc HMR.out hR.out, HM5, HO5⟩
          case measure => simp [intOf]; omega
      · obtain rfl : j = n := by omega
        have hji : ¬ (j : Int) < (j : Int) := by omega
        have hkn : L.take j = L := List.take_of_length_le (by have := HN.out; omega)
        have hR' := hR.out
        rw [hkn] at hR'
        have hzl := hH.out.len
        have hil : (dropL L z).length = i := by have := hR'.len; omega
        have hCs : C.size = cap * 5 := by
          obtain ⟨⟨mid, e1, e2⟩, e3, e4⟩ := hH.out
          rw [← Array.length_toList, e1, List.length_append, List.length_append, List.length_drop, hcl, e2, e3]; omega
        have hCt : C.toList.take (i * 5) = zs := by
          obtain ⟨⟨mid, e1, e2⟩, e3, e4⟩ := hH.out
          rw [e1, List.append_assoc, List.take_append_of_le_length (by omega), List.take_of_length_le (by omega)]
        have hclr := fun ty => run_clear_msgs wr ty G (i * 5) (j - i) (cap - i) (by omega) C _ hC.out (by rw [hCs]; omega)
        obtain ⟨cur2, hc2⟩ : ∃ cur2, cur2 = (C.toList.take (i * 5) ++ zerosM (j - i) ++ C.toList.drop (i * 5 + (j - i) * 5)).toArray := ⟨_, rfl⟩
        obtain ⟨W2, hW2⟩ : ∃ W2, W2 = wr.setRow G cur2 := ⟨_, rfl⟩
        rw [← hc2, ← hW2] at hclr
        have hG2 : W2.heap[G]? = some (.cells cur2 31 (0, 0)) := by rw [hW2]; exact setRow_heap wr G C _ _ _ hC.out
        have hs2 : cur2.size = cap * 5 := by
          rw [hc2, List.size_toArray, List.length_append, List.length_append, List.length_take, List.length_drop, Array.length_toList, hCs, zerosM_length]; omega
        have hO2 : Off (· = G) w W2 := by
          rw [hW2]
          exact hO.out.then (Off.ofGrown (grown_setRow _) fun k hk => (Option.some.inj hk).symm)
        have ht2 : cur2.toList.take (i * 5) = zs := by
          rw [hc2]
          show ((C.toList.take (i * 5) ++ zerosM (j - i)) ++ _).take _ = _
          rw [hCt, List.append_assoc, List.take_append_of_le_length (by omega), List.take_of_length_le (by omega)]
        have hfin : W2.ownsRow 0 31 5 (.slice (some ⟨G, 0, none⟩) i cap) i zs := ⟨by omega, .inr ⟨G, cap, cur2, rfl, Nat.zero_le _, hG2, by omega, HCM.out, hs2, ht2⟩⟩
        have HFIN := Lib.hid hfin
        have HO2 := Lib.hid hO2
        have HR2 := Lib.hid hR'
        have HIL := Lib.hid hil
        have j1 : i ≤ j := by omega
        have j2 : ¬ cap = i := by omega
        have j3 : (i : Int) ≤ (j : Int) := by omega
        have j4 : (j : Int) ≤ (cap : Int) := by omega
        have j5 : (i : Int) ≤ (cap : Int) := by omega
        have j6 : i ≤ cap := by omega
        clear hkn hR' hzl hil hCs hCt hc2 hW2 hG2 hs2 hO2 ht2 hfin hcl hC hH hR hO
        go_wp2
        go_ret
        exact ⟨zs, by rw [HIL.out]; rfl, HIL.out.symm ▸ HFIN.out, HR2.out, hM.out, HO2.out⟩
  · rw [if_neg hqn] at hr
    subst hr
    have hqe : q = n := by omega
    have hne : ((-1 : Int) == -1) = true := rfl
    have hdl := hall (by omega)
    have HDL := Lib.hid hdl
    clear hidx hG hxs hcs hcm hn h3 h hall hfst hq hxl hone hbz hdl
    go_enter Try.func26, Try.ntmps26
    go_wp2_with fail
    refine HIDX.out.mono ?_
    rintro e w1 ⟨rfl, hb1⟩
    have HB1 := Lib.hid hb1
    clear hb1
    go_wp2
    go_ret
    unfold DelP
    rw [HDL.out, ← HN.out]
    exact ⟨xs, rfl, own_below HOWN.out HB1.out, HR3.out, fun u hu => hu, Off.ofBelow HB1.out⟩
end Go.Proofs.Ytoagneajlfglcaa
