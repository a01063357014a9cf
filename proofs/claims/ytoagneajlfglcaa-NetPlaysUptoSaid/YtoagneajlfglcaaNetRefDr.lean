/- The document's Drop: the contract. Conditions: its own premises. -/
import Derived.Test.YtoagneajlfglcaaNetRefTk
namespace Go.Proofs.Ytoagneajlfglcaa
open Go Go.RowKit

/-- The messages that are neither from a node nor to it. -/
def stays (z : Int) (M : Ms) : Bool := (M.fr != z) && (M.to != z)
def dropL (L : List Ms) (z : Int) : List Ms := L.filter (stays z)
/-- Another row in the place of a Net's own. -/
theorem renew_end {T : TypeId} {w w4 : World} {F : Nat → Prop} {g : Nat} {L L' : List Ms} {v' : Value} {ys : List Value} (hT1 : 3 ≠ T) (hT2 : 5 ≠ T) (hT3 : 31 ≠ T) (h : NetF T w F g L) (hb : Below w.heap.size w w4)
    (ho : w4.ownsRow w.heap.size 31 5 v' L'.length ys) (hr : RowR w4 ys L') (hv : ∀ u ∈ ys, ValF F u) :
    NetF T (w4.setCell ⟨g, 0, none⟩ v') (grew F w (w4.setCell ⟨g, 0, none⟩ v')) g L' ∧ Off F w (w4.setCell ⟨g, 0, none⟩ v') := by
  obtain ⟨⟨v, xs, h1, h2, h3, h4, h5⟩, h6, h7⟩ := h
  have hs : ∀ q, q ≠ g → (w4.setCell ⟨g, 0, none⟩ v').heap[q]? = w4.heap[q]? := fun q hq => Below.heap_setCell w4 ⟨g, 0, none⟩ _ q hq
  have m1 := h1.below hb
  have ho4 : Off F w (w4.setCell ⟨g, 0, none⟩ v') := (Off.ofBelow hb).then (Off.setCell (p := ⟨g, 0, none⟩) h6 _)
  have hsz : (w4.setCell ⟨g, 0, none⟩ v').heap.size = w4.heap.size := by simp [World.setCell]
  refine ⟨⟨⟨v', ys, m1.set 0 v', own_base (own_other ho m1 hT3 hs) (Nat.zero_le _), hr.map fun x M' hm => MsR.same hm m1 hT1 hT2 hs, ?_, fun y hy => (hv y hy).mono fun q hq => .inl hq⟩, .inl h6, ?_⟩, ho4⟩
  · intro q hq
    have h1 := ho.lt q hq
    rw [grew, hsz]
    exact .inr h1
  · intro q hq
    rcases hq with h | h
    · have := h7 q h
      have := ho4.size
      omega
    · exact h.2
theorem dropL_take (L : List Ms) (z : Int) (i : Nat) (h : i < L.length) : dropL (L.take (i + 1)) z = dropL (L.take i) z ++ (if stays z L[i] = true then [L[i]] else []) := by
  unfold dropL
  rw [← List.take_append_getElem h, List.filter_append, List.filter_cons, List.filter_nil]
theorem dropL_le (L : List Ms) (z : Int) : (dropL L z).length ≤ L.length := List.length_filter_le _ _
/-- What Drop gives. -/
def DropP (T : TypeId) (w : World) (F : Nat → Prop) (g : Nat) (L : List Ms) (z : Int) (e : Ending) (w' : World) : Prop := e = .returned (.int .i64 ((L.length : Int) - ((dropL L z).length : Int))) ∧ NetF T w' (grew F w w') g (dropL L z) ∧ Off F w w'

/-- append of structs onto what is owned. -/
theorem wpList_appS {P : Program} {w : World} {ops : Array Oper} {rest : List Oper} {o : Oper} {a : Act} {Q : Exit → Act → World → Prop} {e : TypeId} {z : Value} {bytes sz : Nat}
    (hgd : o.guard = none) (s x : Operand) (t : TypeId)
    (ho : o.op = .call { callee := .builtin .append, args := #[s, x], argTypes := #[t, t] })
    (T : ElemT P t e sz z bytes) (hz1 : z.cells.size = sz) (hsz0 : 0 < sz)
    (base : Nat) (v : Value) (n : Nat) (xs : List Value) (hs : a.eval s = v) (hown : w.ownsRow base e sz v n xs)
    (ad : Addr) (m c : Nat) (news : List Value) (hx : a.eval x = .slice (some ad) m c) (hm : news.length = m * sz) (hr : ∀ j u, news[j]? = some u → w.cell? (ad.add j) = some u) (h1 : ∀ u ∈ news, u.oneCell' = true)
    (h63 : n + m ≤ maxLen) (hbytes : (n + m) * bytes ≤ 140737488355328) (hbase : base ≤ w.heap.size)
    (h : ∀ a' c' w', w'.ownsRow base e sz (.slice a' (n + m) c') (n + m) (xs ++ news) → Below base w w' → w.grownBy w' v.ownBlock → wpList P ops Q rest (a.put o.dst (.slice a' (n + m) c')) w') : wpList P ops Q (o :: rest) a w := by
  obtain ⟨i, hi, hz, hsz, hby⟩ := T.hi
  refine wpList_append_own w hgd s x t ho base e i z sz bytes T.ht hi hz hsz hby hz1 hsz0 v n xs hs hown ad m c news hx hm hr h1 h63 hbytes hbase ?_
  intro v' w' ho' hg _
  obtain ⟨a', c', rfl⟩ := own_slice ho'
  exact h a' c' w' ho' (below_grown hg hbase (fun k hk => (hown.lt k hk).1)) hg

set_option maxRecDepth 100000 in
set_option maxHeartbeats 4000000 in
theorem refDrop_f (w : World) (F : Nat → Prop) (g : Nat) (L : List Ms) (hF : NetF 41 w F g L) (hL : L.length ≤ 4096) (z : Int) :
    Calls Try.prog 20 #[.pointer (some ⟨g, 0, none⟩), .int .i64 z] w (DropP 41 w F g L z) := by
  obtain ⟨a, c, xs, h1, h2, h3, hv5⟩ : ∃ a c xs, BlkV w g 41 #[.slice a L.length c] ∧ w.ownsRow 0 31 5 (.slice a L.length c) L.length xs ∧ RowR w xs L ∧ ∀ u ∈ xs, ValF F u := by
    obtain ⟨⟨v, xs, e1, e2, e3, e4, e5⟩, _, _⟩ := hF
    obtain ⟨a, c, rfl⟩ := own_slice e2
    exact ⟨a, c, xs, e1, e2, e3, e5⟩
  obtain ⟨n, hn⟩ : ∃ n, n = L.length := ⟨_, rfl⟩
  rw [← hn] at h1 h2 hL
  have hend := fun (w4 : World) (v' : Value) (ys : List Value) (hb : Below w.heap.size w w4) (ho : w4.ownsRow w.heap.size 31 5 v' (dropL L z).length ys) (hr : RowR w4 ys (dropL L z)) (hv : ∀ u ∈ ys, ValF F u) => renew_end (T := 41) (by decide) (by decide) (by decide) hF hb ho hr hv
  have hgw := h1.lt
  have hxl : xs.length = n * 5 := by have := h2.1; omega
  have hone := h3.one
  have hmsg : ∀ (k : Nat) (W : World) (hk : k < n), Below w.heap.size w W → ∃ G M an cn ad cd, a = some ⟨G, 0, none⟩ ∧ L[k]? = some M ∧ (xs.drop (k * 5)).take 5 = [Value.int .i64 M.fr, .int .i64 M.to, .int .i64 M.kd, .slice an M.nums.length cn, .slice ad M.data.length cd] ∧
      MsR W [Value.int .i64 M.fr, .int .i64 M.to, .int .i64 M.kd, .slice an M.nums.length cn, .slice ad M.data.length cd] M ∧ ∀ j, j < 5 → W.cell? ⟨G, k * 5 + j, none⟩ = [Value.int .i64 M.fr, .int .i64 M.to, .int .i64 M.kd, .slice an M.nums.length cn, .slice ad M.data.length cd][j]? := by
    intro k W hk hb
    have hkl : k < L.length := by omega
    have hm := h3.get k hkl
    have hmk := MsR.kept hm hb
    obtain ⟨an, cn, ad, cd, hx, t1, t2⟩ := hm
    obtain ⟨G, cap, he, q1, q2, _⟩ := own_pos h2 (by omega)
    cases he
    refine ⟨G, L[k], an, cn, ad, cd, rfl, List.getElem?_eq_getElem hkl, hx, hx ▸ hmk, fun j hj => ?_⟩
    rw [hb.cell (p := ⟨G, k * 5 + j, none⟩) q2, ← hx, List.getElem?_take, if_pos hj, List.getElem?_drop]
    have hlt : k * 5 + j < xs.length := by omega
    have := h2.cells (g := G) rfl (k * 5 + j) xs[k * 5 + j] (List.getElem?_eq_getElem hlt)
    rw [Addr.add_lit, Nat.zero_add] at this
    rw [this, List.getElem?_eq_getElem hlt]
  have HMSG := Lib.hid hmsg
  have HEND := Lib.hid hend
  have HV := Lib.hid hv5
  have HN := Lib.hid hn
  have H1 := Lib.hid h1
  have HON := Lib.hid hone
  have HXL := Lib.hid hxl
  unfold DropP
  clear hmsg hend hv5 hn h2 h3 hF h1 hone hxl
  go_enter Try.func20, Try.ntmps20
  go_wp2
  go_loopw [5, 6] (fun s5 s6 wr => ∃ (k m : Nat) (b : Option Addr) (d : Nat) (ys : List Value), k ≤ n ∧ m ≤ k ∧ s6 = .int .i64 k ∧ s5 = .slice b m d ∧ Hid (m = (dropL (L.take k) z).length) ∧ Hid (wr.ownsRow w.heap.size 31 5 (.slice b m d) m ys) ∧ Hid (RowR wr ys (dropL (L.take k) z)) ∧ Hid (∀ u ∈ ys, ValF F u) ∧ Hid (Below w.heap.size w wr)) (fun _ s6 _ => n - (intOf s6).toNat)
  case atStart => exact ⟨0, 0, none, 0, [], by omega, by omega, rfl, rfl, rfl, World.ownsRow_nil _ _ _ _, rfl, (fun u hu => by cases hu), Below.refl _ _⟩
  case round =>
    obtain ⟨k, m, b, d, ys, hk, hmk, rfl, rfl, hm, ho, hr, hv, hb⟩ := hrel
    have c0 := (H1.out.below hb.out).cell 0
    have z0 := (H1.out.below hb.out).lt
    have f0 := (H1.out.below hb.out).frozen 0
    simp only [List.getElem?_toArray, List.getElem?_cons_zero] at c0
    by_cases hlt : k < n
    · have hki : (k : Int) < (n : Int) := by omega
      obtain ⟨G, M, an, cn, ad, cd, rfl, hM, hx, hmr, hcell⟩ := HMSG.out k wr hlt hb.out
      have q0 := hcell 0 (by omega)
      have q1 := hcell 1 (by omega)
      have q2 := hcell 2 (by omega)
      have q3 := hcell 3 (by omega)
      have q4 := hcell 4 (by omega)
      simp only [List.getElem?_cons_succ, List.getElem?_cons_zero, Nat.add_zero] at q0 q1 q2 q3 q4
      have hkl : k < L.length := by have := HN.out; omega
      have hMk : L[k] = M := by rw [List.getElem?_eq_getElem hkl] at hM; exact Option.some.inj hM
      have hdt := dropL_take L z k hkl
      rw [hMk] at hdt
      obtain ⟨fr, hfr⟩ : ∃ fr, fr = M.fr := ⟨_, rfl⟩
      obtain ⟨tz, hto⟩ : ∃ tz, tz = M.to := ⟨_, rfl⟩
      obtain ⟨nn, hnn⟩ : ∃ nn, nn = M.nums.length := ⟨_, rfl⟩
      obtain ⟨nd, hnd⟩ : ∃ nd, nd = M.data.length := ⟨_, rfl⟩
      rw [← hnn] at q3
      rw [← hnd] at q4
      rw [← hfr] at q0
      rw [← hto] at q1
      have hs : stays z M = ((fr != z) && (tz != z)) := by rw [hfr, hto]; rfl
      have HFR := Lib.hid hfr
      have HTO := Lib.hid hto
      have HNN := Lib.hid hnn
      have HND := Lib.hid hnd
      have HDT := Lib.hid hdt
      have HS := Lib.hid hs
      have HX := Lib.hid hx
      have HMR := Lib.hid hmr
      clear hfr hto hnn hnd hdt hs hM hx hmr hcell hMk hkl
      by_cases e1 : fr = z
      · have b1 : (fr != z) = false := by simp [e1]
        have hno : dropL (L.take (k + 1)) z = dropL (L.take k) z := by rw [HDT.out, HS.out, b1]; simp
        have HNO := Lib.hid hno
        clear hno e1
        go_wp2
        go_roundw
        case rel => exact ⟨k + 1, m, b, d, ys, by omega, by omega, by go_num, rfl, HNO.out.symm ▸ hm, ho, HNO.out.symm ▸ hr, hv, hb⟩
        case measure => simp [intOf]; omega
      · have b1 : (fr != z) = true := by simpa using e1
        by_cases e2 : tz = z
        · have b2 : (tz != z) = false := by simp [e2]
          have hno : dropL (L.take (k + 1)) z = dropL (L.take k) z := by rw [HDT.out, HS.out, b1, b2]; simp
          have HNO := Lib.hid hno
          clear hno e1 e2
          go_wp2
          go_roundw
          case rel => exact ⟨k + 1, m, b, d, ys, by omega, by omega, by go_num, rfl, HNO.out.symm ▸ hm, ho, HNO.out.symm ▸ hr, hv, hb⟩
          case measure => simp [intOf]; omega
        · have b2 : (tz != z) = true := by simpa using e2
          have hyes : dropL (L.take (k + 1)) z = dropL (L.take k) z ++ [M] := by rw [HDT.out, HS.out, b1, b2]; simp
          have HYES := Lib.hid hyes
          clear hyes e1 e2
          go_wp2_with (with_reducible refine At.slot 48 ?_)
          have hmr2 : MsR wr [.int .i64 fr, .int .i64 tz, .int .i64 M.kd, .slice an nn cn, .slice ad nd cd] M := by rw [HFR.out, HTO.out, HNN.out, HND.out]; exact HMR.out
          have hww := hb.out.size
          refine At.out (wpList_appS rfl (.tmp 39) (.tmp 47) 24 rfl elemM rfl (by decide) w.heap.size _ m ys rfl (ho.out.alloc _) ⟨wr.heap.size, 0, none⟩ 1 1 [.int .i64 fr, .int .i64 tz, .int .i64 M.kd, .slice an nn cn, .slice ad nd cd] rfl rfl (cells5 wr _ _ _ _ _) (MsR.one hmr2) (by unfold maxLen; omega) (by omega) (by simp; omega) ?_)
          intro b4 d4 w4 ho4 hb4 hg4
          have hbA : Below wr.heap.size wr (wr.alloc (.cells #[.int .i64 fr, .int .i64 tz, .int .i64 M.kd, .slice an nn cn, .slice ad nd cd] 31)) := (Below.refl _ _).alloc (Nat.le_refl _) _
          have hrow := own_type (ho.out.alloc (.cells #[.int .i64 fr, .int .i64 tz, .int .i64 M.kd, .slice an nn cn, .slice ad nd cd] 31))
          have hr4 := RowR.snoc ((hmr2.kept hbA).grown hg4 hrow (by decide) (by decide)) ((hr.out.map fun x M' hm => MsR.kept hm hbA).map fun x M' hm => MsR.grown hm hg4 hrow (by decide) (by decide))
          have hb5 : Below w.heap.size w w4 := (hb.out.alloc hww _).trans hb4
          have hm4 : m + 1 = (dropL (L.take (k + 1)) z).length := by rw [HYES.out, List.length_append, ← hm.out]; rfl
          have hv4 : ∀ u ∈ ys ++ [.int .i64 fr, .int .i64 tz, .int .i64 M.kd, .slice an nn cn, .slice ad nd cd], ValF F u := by
            intro u hu
            rcases List.mem_append.1 hu with h | h
            · exact hv.out u h
            · refine HV.out u ?_
              have hx := HX.out
              rw [← HFR.out, ← HTO.out, ← HNN.out, ← HND.out] at hx
              rw [← hx] at h
              exact List.mem_of_mem_drop (List.mem_of_mem_take h)
          rw [← HYES.out] at hr4
          have HM4 := Lib.hid hm4
          have HO4 := Lib.hid ho4
          have HR4 := Lib.hid hr4
          have HB4 := Lib.hid hb5
          have HV4 := Lib.hid hv4
          clear hmr2 hww ho4 hb4 hg4 hbA hrow hr4 hb5 hm4 hv4 q0 q1 q2 q3 q4
          go_wp2
          go_roundw
          case rel => exact ⟨k + 1, m + 1, b4, d4, _, by omega, by omega, by go_num, rfl, HM4, HO4, HR4, HV4, HB4⟩
          case measure => simp [intOf]; omega
    · have hnlt : ¬ (k : Int) < (n : Int) := by omega
      have hkn : L.take k = L := List.take_of_length_le (by have := HN.out; omega)
      have hm' := hm.out
      have ho' := ho.out
      have hr' := hr.out
      rw [hkn] at hm' hr'
      obtain ⟨hfin, hoff⟩ := HEND.out wr (.slice b m d) ys hb.out (own_len ho' hm') hr' hv.out
      have HFIN := Lib.hid hfin
      have HOFF := Lib.hid hoff
      have HM := Lib.hid hm'
      have hw8 : IntKind.i64.wrap ((n : Int) - (m : Int)) = (n : Int) - (m : Int) := IntWalk.i64_in _ (by omega)
      clear hfin hoff hm' ho' hr' hkn hm ho hr hv hb
      go_wp2
      go_ret
      exact ⟨ret_int (by rw [HN.out, HM.out]), HFIN.out, HOFF.out⟩
end Go.Proofs.Ytoagneajlfglcaa
