/- An argument of steps that hold messages, opened; and that it is small where the input's bulk is. Conditions: each law's own premises. -/
import Derived.Test.YtoagneajlfglcaaRows
import Derived.Test.YtoagneajlfglcaaNetSt
import Derived.Deep.Slices
import Derived.Deep.Matrix
import Derived.ProofKit
import Derived.OpenShut
namespace Go.Proofs.Ytoagneajlfglcaa
open Go Go.RowKit Go.ChangeShapes Go.WideShapes Go.Deep

theorem bulk_one {H : Type} (d : DataW H) : 1 ≤ Rows.uptoBulk d := by
  cases d with
  | lit l => cases l <;> simp [Rows.uptoBulk]
  | nil => simp [Rows.uptoBulk]
  | ptr d => simp [Rows.uptoBulk]
  | slice elems spare => simp [Rows.uptoBulk]
  | agg parts => simp [Rows.uptoBulk]
  | iface t d => simp [Rows.uptoBulk]
  | map entries => simp [Rows.uptoBulk]
  | held h => simp [Rows.uptoBulk]
theorem bulk_part {H : Type} {d : DataW H} {l : List (DataW H)} (h : d ∈ l) : Rows.uptoBulk d ≤ Rows.uptoBulkAll l := by
  induction l with
  | nil => cases h
  | cons x r ih =>
    simp only [Rows.uptoBulkAll]
    cases List.mem_cons.1 h with
    | inl e => subst e; omega
    | inr e => have := ih e; omega
theorem bulk_length {H : Type} (l : List (DataW H)) : l.length ≤ Rows.uptoBulkAll l := by
  induction l with
  | nil => simp [Rows.uptoBulkAll]
  | cons x r ih => have := bulk_one x; simp only [Rows.uptoBulkAll, List.length_cons]; omega
theorem bulk_slice {H : Type} (elems spare : List (DataW H)) : elems.length ≤ Rows.uptoBulk (.slice elems spare) ∧ ∀ d ∈ elems, Rows.uptoBulk d ≤ Rows.uptoBulk (.slice elems spare) := by
  have h1 := bulk_length elems
  refine ⟨by simp only [Rows.uptoBulk]; omega, fun d hd => ?_⟩
  have := bulk_part hd
  simp only [Rows.uptoBulk]; omega
theorem bulk_agg {H : Type} {parts : List (DataW H)} {d : DataW H} (h : d ∈ parts) : Rows.uptoBulk d ≤ Rows.uptoBulk (.agg parts) := by
  have := bulk_part h
  simp only [Rows.uptoBulk]; omega
theorem bulk_bound {H : Type} {l : List (DataW H)} (hk : Rows.uptoSmall H l = true) : Rows.uptoBulkAll l ≤ 1048576 := of_decide_eq_true hk

theorem open_stepsN {H : Type} {enc : TypeId × Value → H} {P : Program} {w : World} {base : Nat} {held : Bool} {t e q1 q2 : TypeId} {f0 f1 f2 g0 g1 g2 g3 g4 : Field} {fuel : Nat} {cs : List Value} {x : DataW H × List MemPlace}
    (ht : P.underlying t = some (.slice e)) (he : P.underlying e = some (.struct #[f0, f1, f2])) (ce : P.cellsOf e = 7) (o0 : f0.offset = 0) (o1 : f1.offset = 1) (o2 : f2.offset = 2) (k0 : P.cellsOf f0.type = 1) (k1 : P.cellsOf f1.type = 1) (k2 : P.cellsOf f2.type = 5)
    (u0 : P.underlying f0.type = some (.int .i64)) (u1 : P.underlying f1.type = some (.int .i64)) (um : P.underlying f2.type = some (.struct #[g0, g1, g2, g3, g4]))
    (p0 : g0.offset = 0) (p1 : g1.offset = 1) (p2 : g2.offset = 2) (p3 : g3.offset = 3) (p4 : g4.offset = 4) (l0 : P.cellsOf g0.type = 1) (l1 : P.cellsOf g1.type = 1) (l2 : P.cellsOf g2.type = 1) (l3 : P.cellsOf g3.type = 1) (l4 : P.cellsOf g4.type = 1)
    (v0 : P.underlying g0.type = some (.int .i64)) (v1 : P.underlying g1.type = some (.int .i64)) (v2 : P.underlying g2.type = some (.int .i64)) (v3 : P.underlying g3.type = some (.slice q1)) (y1 : P.underlying q1 = some (.int .i64)) (r1 : P.cellsOf q1 = 1)
    (v4 : P.underlying g4.type = some (.slice q2)) (y2 : P.underlying q2 = some (.int .u8)) (r2 : P.cellsOf q2 = 1)
    (h : DataW.trod enc P w base (fun _ => true) held fuel t cs = some x) : ∃ (a : Option Addr) (len cap : Nat) (S : List Sp), cs = [.slice a len cap] ∧ len = S.length ∧ RdN w a cap S ∧ S.length ≤ Rows.uptoBulk x.1 ∧ ∀ s ∈ S, s.m.nums.length ≤ Rows.uptoBulk x.1 ∧ s.m.data.length ≤ Rows.uptoBulk x.1 := by
  rcases open_slice ht h with ⟨rfl, _⟩ | ⟨a, len, cap, m, n, D, Pl, rfl, hb, hl, hm, hmm, rfl, hx⟩
  · exact ⟨none, 0, 0, [], rfl, rfl, ⟨Nat.le_refl _, by unfold maxLen; omega, fun i s hs => by simp at hs⟩, Nat.zero_le _, fun s hs => by cases hs⟩
  simp only [if_true] at hmm
  subst hmm
  obtain ⟨b1, b2⟩ := bulk_slice ((List.range len).map D) ((List.range (m - len)).map fun j => D (len + j))
  by_cases hc0 : m = 0
  · subst hc0
    have : len = 0 := by omega
    subst this
    exact ⟨some a, 0, 0, [], rfl, rfl, ⟨Nat.le_refl _, by unfold maxLen; omega, fun i s hs => by simp at hs⟩, Nat.zero_le _, fun s hs => by cases hs⟩
  have hsp : a.spot = none := by
    obtain ⟨cs', h1, _⟩ := hx 0 (by omega)
    rw [ce] at h1
    obtain ⟨_, hlen, hcell⟩ := World.cells?_some h1
    have e0 := hcell 0 (by omega)
    rw [add_add, List.getElem?_eq_getElem (by omega)] at e0
    have := World.cell?_spot e0
    simpa [Addr.add] using this
  obtain ⟨b, o, sp⟩ := a
  simp only at hsp
  subst hsp
  have each : ∀ i, i < m → ∃ q : Sp × Option Addr × Nat × Option Addr × Nat, (∀ j, j < 7 → w.cell? ((⟨b, o, none⟩ : Addr).add (i * 7 + j)) = [Value.int .i64 q.1.kd, .int .i64 q.1.ix, .int .i64 q.1.m.fr, .int .i64 q.1.m.to, .int .i64 q.1.m.kd, .slice q.2.1 q.1.m.nums.length q.2.2.1, .slice q.2.2.2.1 q.1.m.data.length q.2.2.2.2][j]?) ∧
      Rd w q.2.1 q.2.2.1 (BI q.1.m.nums) ∧ Rd w q.2.2.2.1 q.2.2.2.2 (B8 q.1.m.data) ∧ q.1.m.nums.length ≤ Rows.uptoBulk (D i) ∧ q.1.m.data.length ≤ Rows.uptoBulk (D i) := by
    intro i hi
    obtain ⟨cs', h1, h2⟩ := hx i hi
    rw [ce] at h1
    obtain ⟨_, hlen, hcell⟩ := World.cells?_some h1
    obtain ⟨xs, k, hk, hxy, _, hxl, hf⟩ := DataW.trod_struct he h2
    match xs, hxl, cs', hlen with
    | [z0, z1, z2], _, [x0, x1, x2, x3, x4, x5, x6], _ =>
      have g0' := hf 0 f0 rfl
      have g1' := hf 1 f1 rfl
      have g2' := hf 2 f2 rfl
      simp [o0, o1, o2, k0, k1, k2] at g0' g1' g2'
      obtain ⟨ys, k', hk', hxy', _, hyl, hf'⟩ := DataW.trod_struct um g2'
      match ys, hyl with
      | [w0, w1, w2, w3, w4], _ =>
        have m0 := hf' 0 g0 rfl
        have m1 := hf' 1 g1 rfl
        have m2 := hf' 2 g2 rfl
        have m3 := hf' 3 g3 rfl
        have m4 := hf' 4 g4 rfl
        simp [p0, p1, p2, p3, p4, l0, l1, l2, l3, l4] at m0 m1 m2 m3 m4
        have hDi : D i = .agg [z0.1, z1.1, z2.1] := by have := congrArg Prod.fst hxy; simpa using this
        have hz2 : z2.1 = .agg [w0.1, w1.1, w2.1, w3.1, w4.1] := by rw [hxy']; rfl
        have hb3 : Rows.uptoBulk w3.1 ≤ Rows.uptoBulk (D i) := by
          rw [hDi]
          refine Nat.le_trans ?_ (bulk_agg (d := z2.1) (by simp))
          rw [hz2]
          exact bulk_agg (by simp)
        have hb4 : Rows.uptoBulk w4.1 ≤ Rows.uptoBulk (D i) := by
          rw [hDi]
          refine Nat.le_trans ?_ (bulk_agg (d := z2.1) (by simp))
          rw [hz2]
          exact bulk_agg (by simp)
        obtain ⟨i0, hi0, -, _⟩ := DataW.trod_int u0 g0'
        obtain ⟨i1, hi1, -, _⟩ := DataW.trod_int u1 g1'
        obtain ⟨i2, hi2, -, _⟩ := DataW.trod_int v0 m0
        obtain ⟨i3, hi3, -, _⟩ := DataW.trod_int v1 m1
        obtain ⟨i4, hi4, -, _⟩ := DataW.trod_int v2 m2
        simp only [List.cons.injEq, and_true] at hi0 hi1 hi2 hi3 hi4
        subst hi0 hi1 hi2 hi3 hi4
        obtain ⟨an, cn, nums, hn, hrn, hbn⟩ : ∃ (an : Option Addr) (cn : Nat) (nums : List Int), x5 = .slice an nums.length cn ∧ Rd w an cn (BI nums) ∧ nums.length ≤ Rows.uptoBulk w3.1 := by
          rcases open_ints v3 y1 r1 m3 with ⟨hcs, _⟩ | ⟨y, l, c, zs, hcs, _, hl', hm', hz', hx', hc', hw'⟩
          · simp at hcs
            exact ⟨none, 0, [], hcs, Rd.none w, Nat.zero_le _⟩
          · simp at hcs
            simp only [if_true] at hz'
            obtain ⟨l', e', hr', hb'⟩ := Rd.ofInts hl' hm' hz' hc' hw'
            refine ⟨_, _, l', by rw [hcs, e'], hr', ?_⟩
            rw [hx']
            refine Nat.le_trans ?_ (bulk_slice _ _).1
            simp only [lits, List.length_map, List.length_take]
            omega
        obtain ⟨ar, cr, raw, hw2, hrr, hbr⟩ : ∃ (ar : Option Addr) (cr : Nat) (raw : List UInt8), x6 = .slice ar raw.length cr ∧ Rd w ar cr (B8 raw) ∧ raw.length ≤ Rows.uptoBulk w4.1 := by
          rcases open_ints v4 y2 r2 m4 with ⟨hcs, _⟩ | ⟨y, l, c, zs, hcs, _, hl', hm', hz', hx', hc', hw'⟩
          · simp at hcs
            exact ⟨none, 0, [], hcs, Rd.none w, Nat.zero_le _⟩
          · simp at hcs
            simp only [if_true] at hz'
            obtain ⟨l', e', hr'⟩ := Rd.ofBytes hl' hm' hz' hc' hw'
            refine ⟨_, _, l', by rw [hcs, e'], hr', ?_⟩
            rw [hx']
            refine Nat.le_trans ?_ (bulk_slice _ _).1
            simp only [lits, List.length_map, List.length_take]
            omega
        subst hn hw2
        refine ⟨(⟨i0, i1, ⟨i2, i3, i4, nums, raw⟩⟩, an, cn, ar, cr), fun j hj => ?_, hrn, hrr, Nat.le_trans hbn hb3, Nat.le_trans hbr hb4⟩
        have := hcell j (by omega)
        rw [add_add] at this
        exact this
  have each' : ∀ i, ∃ q : Sp × Option Addr × Nat × Option Addr × Nat, i < m → ((∀ j, j < 7 → w.cell? ((⟨b, o, none⟩ : Addr).add (i * 7 + j)) = [Value.int .i64 q.1.kd, .int .i64 q.1.ix, .int .i64 q.1.m.fr, .int .i64 q.1.m.to, .int .i64 q.1.m.kd, .slice q.2.1 q.1.m.nums.length q.2.2.1, .slice q.2.2.2.1 q.1.m.data.length q.2.2.2.2][j]?) ∧
      Rd w q.2.1 q.2.2.1 (BI q.1.m.nums) ∧ Rd w q.2.2.2.1 q.2.2.2.2 (B8 q.1.m.data) ∧ q.1.m.nums.length ≤ Rows.uptoBulk (D i) ∧ q.1.m.data.length ≤ Rows.uptoBulk (D i)) := by
    intro i
    by_cases hi : i < m
    · obtain ⟨q, hq⟩ := each i hi
      exact ⟨q, fun _ => hq⟩
    · exact ⟨(⟨0, 0, Ms.zero⟩, none, 0, none, 0), fun h => absurd h hi⟩
  obtain ⟨f, hf⟩ := Classical.axiomOfChoice each'
  refine ⟨some ⟨b, o, none⟩, len, m, (List.range len).map fun i => (f i).1, rfl, by simp, ⟨by simpa using hl, hm, fun i s hs => ?_⟩, by simpa using b1, fun s hs => ?_⟩
  · have hi : i < len := by
      have := (List.getElem?_eq_some_iff.1 hs).1
      simpa using this
    simp only [List.getElem?_map, List.getElem?_range hi, Option.map_some, Option.some.injEq] at hs
    subst hs
    obtain ⟨p1', p4', p5', _, _⟩ := hf i (by omega)
    have hadd : ∀ j, (⟨b, o, none⟩ : Addr).add j = ⟨b, o + j, none⟩ := fun j => Addr.add_lit ..
    simp only [hadd, ← Nat.add_assoc] at p1'
    have hbl : b < w.heap.size := by
      have := p1' 0 (by omega)
      by_cases hb' : b < w.heap.size
      · exact hb'
      · unfold World.cell? at this
        rw [Array.getElem?_eq_none (by simpa using hb')] at this
        simp at this
    exact ⟨b, o, _, _, _, _, rfl, hbl, p1', p4', p5'⟩
  · obtain ⟨i, hi, rfl⟩ := List.mem_map.1 hs
    have hi := List.mem_range.1 hi
    obtain ⟨_, _, _, q1', q2'⟩ := hf i (by omega)
    have hbi := b2 (D i) (List.mem_map.2 ⟨i, List.mem_range.2 hi, rfl⟩)
    exact ⟨Nat.le_trans q1' hbi, Nat.le_trans q2' hbi⟩
end Go.Proofs.Ytoagneajlfglcaa
