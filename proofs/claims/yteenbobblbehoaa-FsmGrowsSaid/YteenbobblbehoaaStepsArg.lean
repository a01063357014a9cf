/- An argument of steps, opened. Conditions: each law's own premises. -/
import Derived.Test.YteenbobblbehoaaFsmVt
import Derived.Deep.Slices
import Derived.Deep.Matrix
import Derived.ProofKit
import Derived.OpenShut
namespace Go.Proofs.Yteenbobblbehoaa
open Go Go.RowKit Go.ChangeShapes Go.WideShapes Go.Deep

theorem open_steps {H : Type} {enc : TypeId × Value → H} {P : Program} {w : World} {base : Nat} {held : Bool} {t e q1 q2 : TypeId} {f0 f1 f2 : Field} {fuel : Nat} {cs : List Value} {x : DataW H × List MemPlace}
    (ht : P.underlying t = some (.slice e)) (he : P.underlying e = some (.struct #[f0, f1, f2])) (ce : P.cellsOf e = 3) (o0 : f0.offset = 0) (o1 : f1.offset = 1) (o2 : f2.offset = 2) (k0 : P.cellsOf f0.type = 1) (k1 : P.cellsOf f1.type = 1) (k2 : P.cellsOf f2.type = 1)
    (u0 : P.underlying f0.type = some (.int .i64)) (u1 : P.underlying f1.type = some (.slice q1)) (v1 : P.underlying q1 = some (.int .i64)) (r1 : P.cellsOf q1 = 1) (u2 : P.underlying f2.type = some (.slice q2)) (v2 : P.underlying q2 = some (.int .u8)) (r2 : P.cellsOf q2 = 1)
    (h : DataW.trod enc P w base (fun _ => true) held fuel t cs = some x) : ∃ (a : Option Addr) (len cap : Nat) (S : List Stp), cs = [.slice a len cap] ∧ len = S.length ∧ RdS w a cap S := by
  rcases open_slice ht h with ⟨rfl, _⟩ | ⟨a, len, cap, m, n, D, Pl, rfl, hb, hl, hm, hmm, _, hx⟩
  · exact ⟨none, 0, 0, [], rfl, rfl, Nat.le_refl _, by unfold maxLen; omega, fun i s hs => by simp at hs⟩
  simp only [if_true] at hmm
  rw [hmm] at hx
  by_cases hc0 : cap = 0
  · exact ⟨some a, len, cap, [], rfl, by simp; omega, by simp, hm, fun i s hs => by simp at hs⟩
  have hsp : a.spot = none := by
    obtain ⟨cs', h1, _⟩ := hx 0 (by omega)
    rw [ce] at h1
    obtain ⟨_, hlen, hcell⟩ := World.cells?_some h1
    have e0 := hcell 0 (by omega)
    rw [add_add, List.getElem?_eq_getElem (by omega)] at e0
    have := World.cell?_spot e0
    simpa [Addr.add] using this
  obtain ⟨b, o, sp⟩ := a
  simp only at hsp
  subst hsp
  have each : ∀ i, i < cap → ∃ q : Stp × Option Addr × Nat × Option Addr × Nat, w.cell? ((⟨b, o, none⟩ : Addr).add (i * 3)) = some (.int .i64 q.1.kd) ∧ w.cell? ((⟨b, o, none⟩ : Addr).add (i * 3 + 1)) = some (.slice q.2.1 q.1.nums.length q.2.2.1) ∧ w.cell? ((⟨b, o, none⟩ : Addr).add (i * 3 + 2)) = some (.slice q.2.2.2.1 q.1.raw.length q.2.2.2.2) ∧
      Rd w q.2.1 q.2.2.1 (BI q.1.nums) ∧ (∀ n ∈ q.1.nums, -9223372036854775808 ≤ n ∧ n ≤ 9223372036854775807) ∧ Rd w q.2.2.2.1 q.2.2.2.2 (B8 q.1.raw) := by
    intro i hi
    obtain ⟨cs', h1, h2⟩ := hx i hi
    rw [ce] at h1
    obtain ⟨_, hlen, hcell⟩ := World.cells?_some h1
    obtain ⟨xs, k, hk, hxy, _, hxl, hf⟩ := DataW.trod_struct he h2
    match xs, hxl, cs', hlen with
    | [y0, y1, y2], _, [x0, x1, x2], _ =>
      have g0 := hf 0 f0 rfl
      have g1 := hf 1 f1 rfl
      have g2 := hf 2 f2 rfl
      simp [o0, o1, o2, k0, k1, k2] at g0 g1 g2
      have e0 := hcell 0 (by omega)
      have e1 := hcell 1 (by omega)
      have e2 := hcell 2 (by omega)
      rw [add_add] at e0 e1 e2
      simp only [List.getElem?_cons_zero, List.getElem?_cons_succ, Nat.add_zero] at e0 e1 e2
      obtain ⟨z, hz, -, _⟩ := DataW.trod_int u0 g0
      simp only [List.cons.injEq, and_true] at hz
      subst hz
      obtain ⟨an, cn, nums, hn, hrn, hbn⟩ : ∃ (an : Option Addr) (cn : Nat) (nums : List Int), x1 = .slice an nums.length cn ∧ Rd w an cn (BI nums) ∧ ∀ n ∈ nums, -9223372036854775808 ≤ n ∧ n ≤ 9223372036854775807 := by
        rcases open_ints u1 v1 r1 g1 with ⟨hcs, _⟩ | ⟨y, l, c, zs, hcs, _, hl', hm', hz', _, hc', hw'⟩
        · simp at hcs
          exact ⟨none, 0, [], hcs, Rd.none w, by simp⟩
        · simp at hcs
          obtain ⟨l', e', hr', hb'⟩ := Rd.ofInts hl' hm' (by simpa using hz') hc' hw'
          exact ⟨_, _, l', by rw [hcs, e'], hr', hb'⟩
      obtain ⟨ar, cr, raw, hw2, hrr⟩ : ∃ (ar : Option Addr) (cr : Nat) (raw : List UInt8), x2 = .slice ar raw.length cr ∧ Rd w ar cr (B8 raw) := by
        rcases open_ints u2 v2 r2 g2 with ⟨hcs, _⟩ | ⟨y, l, c, zs, hcs, _, hl', hm', hz', _, hc', hw'⟩
        · simp at hcs
          exact ⟨none, 0, [], hcs, Rd.none w⟩
        · simp at hcs
          obtain ⟨l', e', hr'⟩ := Rd.ofBytes hl' hm' (by simpa using hz') hc' hw'
          exact ⟨_, _, l', by rw [hcs, e'], hr'⟩
      subst hn hw2
      exact ⟨(⟨z, nums, raw⟩, an, cn, ar, cr), e0, e1, e2, hrn, hbn, hrr⟩
  have each' : ∀ i, ∃ q : Stp × Option Addr × Nat × Option Addr × Nat, i < cap → (w.cell? ((⟨b, o, none⟩ : Addr).add (i * 3)) = some (.int .i64 q.1.kd) ∧ w.cell? ((⟨b, o, none⟩ : Addr).add (i * 3 + 1)) = some (.slice q.2.1 q.1.nums.length q.2.2.1) ∧ w.cell? ((⟨b, o, none⟩ : Addr).add (i * 3 + 2)) = some (.slice q.2.2.2.1 q.1.raw.length q.2.2.2.2) ∧
      Rd w q.2.1 q.2.2.1 (BI q.1.nums) ∧ (∀ n ∈ q.1.nums, -9223372036854775808 ≤ n ∧ n ≤ 9223372036854775807) ∧ Rd w q.2.2.2.1 q.2.2.2.2 (B8 q.1.raw)) := by
    intro i
    by_cases hi : i < cap
    · obtain ⟨q, hq⟩ := each i hi
      exact ⟨q, fun _ => hq⟩
    · exact ⟨(⟨0, [], []⟩, none, 0, none, 0), fun h => absurd h hi⟩
  obtain ⟨f, hf⟩ := Classical.axiomOfChoice each'
  refine ⟨some ⟨b, o, none⟩, len, cap, (List.range len).map fun i => (f i).1, rfl, by simp, by simpa using hl, hm, fun i s hs => ?_⟩
  have hi : i < len := by
    have := (List.getElem?_eq_some_iff.1 hs).1
    simpa using this
  simp only [List.getElem?_map, List.getElem?_range hi, Option.map_some, Option.some.injEq] at hs
  subst hs
  obtain ⟨p1, p2, p3, p4, p5, p6⟩ := hf i (by omega)
  have hadd : ∀ j, (⟨b, o, none⟩ : Addr).add j = ⟨b, o + j, none⟩ := fun j => Addr.add_lit ..
  rw [hadd] at p1 p2 p3
  have hbl : b < w.heap.size := by
    by_cases hb' : b < w.heap.size
    · exact hb'
    · unfold World.cell? at p1
      rw [Array.getElem?_eq_none (by simpa using hb')] at p1
      simp at p1
  exact ⟨b, o, _, _, _, _, rfl, hbl, p1, by rw [Nat.add_assoc]; exact p2, by rw [Nat.add_assoc]; exact p3, p4, p5, p6⟩
end Go.Proofs.Yteenbobblbehoaa
