/- Rows in a list of the call's own, each replaced whole. Conditions: each law's own premises. -/
import Derived.Test.YtmeckdgigjjjbaaDoorOwnM
namespace Go.Proofs.YtmeckdgigjjjbaaDoor
open Go Go.RowKit

structure OwnR (w : World) (B : Nat) (tS tE : TypeId) (g n cap : Nat) (vs : List Value) (L : List (List UInt8)) : Prop where
  outer : w.ownsRow B tS 1 (.slice (some ⟨g, 0, none⟩) n cap) n vs
  len : L.length = n
  row : ∀ (i : Nat) (u : Value) (l : List UInt8), vs[i]? = some u → L[i]? = some l → w.ownsRow B tE 1 u l.length (B8 l)
theorem OwnM.ownR {w : World} {B : Nat} {tS tE : TypeId} {g n cap : Nat} {vs : List Value} {L : List (List UInt8)} (h : OwnM w B tS tE g n cap vs L) : OwnR w B tS tE g n cap vs L := ⟨h.outer, h.len, h.row⟩
theorem OwnR.vlen {w : World} {B : Nat} {tS tE : TypeId} {g n cap : Nat} {vs : List Value} {L : List (List UInt8)} (h : OwnR w B tS tE g n cap vs L) : vs.length = n := by simpa using h.outer.1
theorem OwnR.ownLL {w : World} {B : Nat} {tS tE : TypeId} {g n cap : Nat} {vs : List Value} {L : List (List UInt8)} (h : OwnR w B tS tE g n cap vs L) : OwnLL w B tS tE (.slice (some ⟨g, 0, none⟩) n cap) L := by
  refine ⟨vs, by rw [h.len]; exact h.outer, fun i l hl => ?_⟩
  have hi := (List.getElem?_eq_some_iff.1 hl).1
  have hv : vs[i]? = some (vs[i]'(by have := h.vlen; have := h.len; omega)) := List.getElem?_eq_getElem _
  exact ⟨_, hv, h.row i _ l hv hl⟩
theorem OwnR.kept {w w' : World} {B : Nat} {tS tE : TypeId} {g n cap : Nat} {vs : List Value} {L : List (List UInt8)} (h : OwnR w B tS tE g n cap vs L) (hb : Below w.heap.size w w') : OwnR w' B tS tE g n cap vs L :=
  ⟨own_below h.outer hb, h.len, fun i u l hu hl => own_below (h.row i u l hu hl) hb⟩
theorem OwnR.at {w : World} {B : Nat} {tS tE : TypeId} {g n cap : Nat} {vs : List Value} {L : List (List UInt8)} (h : OwnR w B tS tE g n cap vs L) (i : Nat) (hi : i < n) :
    ∃ u, vs[i]? = some u ∧ w.cell? ⟨g, i, none⟩ = some u ∧ w.frozen? ⟨g, i, none⟩ = false ∧ w.ownsRow B tE 1 u (L[i]'(by have := h.len; omega)).length (B8 (L[i]'(by have := h.len; omega))) := by
  have hv : vs[i]? = some (vs[i]'(by have := h.vlen; omega)) := List.getElem?_eq_getElem _
  refine ⟨_, hv, ?_, h.outer.frozenAt i, h.row i _ _ hv (List.getElem?_eq_getElem _)⟩
  rw [h.outer.cellAt i (by omega), hv]
/-- A row in its place: a cell of the list and what it reads as. -/
theorem OwnR.rd {w : World} {B : Nat} {tS tE : TypeId} {g n cap : Nat} {vs : List Value} {L : List (List UInt8)} (h : OwnR w B tS tE g n cap vs L) (i : Nat) (hi : i < n) (l : List UInt8) (hl : L[i]? = some l) :
    ∃ a c, w.cell? ⟨g, i, none⟩ = some (.slice a l.length c) ∧ Rd w a c (B8 l) := by
  obtain ⟨u, hu, hc, _, _⟩ := h.at i hi
  have ho := h.row i u l hu hl
  obtain ⟨a, c, rfl, hr⟩ := Rd.ofOwn ho
  exact ⟨a, c, hc, hr⟩
/-- .. and all of it. -/
theorem OwnR.all {w : World} {B : Nat} {tS tE : TypeId} {g n cap : Nat} {vs : List Value} {L : List (List UInt8)} (h : OwnR w B tS tE g n cap vs L) (i : Nat) (hi : i < n) (l : List UInt8) (hl : L[i]? = some l) :
    ∃ a c, w.cell? ⟨g, i, none⟩ = some (.slice a l.length c) ∧ w.frozen? ⟨g, i, none⟩ = false ∧ w.ownsRow B tE 1 (.slice a l.length c) l.length (B8 l) ∧ Rd w a c (B8 l) := by
  obtain ⟨u, hu, hc, hf, _⟩ := h.at i hi
  have ho := h.row i u l hu hl
  obtain ⟨a, c, rfl, hr⟩ := Rd.ofOwn ho
  exact ⟨a, c, hc, hf, ho, hr⟩
theorem OwnR.lt {w : World} {B : Nat} {tS tE : TypeId} {g n cap : Nat} {vs : List Value} {L : List (List UInt8)} (h : OwnR w B tS tE g n cap vs L) (hn : 0 < n) : B ≤ g ∧ g < w.heap.size := by
  obtain ⟨u, _, hc, _, _⟩ := h.at 0 hn
  refine ⟨?_, World.block_lt_of_cell? w _ hc⟩
  rcases own_block h.outer with h0 | ⟨g', C, fr, h1, h2, _⟩
  · cases h0
  · cases h1; exact h2
/-- A new row is laid in its place. -/
theorem OwnR.put {w : World} {B : Nat} {tS tE : TypeId} {g n cap : Nat} {vs : List Value} {L : List (List UInt8)} (h : OwnR w B tS tE g n cap vs L) (hne : tE ≠ tS) (i : Nat) (hi : i < n) (u' : Value) (l' : List UInt8) (m : Nat) (hm : m = l'.length)
    (hu : w.ownsRow B tE 1 u' m (B8 l')) : OwnR (w.setCell ⟨g, i, none⟩ u') B tS tE g n cap (vs.set i u') (L.set i l') := by
  subst hm
  refine ⟨(h.outer.stored i u').1, by simp [h.len], ?_⟩
  intro j u l hj hl
  by_cases hji : j = i
  · subst hji
    rw [List.getElem?_set_self (by have := h.vlen; omega)] at hj
    rw [List.getElem?_set_self (by have := h.len; omega)] at hl
    cases hj; cases hl
    exact own_setT hu h.outer rfl hne _ _
  · rw [List.getElem?_set_ne (fun h => hji h.symm)] at hj hl
    exact own_setT (h.row j u l hj hl) h.outer rfl hne _ _
/-- From a list of rows of the call's own. -/
theorem OwnR.ofLL {w : World} {B : Nat} {tS tE : TypeId} {v : Value} {L : List (List UInt8)} (h : OwnLL w B tS tE v L) (hn : 0 < L.length) : ∃ g cap vs, v = .slice (some ⟨g, 0, none⟩) L.length cap ∧ OwnR w B tS tE g L.length cap vs L := by
  obtain ⟨vs, ho, hr⟩ := h
  have hvl : vs.length = L.length := by simpa using ho.1
  have ho' := ho
  rcases ho.2 with ⟨rfl, h0⟩ | ⟨g, cap, cur, rfl, hb, hh, r⟩
  · exfalso; rw [h0] at hvl; simp at hvl; omega
  · refine ⟨g, cap, vs, rfl, ho', rfl, fun i u l hu hl => ?_⟩
    obtain ⟨u2, h2, h3⟩ := hr i l hl
    rw [hu] at h2
    cases h2
    exact h3
/-- A write into a list of another type leaves it. -/
theorem OwnR.setT {w : World} {B : Nat} {tS tE : TypeId} {g n cap : Nat} {vs : List Value} {L : List (List UInt8)} (h : OwnR w B tS tE g n cap vs L) {e' : TypeId} {sz' n' g' base' : Nat} {v' : Value} {ys : List Value} (h' : w.ownsRow base' e' sz' v' n' ys) (hv : v'.ownBlock = some g') (h1 : tS ≠ e') (h2 : tE ≠ e') (j : Nat) (u : Value) :
    OwnR (w.setCell ⟨g', j, none⟩ u) B tS tE g n cap vs L :=
  ⟨own_setT h.outer h' hv h1 j u, h.len, fun i x l hx hl => own_setT (h.row i x l hx hl) h' hv h2 j u⟩
end Go.Proofs.YtmeckdgigjjjbaaDoor
