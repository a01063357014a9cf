/- An argument of rows of bytes: what it reads as, and that it is small where the input's bulk is. Conditions: each law's own premises. -/
import Derived.Test.YtnohhhlgfnjaoaaRows
import Derived.Test.YtnohhhlgfnjaoaaOwnL
import Derived.Deep.Matrix
import Derived.ProofKit
import Derived.OpenShut
namespace Go.Proofs.Ytnohhhlgfnjaoaa
open Go Go.RowKit Go.ChangeShapes Go.WideShapes Go.Deep

theorem bulk_one {H : Type} (d : DataW H) : 1 ≤ Rows.uptoBulk d := by
  cases d with
  | lit l => cases l <;> simp [Rows.uptoBulk]
  | nil => simp [Rows.uptoBulk]
  | ptr d => simp [Rows.uptoBulk]
  | slice elems spare => simp [Rows.uptoBulk]
  | agg parts => simp [Rows.uptoBulk]
  | iface t d => simp [Rows.uptoBulk]
  | map entries => simp [Rows.uptoBulk]
  | held h => simp [Rows.uptoBulk]
theorem bulk_part {H : Type} {d : DataW H} {l : List (DataW H)} (h : d ∈ l) : Rows.uptoBulk d ≤ Rows.uptoBulkAll l := by
  induction l with
  | nil => cases h
  | cons x r ih =>
    simp only [Rows.uptoBulkAll]
    cases List.mem_cons.1 h with
    | inl e => subst e; omega
    | inr e => have := ih e; omega
theorem bulk_length {H : Type} (l : List (DataW H)) : l.length ≤ Rows.uptoBulkAll l := by
  induction l with
  | nil => simp [Rows.uptoBulkAll]
  | cons x r ih => have := bulk_one x; simp only [Rows.uptoBulkAll, List.length_cons]; omega
theorem bulk_slice {H : Type} (elems spare : List (DataW H)) : elems.length ≤ Rows.uptoBulk (.slice elems spare) ∧ ∀ d ∈ elems, Rows.uptoBulk d ≤ Rows.uptoBulk (.slice elems spare) := by
  have h1 := bulk_length elems
  refine ⟨by simp only [Rows.uptoBulk]; omega, fun d hd => ?_⟩
  have := bulk_part hd
  simp only [Rows.uptoBulk]; omega
theorem bulk_bound {H : Type} {l : List (DataW H)} (hk : Rows.uptoSmall H l = true) : Rows.uptoBulkAll l ≤ 1048576 := of_decide_eq_true hk

/-- Rows of bytes that came in. -/
theorem open_byte_rows {H : Type} {enc : TypeId × Value → H} {P : Program} {w : World} {base : Nat} {held : Bool} {t e q : TypeId} {fuel : Nat} {cs : List Value} {x : DataW H × List MemPlace}
    (ht : P.underlying t = some (.slice e)) (he : P.underlying e = some (.slice q)) (hq : P.underlying q = some (.int .u8))
    (ce : P.cellsOf e = 1) (cq : P.cellsOf q = 1) (h : DataW.trod enc P w base (fun _ => true) held fuel t cs = some x) :
    ∃ (a : Option Addr) (len cap : Nat) (L : List (List UInt8)), cs = [.slice a len cap] ∧ len = L.length ∧ RdLL w a cap L ∧ L.length ≤ Rows.uptoBulk x.1 ∧ ∀ l ∈ L, l.length ≤ Rows.uptoBulk x.1 := by
  rcases open_int_rows ht he hq ce cq h with ⟨rfl, _⟩ | ⟨a, len, cap, A, Ln, C, Z, rfl, _, hl, hm, rfl, hx⟩
  · exact ⟨none, 0, 0, [], rfl, rfl, ⟨[], Rd.none w, rfl, fun i l h => by simp at h⟩, Nat.zero_le _, fun l h => by simp at h⟩
  have each : ∀ r, r < cap → ∃ l : List UInt8, Ln r = l.length ∧ Rd w (A r) (C r) (B8 l) := by
    intro r hr
    obtain ⟨_, h1, h2, h3, h4, h5, h6⟩ := hx r hr
    cases hA : A r with
    | none =>
      have := h5 hA
      exact ⟨[], by simp; omega, by rw [this]; exact Rd.none w⟩
    | some a' =>
      obtain ⟨_, hc⟩ := h6 a' hA
      exact Rd.ofBytes h1 h2 h3 (fun i hi => hc i (by omega)) h4
  obtain ⟨B, hB⟩ := choose_lt each
  obtain ⟨b1, b2⟩ := bulk_slice ((List.range len).map fun r => intRow (H := H) IntKind.u8 (A r) (Ln r) (Z r)) ((List.range (cap - len)).map fun j => intRow IntKind.u8 (A (len + j)) (Ln (len + j)) (Z (len + j)))
  refine ⟨some a, len, cap, (List.range len).map B, rfl, by simp, ⟨(List.range len).map fun r => .slice (A r) (Ln r) (C r), Rd.ofCells _ hl hm fun i hi => (hx i hi).1, by simp, ?_⟩, by simpa using b1, ?_⟩
  · intro i l hi
    have hlt : i < len := by
      have := (List.getElem?_eq_some_iff.1 hi).1
      simpa using this
    simp only [List.getElem?_map, List.getElem?_range hlt, Option.map_some, Option.some.injEq] at hi ⊢
    subst hi
    obtain ⟨e1, e2⟩ := hB i (by omega)
    exact ⟨A i, C i, by rw [e1], e2⟩
  · intro l hl'
    obtain ⟨r, hr, rfl⟩ := List.mem_map.1 hl'
    have hr := List.mem_range.1 hr
    obtain ⟨e1, e2⟩ := hB r (by omega)
    refine Nat.le_trans ?_ (b2 (intRow IntKind.u8 (A r) (Ln r) (Z r)) (List.mem_map.2 ⟨r, List.mem_range.2 hr, rfl⟩))
    rw [← e1]
    obtain ⟨_, h1, h2, h3, h4, h5, h6⟩ := hx r (by omega)
    unfold intRow
    cases hA : A r with
    | none => have := h5 hA; simp only; omega
    | some a' =>
      have := (bulk_slice (H := H) (lits IntKind.u8 ((Z r).take (Ln r))) (lits IntKind.u8 ((Z r).drop (Ln r)))).1
      simp only [lits, List.length_map, List.length_take] at this
      simp only [lits] at *
      omega
end Go.Proofs.Ytnohhhlgfnjaoaa
