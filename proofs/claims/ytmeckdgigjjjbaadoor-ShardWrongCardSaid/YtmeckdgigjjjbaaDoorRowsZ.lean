/- An argument of rows of bytes: what it reads as, and the reach of each row. Conditions: each law's own premises. -/
import Derived.Test.YtmeckdgigjjjbaaDoorOwnL
import Derived.SizedLaws
import Derived.Deep.Matrix
import Derived.ProofKit
import Derived.OpenShut
namespace Go.Proofs.YtmeckdgigjjjbaaDoor
open Go Go.RowKit Go.ChangeShapes Go.WideShapes Go.Deep

theorem weights_all_mem {H : Type} {P : Program} {e : TypeId} {d : DataW H} : ∀ {l : List (DataW H)}, d ∈ l → ∀ n ∈ d.weights P e, n ∈ DataW.weightsAll P e l
  | [], h, _, _ => by cases h
  | x :: r, h, n, hn => by
    simp only [DataW.weightsAll, List.mem_append]
    rcases List.mem_cons.1 h with e1 | e1
    · subst e1; exact Or.inl hn
    · exact Or.inr (weights_all_mem e1 n hn)

/-- Rows of bytes that came in. -/
theorem open_byte_rowsZ {H : Type} {enc : TypeId × Value → H} {P : Program} {w : World} {base : Nat} {held : Bool} {t e q : TypeId} {fuel : Nat} {cs : List Value} {x : DataW H × List MemPlace}
    (ht : P.underlying t = some (.slice e)) (he : P.underlying e = some (.slice q)) (hq : P.underlying q = some (.int .u8))
    (ce : P.cellsOf e = 1) (cq : P.cellsOf q = 1) (be : P.bytesOf e = 24) (bq : P.bytesOf q = 1) (h : DataW.trod enc P w base (fun _ => true) held fuel t cs = some x) (hS : ∀ n ∈ x.1.weights P t, n ≤ reachBytes) :
    ∃ (a : Option Addr) (len cap : Nat) (L : List (List UInt8)), cs = [.slice a len cap] ∧ len = L.length ∧ RdLL w a cap L ∧ (L.length ≤ 140737488351232 ∧ ∀ l ∈ L, l.length ≤ 140737488351232) := by
  rcases open_int_rows ht he hq ce cq h with ⟨rfl, _⟩ | ⟨a, len, cap, A, Ln, C, Z, rfl, _, hl, hm, rfl, hx⟩
  · exact ⟨none, 0, 0, [], rfl, rfl, ⟨[], Rd.none w, rfl, fun i l h => by simp at h⟩, Nat.zero_le _, fun l h => by simp at h⟩
  have each : ∀ r, r < cap → ∃ l : List UInt8, Ln r = l.length ∧ Rd w (A r) (C r) (B8 l) := by
    intro r hr
    obtain ⟨_, h1, h2, h3, h4, h5, h6⟩ := hx r hr
    cases hA : A r with
    | none =>
      have := h5 hA
      exact ⟨[], by simp; omega, by rw [this]; exact Rd.none w⟩
    | some a' =>
      obtain ⟨_, hc⟩ := h6 a' hA
      exact Rd.ofBytes h1 h2 h3 (fun i hi => hc i (by omega)) h4
  obtain ⟨B, hB⟩ := choose_lt each
  have hlen : len ≤ 140737488351232 := by
    have := hS ((((List.range len).map fun r => intRow (H := H) IntKind.u8 (A r) (Ln r) (Z r)).length + ((List.range (cap - len)).map fun j => intRow (H := H) IntKind.u8 (A (len + j)) (Ln (len + j)) (Z (len + j))).length) * P.bytesOf e) (by simp [DataW.weights, ht])
    rw [be] at this
    simp only [List.length_map, List.length_range, reachBytes] at this
    omega
  refine ⟨some a, len, cap, (List.range len).map B, rfl, by simp, ⟨(List.range len).map fun r => .slice (A r) (Ln r) (C r), Rd.ofCells _ hl hm fun i hi => (hx i hi).1, by simp, ?_⟩, by simpa using hlen, ?_⟩
  · intro i l hi
    have hlt : i < len := by
      have := (List.getElem?_eq_some_iff.1 hi).1
      simpa using this
    simp only [List.getElem?_map, List.getElem?_range hlt, Option.map_some, Option.some.injEq] at hi ⊢
    subst hi
    obtain ⟨e1, e2⟩ := hB i (by omega)
    exact ⟨A i, C i, by rw [e1], e2⟩
  · intro l hl'
    obtain ⟨r, hr, rfl⟩ := List.mem_map.1 hl'
    have hr := List.mem_range.1 hr
    obtain ⟨e1, e2⟩ := hB r (by omega)
    rw [← e1]
    obtain ⟨_, h1, h2, h3, h4, h5, h6⟩ := hx r (by omega)
    cases hA : A r with
    | none => have := h5 hA; omega
    | some a' =>
      have hmem : intRow (H := H) IntKind.u8 (A r) (Ln r) (Z r) ∈ (List.range len).map fun r => intRow (H := H) IntKind.u8 (A r) (Ln r) (Z r) := List.mem_map.2 ⟨r, List.mem_range.2 hr, rfl⟩
      have hw : ((lits (H := H) IntKind.u8 ((Z r).take (Ln r))).length + (lits (H := H) IntKind.u8 ((Z r).drop (Ln r))).length) * P.bytesOf q ∈ (intRow (H := H) IntKind.u8 (A r) (Ln r) (Z r)).weights P e := by
        unfold intRow
        rw [hA]
        simp [DataW.weights, he]
      have h7 := hS _ (by
        simp only [DataW.weights, ht]
        exact List.mem_cons_of_mem _ (List.mem_append_left _ (weights_all_mem hmem _ hw)))
      rw [bq] at h7
      simp only [lits, List.length_map, List.length_take, List.length_drop, reachBytes] at h7
      omega
end Go.Proofs.YtmeckdgigjjjbaaDoor
