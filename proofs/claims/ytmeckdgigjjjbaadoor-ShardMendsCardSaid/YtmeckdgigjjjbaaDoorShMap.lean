/- The map of inverses of shard's work. Conditions: each law's own premises. -/
import Derived.Test.YtmeckdgigjjjbaaDoorBegins
import Derived.WideKeyElems3
namespace Go.Proofs.YtmeckdgigjjjbaaDoor
open Go Go.RowKit Go.WideMaps

theorem A14 : ArrKey Tryd.prog 76 4 14 := ⟨Tryd.underlying76, by kernel_rfl, by kernel_rfl, by kernel_rfl⟩
/-- A key: fourteen truths. -/
def keyV (f : Nat → Bool) : Value := .agg #[.bool (f 0), .bool (f 1), .bool (f 2), .bool (f 3), .bool (f 4), .bool (f 5), .bool (f 6), .bool (f 7), .bool (f 8), .bool (f 9), .bool (f 10), .bool (f 11), .bool (f 12), .bool (f 13)]
theorem key_some (b0 b1 b2 b3 b4 b5 b6 b7 b8 b9 b10 b11 b12 b13 : Bool) : (keyOf Tryd.prog 76 (.agg #[.bool b0, .bool b1, .bool b2, .bool b3, .bool b4, .bool b5, .bool b6, .bool b7, .bool b8, .bool b9, .bool b10, .bool b11, .bool b12, .bool b13])).isSome = true := by kernel_rfl
theorem key_ok (f : Nat → Bool) : ∃ l, keyOf Tryd.prog 76 (keyV f) = some l := Option.isSome_iff_exists.1 (key_some _ _ _ _ _ _ _ _ _ _ _ _ _ _)
theorem keyV_inj {f g : Nat → Bool} (h : keyV f = keyV g) : ∀ i, i < 14 → f i = g i := by
  unfold keyV at h
  simp only [Value.agg.injEq, Array.mk.injEq, List.cons.injEq, Value.bool.injEq, and_true] at h
  intro i hi
  match i, hi with
  | 0, _ => exact h.1
  | 1, _ => exact h.2.1
  | 2, _ => exact h.2.2.1
  | 3, _ => exact h.2.2.2.1
  | 4, _ => exact h.2.2.2.2.1
  | 5, _ => exact h.2.2.2.2.2.1
  | 6, _ => exact h.2.2.2.2.2.2.1
  | 7, _ => exact h.2.2.2.2.2.2.2.1
  | 8, _ => exact h.2.2.2.2.2.2.2.2.1
  | 9, _ => exact h.2.2.2.2.2.2.2.2.2.1
  | 10, _ => exact h.2.2.2.2.2.2.2.2.2.2.1
  | 11, _ => exact h.2.2.2.2.2.2.2.2.2.2.2.1
  | 12, _ => exact h.2.2.2.2.2.2.2.2.2.2.2.2.1
  | 13, _ => exact h.2.2.2.2.2.2.2.2.2.2.2.2.2
def setL (f : Nat → Bool) (N : Nat) : List Nat := (List.range N).filter f
theorem setL_congr {f g : Nat → Bool} {N : Nat} (h : ∀ i, i < N → f i = g i) : setL f N = setL g N := by
  unfold setL
  exact List.filter_congr fun i hi => h i (List.mem_range.1 hi)
/-- An entry: the inverse of the rows of its key. -/
def EntOk (W : World) (k m : Nat) (x : MapEntry) : Prop := ∃ f : Nat → Bool, x.key = keyV f ∧ ∃ a c, x.val = .slice a k c ∧ RdLL W a c (invM (pickM k m (setL f (k + m))))
def MapI (W : World) (b k m : Nat) : Prop := ∃ es clock, W.heap[b]? = some (.map es clock) ∧ ∀ x ∈ es.toList, EntOk W k m x
theorem EntOk.kept {W W' : World} {k m : Nat} {x : MapEntry} (h : EntOk W k m x) (hb : Below W.heap.size W W') : EntOk W' k m x := by
  obtain ⟨f, h1, a, c, h2, h3⟩ := h
  exact ⟨f, h1, a, c, h2, h3.kept hb⟩
theorem MapI.keys {W : World} {k m : Nat} {es : Array MapEntry} (h : ∀ x ∈ es.toList, EntOk W k m x) : ∀ x ∈ es.toList, ∃ l, keyOf Tryd.prog 76 x.key = some l := fun x hx => by
  obtain ⟨f, h1, _⟩ := h x hx
  rw [h1]; exact key_ok f
/-- What a look-up finds: the pieces that the walk wants. -/
theorem MapI.find {W : World} {b k m : Nat} (hkm : k + m ≤ 14) (h : MapI W b k m) (f : Nat → Bool) :
    ∃ es clock, W.heap[b]? = some (.map es clock) ∧ (∀ x ∈ es.toList, EntOk W k m x) ∧ (∀ em, (Instr.checkKey em 10000 76 (keyV f)).run Tryd.prog W = .ok () W) ∧
      (((Instr.findKey 76 (keyV f) es.toList).run Tryd.prog W = .ok none W) ∨
       ∃ j a c, (Instr.findKey 76 (keyV f) es.toList).run Tryd.prog W = .ok (some (j, .slice a k c)) W ∧ RdLL W a c (invM (pickM k m (setL f (k + m))))) := by
  obtain ⟨es, clock, hb, he⟩ := h
  obtain ⟨l, hl⟩ := key_ok f
  refine ⟨es, clock, hb, he, fun em => A14.law.check W em hl, ?_⟩
  rcases A14.law.find W hl es.toList (MapI.keys he) with ⟨h1, _⟩ | ⟨j, e0, h1, h2, h3⟩
  · exact .inl h1
  · obtain ⟨g, h4, a, c, h5, h6⟩ := he e0 (List.mem_of_getElem? h2)
    refine .inr ⟨j, a, c, by rw [← h5]; exact h1, ?_⟩
    rw [setL_congr (f := f) (g := g) (fun i hi => keyV_inj (h3.symm.trans h4) i (by omega))]
    exact h6
end Go.Proofs.YtmeckdgigjjjbaaDoor
