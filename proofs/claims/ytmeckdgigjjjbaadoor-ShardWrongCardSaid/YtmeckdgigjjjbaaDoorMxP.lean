/- What functions of matrices give; make([][]byte, n). Conditions: each law's own premises. -/
import Derived.Test.YtmeckdgigjjjbaaDoorMatL
import Derived.Test.YtmeckdgigjjjbaaDoorOwnM
namespace Go.Proofs.YtmeckdgigjjjbaaDoor
open Go Go.RowKit

/-- What a function of matrices gives. -/
def MxP (w : World) (X : Mx × Nat) (e : Ending) (w' : World) : Prop := ∃ v, e = .returned (.tuple #[v, .int .i64 (X.2 : Nat)]) ∧ OwnLL w' w.heap.size 34 5 v X.1 ∧ Below w.heap.size w w'
theorem MxP.rd {w w' : World} {X : Mx × Nat} {e : Ending} (h : MxP w X e w') : ∃ a c, e = .returned (.tuple #[.slice a X.1.length c, .int .i64 (X.2 : Nat)]) ∧ RdLL w' a c X.1 ∧ Below w.heap.size w w' := by
  obtain ⟨v, rfl, ho, hb⟩ := h
  obtain ⟨a, c, rfl, hr⟩ := ho.rd
  exact ⟨a, c, rfl, hr, hb⟩
theorem MxP.mk {w w' : World} {v : Value} {L : Mx} {G : Nat} (hG : G = w.heap.size) (ho : OwnLL w' G 34 5 v L) (hb : Below G w w') : MxP w (L, 0) (.returned (.tuple #[v, .int .i64 0])) w' := by
  subst hG; exact ⟨v, rfl, ho, hb⟩
theorem MxP.no {w w' : World} (F : Nat) (hb : Below w.heap.size w w') : MxP w ([], F) (.returned (.tuple #[.slice none 0 0, .int .i64 (F : Nat)])) w' := ⟨_, rfl, OwnLL.nil _ _ _ _, hb⟩

theorem madeR (m : Nat) : (madeCells (Value.slice none 0 0).cells (m * 1)).toList = List.replicate m (.slice none 0 0) := by
  rw [Nat.mul_one]
  show (madeCells #[Value.slice none 0 0] m).toList = _
  rw [toList_madeCells_one]
/-- make([][]byte, n). -/
theorem wpList_makeR {P : Program} {w : World} {ops : Array Oper} {rest : List Oper} {o : Oper} {a : Act} {Q : Exit → Act → World → Prop} (hgd : o.guard = none) (l c : Operand) (t : TypeId) (hop : o.op = Op.makeSlice t l c) {e : TypeId} (T : ElemT P t e 1 (.slice none 0 0) 24)
    (kl kc : IntKind) (L C : Int) (n : Nat) (hl : a.eval l = .int kl L) (hc : a.eval c = .int kc C) (hL : L = (n : Int)) (hC : C = (n : Int)) (hn : n ≤ 1000000000) (tE : TypeId)
    (h : ∀ w', OwnM w' w.heap.size e tE w.heap.size n n (List.replicate n (.slice none 0 0)) (List.replicate n []) → Below w.heap.size w w' → wpList P ops Q rest (a.put o.dst (.slice (some ⟨w.heap.size, 0, none⟩) n n)) w') : wpList P ops Q (o :: rest) a w := by
  obtain ⟨i, hi, hz, hs, hb⟩ := T.hi
  refine wpList_make_full w hgd l c t hop w.heap.size e i (.slice none 0 0) 1 T.ht hi hz hs kl kc L C n hl hc hL hC (by rw [hb]; omega) (by unfold maxLen; omega) (Nat.le_refl _) ?_
  intro w' ho hg
  rw [madeR] at ho
  refine h w' ⟨ho, by simp, ?_, ?_⟩ (below_grown hg (Nat.le_refl _) (fun k h => by cases h))
  · intro j u l hu hl
    have h1 := List.eq_of_mem_replicate (List.mem_of_getElem? hu)
    have h2 := List.eq_of_mem_replicate (List.mem_of_getElem? hl)
    subst h1 h2
    exact World.ownsRow_nil _ _ _ _
  · intro i j u u' _ hu _
    have h1 := List.eq_of_mem_replicate (List.mem_of_getElem? hu)
    subst h1
    exact .inl rfl

end Go.Proofs.YtmeckdgigjjjbaaDoor
