/- Blocks of values (structs) that are known whole: a store of all, results that lie in one. Conditions: each law's own premises. -/
import Derived.Test.YteenbobblbehoaaMem
import Derived.Laws.Rows
import Derived.Laws.CopyOwn
namespace Go.Proofs.Yteenbobblbehoaa
open Go Go.RowKit

/-- A block that is known whole: 't' is its type. -/
def BlkV (w : World) (g : Nat) (t : TypeId) (cs : Array Value) : Prop := w.heap[g]? = some (.cells cs t (0, 0))
theorem BlkV.lt {w : World} {g : Nat} {t : TypeId} {cs : Array Value} (h : BlkV w g t cs) : g < w.heap.size := (Array.getElem?_eq_some_iff.1 h).1
theorem BlkV.at {w w' : World} {g B : Nat} {t : TypeId} {cs : Array Value} (h : BlkV w g t cs) (hb : Below B w w') (hg : g < B) : BlkV w' g t cs := by
  unfold BlkV at h ⊢
  rw [hb.block g hg]; exact h
theorem BlkV.below {w w' : World} {g : Nat} {t : TypeId} {cs : Array Value} (h : BlkV w g t cs) (hb : Below w.heap.size w w') : BlkV w' g t cs := h.at hb h.lt
theorem BlkV.cell {w : World} {g : Nat} {t : TypeId} {cs : Array Value} (h : BlkV w g t cs) (j : Nat) : w.cell? ⟨g, j, none⟩ = cs[j]? := cell_of_row w g j cs t _ h
theorem BlkV.frozen {w : World} {g : Nat} {t : TypeId} {cs : Array Value} (h : BlkV w g t cs) (j : Nat) : w.frozen? ⟨g, j, none⟩ = false := by
  simp [World.frozen?, show w.heap[g]? = _ from h]
theorem BlkV.new (w : World) (t : TypeId) (cs : Array Value) : BlkV (w.alloc (.cells cs t)) w.heap.size t cs := heap_alloc_new w _
theorem BlkV.alloc {w : World} {g : Nat} {t : TypeId} {cs : Array Value} (h : BlkV w g t cs) (o : Obj) : BlkV (w.alloc o) g t cs := h.below ((Below.refl _ _).alloc (Nat.le_refl _) _)
theorem BlkV.set {w : World} {g : Nat} {t : TypeId} {cs : Array Value} (h : BlkV w g t cs) (j : Nat) (v : Value) : BlkV (w.setCell ⟨g, j, none⟩ v) g t (cs.setIfInBounds j v) := by
  unfold BlkV at h ⊢
  rw [setCell_eq_setRow w g j cs t (0, 0) v h]
  exact setRow_heap w g cs _ t (0, 0) h
theorem BlkV.far {w : World} {g g' : Nat} {t : TypeId} {cs : Array Value} (h : BlkV w g t cs) (hne : g ≠ g') (j : Nat) (v : Value) : BlkV (w.setCell ⟨g', j, none⟩ v) g t cs := by
  unfold BlkV at h ⊢
  rw [Below.heap_setCell w ⟨g', j, none⟩ v g hne]; exact h

theorem own_len {w : World} {base : Nat} {e : TypeId} {sz : Nat} {v : Value} {n m : Nat} {xs : List Value} (h : w.ownsRow base e sz v n xs) (hn : n = m) : w.ownsRow base e sz v m xs := hn ▸ h
/-- What is owned in blocks from base on stands where the blocks from base on do. -/
theorem own_same {w w' : World} {base : Nat} {e : TypeId} {sz : Nat} {v : Value} {n : Nat} {xs : List Value} (h : w.ownsRow base e sz v n xs) (hh : ∀ k, base ≤ k → w'.heap[k]? = w.heap[k]?) : w'.ownsRow base e sz v n xs := by
  refine ⟨h.1, ?_⟩
  rcases h.2 with h' | ⟨g, cap, cur, hv, hg, hhp, r⟩
  · exact .inl h'
  · exact .inr ⟨g, cap, cur, hv, hg, by rw [hh g hg]; exact hhp, r⟩
theorem own_setFar {w : World} {base : Nat} {e : TypeId} {sz : Nat} {v : Value} {n : Nat} {xs : List Value} (h : w.ownsRow base e sz v n xs) {g : Nat} (hg : g < base) (j : Nat) (u : Value) : (w.setCell ⟨g, j, none⟩ u).ownsRow base e sz v n xs :=
  own_same h fun k hk => Below.heap_setCell w ⟨g, j, none⟩ u k (by show k ≠ g; omega)

/-- A struct type of so many one-cell fields. -/
structure StrT (P : Program) (t : TypeId) (n : Nat) : Prop where
  info : ∃ i, P.info? t = some i ∧ i.size = n
  under : ∃ f, P.underlying t = some (.struct f)

section
variable {P : Program} {w : World} {ops : Array Oper} {rest : List Oper} {o : Oper} {a : Act} {Q : Exit → Act → World → Prop} {t : TypeId} {n : Nat}
/-- A whole struct stored. -/
theorem wpList_storeV (hgd : o.guard = none) (dst : Option Tmp) (hdst : o.dst = dst) (x y : Operand) (ho : o.op = .store t x y) (T : StrT P t n)
    (g : Nat) (c0 cs : Array Value) (hx : a.eval x = .pointer (some ⟨g, 0, none⟩)) (hy : a.eval y = .agg cs) (hg : BlkV w g t c0) (h0 : c0.size = n) (hl : cs.size = n) (h1 : cs.all (·.oneCell') = true)
    (h : ∀ w', BlkV w' g t cs → (∀ B w0, Below B w0 w → B ≤ g → Below B w0 w') → (∀ k, k ≠ g → w'.heap[k]? = w.heap[k]?) → wpList P ops Q rest (a.put dst undef) w') : wpList P ops Q (o :: rest) a w := by
  subst hdst
  obtain ⟨i, hi, hs⟩ := T.info
  refine wpList_store_row hgd t x y ho g cs hx hy t c0 hg (by rw [hi]; simp [hs, hl]) (by omega) h1 ?_
  exact h _ (setRow_heap w g _ _ t _ hg) (fun B w0 hb hB => below_setRow hb hB _) (fun k hk => setRow_other w g k _ hk)
/-- A whole struct read. -/
theorem wpList_loadV (hgd : o.guard = none) (dst : Option Tmp) (hdst : o.dst = dst) (x : Operand) (ho : o.op = .load t x) (T : StrT P t n)
    (g : Nat) (cs : Array Value) (hx : a.eval x = .pointer (some ⟨g, 0, none⟩)) (hg : BlkV w g t cs) (hl : cs.size = n)
    (h : wpList P ops Q rest (a.put dst (.agg cs)) w) : wpList P ops Q (o :: rest) a w := by
  subst hdst
  obtain ⟨i, hi, hs⟩ := T.info
  obtain ⟨f, hf⟩ := T.under
  exact wpList_load_row hgd t x ho g hx t cs (0, 0) _ hg hf rfl (by rw [hi]; simp [hs, hl]) h
end

section
variable {P : Program} {fn : Func} {p q r : Tmp} {t : TypeId} {n : Nat} {tmps : Array Value} {w : World} {g : Nat} {cs : Array Value} {v2 v3 : Value}
theorem results_cell1 (h : fn.results = #[.cell p t]) (T : StrT P t n) (hp : tmps.getD p undef = .pointer (some ⟨g, 0, none⟩)) (hg : BlkV w g t cs) (hl : cs.size = n) :
    (results fn tmps).run P w = .ok (.agg cs) w := by
  obtain ⟨i, hi, hs⟩ := T.info
  obtain ⟨f, hf⟩ := T.under
  exact results_cell_row h tmps w g t cs (0, 0) _ hp hg hf rfl (by rw [hi]; simp [hs, hl])
theorem results_cell2 (h : fn.results = #[.cell p t, .tmp q]) (T : StrT P t n) (hp : tmps.getD p undef = .pointer (some ⟨g, 0, none⟩)) (hq : tmps.getD q undef = v2) (hg : BlkV w g t cs) (hl : cs.size = n) :
    (results fn tmps).run P w = .ok (.tuple #[.agg cs, v2]) w := by
  obtain ⟨i, hi, hs⟩ := T.info
  obtain ⟨f, hf⟩ := T.under
  have hp' : tmps[p]?.getD undef = .pointer (some ⟨g, 0, none⟩) := by simpa using hp
  have hq' : tmps[q]?.getD undef = v2 := by simpa using hq
  simp [results, h, hp', hq', asAddr, run_loadVar_row w g t t cs (0, 0) _ hg hf rfl (by rw [hi]; simp [hs, hl])]
theorem results_cell3 (h : fn.results = #[.cell p t, .tmp q, .tmp r]) (T : StrT P t n) (hp : tmps.getD p undef = .pointer (some ⟨g, 0, none⟩)) (hq : tmps.getD q undef = v2) (hr : tmps.getD r undef = v3) (hg : BlkV w g t cs) (hl : cs.size = n) :
    (results fn tmps).run P w = .ok (.tuple #[.agg cs, v2, v3]) w := by
  obtain ⟨i, hi, hs⟩ := T.info
  obtain ⟨f, hf⟩ := T.under
  have hp' : tmps[p]?.getD undef = .pointer (some ⟨g, 0, none⟩) := by simpa using hp
  have hq' : tmps[q]?.getD undef = v2 := by simpa using hq
  have hr' : tmps[r]?.getD undef = v3 := by simpa using hr
  simp [results, h, hp', hq', hr', asAddr, run_loadVar_row w g t t cs (0, 0) _ hg hf rfl (by rw [hi]; simp [hs, hl])]
end
end Go.Proofs.Yteenbobblbehoaa
