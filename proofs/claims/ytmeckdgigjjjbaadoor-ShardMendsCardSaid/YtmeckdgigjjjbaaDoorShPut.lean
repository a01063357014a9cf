/- The map of inverses: the look-up and the store. Conditions: each law's own premises. -/
import Derived.Test.YtmeckdgigjjjbaaDoorShMap
import Derived.Maps.OwnSet
namespace Go.Proofs.YtmeckdgigjjjbaaDoor
open Go Go.RowKit Go.WideMaps Go.ChangeMaps

theorem mapT : Tryd.prog.underlying 60 = some (.map 76 22) := by kernel_rfl
theorem MapI.lt {W : World} {b k m : Nat} (h : MapI W b k m) : b < W.heap.size := by
  obtain ⟨es, clock, hb, _⟩ := h
  exact (Array.getElem?_eq_some_iff.1 hb).1
theorem MapI.kept {W W' : World} {b k m : Nat} (h : MapI W b k m) (hb : Below W.heap.size W W') : MapI W' b k m := by
  have hlt := h.lt
  obtain ⟨es, clock, h1, h2⟩ := h
  exact ⟨es, clock, by rw [hb.block b hlt]; exact h1, fun x hx => (h2 x hx).kept hb⟩
/-- 'v, ok := m[k]'. -/
theorem MapI.look {W : World} {b k m : Nat} (hkm : k + m ≤ 14) (h : MapI W b k m) (f : Nat → Bool) :
    ((Instr.lookup 60 (.map (some b)) (keyV f) true).run Tryd.prog W = .ok (.tuple #[.slice none 0 0, .bool false]) W) ∨
    ∃ a c, (Instr.lookup 60 (.map (some b)) (keyV f) true).run Tryd.prog W = .ok (.tuple #[.slice a k c, .bool true]) W ∧ RdLL W a c (invM (pickM k m (setL f (k + m)))) := by
  obtain ⟨es, clock, hb, _, hc, h1⟩ := h.find hkm f
  have hz : (zeroValue 22).run Tryd.prog W = .ok (.slice none 0 0) W := by
    kernel_rfl
  rcases h1 with h1 | ⟨j, a, c, h1, h2⟩
  · exact .inl (by simp [Instr.lookup, run_underlying mapT, MapKept.run_getObj_map hb, hc, h1, hz, Result.andThen])
  · exact .inr ⟨a, c, by simp [Instr.lookup, run_underlying mapT, MapKept.run_getObj_map hb, hc, h1, Result.andThen], h2⟩
/-- Cells stand where a map's block is written. -/
theorem cell_setMap {W : World} {b : Nat} {es es' : Array MapEntry} {c c' : Nat} (hb : W.heap[b]? = some (.map es c)) {p : Addr} {u : Value} (h : W.cell? p = some u) : (setBlock W b (.map es' c')).cell? p = some u := by
  have hne : p.block ≠ b := by
    intro e
    subst e
    simp [World.cell?, hb] at h
  unfold World.cell? at h ⊢
  rw [heap_setBlock_other hb _ hne]
  exact h
theorem Rd.setMap {W : World} {b : Nat} {es es' : Array MapEntry} {k k' : Nat} (hb : W.heap[b]? = some (.map es k)) {a : Option Addr} {c : Nat} {xs : List Value} (h : Rd W a c xs) : Rd (setBlock W b (.map es' k')) a c xs := by
  refine ⟨h.1, h.2.1, h.2.2.1, fun j u hu => ?_⟩
  obtain ⟨b0, o, h1, h2⟩ := h.cs j u hu
  exact ⟨b0, o, h1, cell_setMap hb h2⟩
theorem RdLL.setMap {W : World} {b : Nat} {es es' : Array MapEntry} {k k' : Nat} (hb : W.heap[b]? = some (.map es k)) {a : Option Addr} {c : Nat} {L : Mx} (h : RdLL W a c L) : RdLL (setBlock W b (.map es' k')) a c L := by
  obtain ⟨vs, h1, h2, h3⟩ := h
  refine ⟨vs, h1.setMap hb, h2, fun i l hl => ?_⟩
  obtain ⟨ad, cd, h4, h5⟩ := h3 i l hl
  exact ⟨ad, cd, h4, h5.setMap hb⟩
theorem below_setMap {W : World} {b : Nat} {es es' : Array MapEntry} {c c' : Nat} (hb : W.heap[b]? = some (.map es c)) {B : Nat} {w0 : World} (h : Below B w0 W) (hB : B ≤ b) : Below B w0 (setBlock W b (.map es' c')) := by
  have hlt := (Array.getElem?_eq_some_iff.1 hb).1
  refine h.trans (below_grown (World.mapTurned.grown ⟨es, c, es', c', hb, rfl⟩) (by omega) (fun k hk => ?_))
  cases hk; exact hB
/-- 'm[k] = v'. -/
theorem MapI.put {W : World} {b k m : Nat} (h : MapI W b k m) (f : Nat → Bool) (a : Option Addr) (c : Nat) (hr : RdLL W a c (invM (pickM k m (setL f (k + m))))) :
    ∃ es' clock' es clock, W.heap[b]? = some (.map es clock) ∧ (Instr.mapUpdate 60 (.map (some b)) (keyV f) (.slice a k c)).run Tryd.prog W = .ok () (setBlock W b (.map es' clock')) ∧ MapI (setBlock W b (.map es' clock')) b k m := by
  obtain ⟨es, clock, hb, he⟩ := h
  obtain ⟨l, hl⟩ := key_ok f
  have hc : ∀ em, (Instr.checkKey em 10000 76 (keyV f)).run Tryd.prog W = .ok () W := fun em => A14.law.check W em hl
  have hold : ∀ {es' : Array MapEntry} {c' : Nat}, ∀ x, EntOk W k m x → EntOk (setBlock W b (.map es' c')) k m x := fun x ⟨g, h1, a', c', h2, h3⟩ => ⟨g, h1, a', c', h2, h3.setMap hb⟩
  have hnew : ∀ {es' : Array MapEntry} {c' : Nat} (born : Nat), EntOk (setBlock W b (.map es' c')) k m ⟨keyV f, .slice a k c, born⟩ := fun born => ⟨f, rfl, a, c, rfl, hr.setMap hb⟩
  rcases A14.law.find W hl es.toList (MapI.keys he) with ⟨h1, _⟩ | ⟨j, e0, h1, h2, h3⟩
  · refine ⟨es.push ⟨keyV f, .slice a k c, clock⟩, clock + 1, es, clock, hb, by simp [Instr.mapUpdate, run_underlying mapT, MapKept.run_getObj_map hb, hc, h1, MapKept.run_setObj_map _ hb, Result.andThen, setBlock], _, _, heap_setBlock_same hb _, fun x hx => ?_⟩
    simp only [Array.toList_push, List.mem_append, List.mem_singleton] at hx
    rcases hx with hx | rfl
    · exact hold x (he x hx)
    · exact hnew _
  · have hj : es[j]? = some e0 := by simpa using h2
    refine ⟨es.modify j (fun e' => { e' with key := keyV f, val := .slice a k c }), clock, es, clock, hb, by simp [Instr.mapUpdate, run_underlying mapT, MapKept.run_getObj_map hb, hc, h1, hj, h3, A14.law.stays W hl, MapKept.run_setObj_map _ hb, Result.andThen, setBlock], _, _, heap_setBlock_same hb _, fun x hx => ?_⟩
    rw [Array.toList_modify, modify_eq_set _ _ _ _ h2] at hx
    rcases List.mem_or_eq_of_mem_set hx with hx | rfl
    · exact hold x (he x hx)
    · exact hnew _
end Go.Proofs.YtmeckdgigjjjbaaDoor
