/- fsm's change, freeze, place: the contracts. Conditions: each contract's own premises. -/
import Derived.Test.YteenbobblbehoaaFsmKeeps
import Derived.BigQuiet
import Derived.Deep.QuietTactic
import Derived.Deep.Cut
import Derived.Deep.CutRange
namespace Go.Proofs.Yteenbobblbehoaa
open Go Go.RowKit

theorem ofL_some {L : List Vl} {id : Int} {V : Vl} (h : ofL L id = some V) : ∃ i : Nat, id = (i : Int) + 1 ∧ L[i]? = some V ∧ (id - 1).toNat = i := by
  unfold ofL at h
  split at h
  · exact ⟨(id - 1).toNat, by omega, h, rfl⟩
  · cases h

theorem nodes_far {w : World} {b o c p i m cn : Nat} {V : Vl} {an : Option Addr} {id ep st : Int} {nodes : List Int} (hr : Rd w (some ⟨b, o, none⟩) c (BI (id :: ep :: st :: nodes))) (hB : BlkV w p 65 (rowC i V an m cn)) : nodes ≠ [] → b ≠ p := by
  rintro hne rfl
  cases nodes with
  | nil => exact hne rfl
  | cons x r =>
    have h : ∀ k, k < 4 → ∃ z, (rowC i V an m cn)[o + k]? = some (.int .i64 z) := by
      intro k hk
      obtain ⟨b', o', hab, u⟩ := hr.cs.bi k (by simp; omega)
      cases hab
      rw [hB.cell] at u
      exact ⟨_, u⟩
    have hlt : ∀ k, k < 4 → o + k < 7 := by
      intro k hk
      obtain ⟨z, hz⟩ := h k hk
      have := (Array.getElem?_eq_some_iff.1 hz).1
      simpa [rowC] using this
    have h3 := hlt 3 (by omega)
    obtain ⟨z, hz⟩ := h (3 - o) (by omega)
    rw [show o + (3 - o) = 3 by omega] at hz
    simp [rowC] at hz
/-- The end of a change. -/
theorem change_end {w w3 W5 : World} {F : Nat → Prop} {t p i m c3 B : Nat} {L : List Vl} {V : Vl} {a3 : Option Addr} {e1 st : Int} {nodes : List Int} {fr : Bool} {cs3 : Array Value} (hm : m = nodes.length) (hFp : F p)
    (h6 : ∀ w' V' F', (∀ k, F k → F' k) → Off (· = p) w w' → VlR w' F' p i V' → TabI w' F' t (L.set i V'))
    (hO3 : Off (· = p) w w3) (ho3 : w3.ownsRow B 3 1 (.slice a3 m c3) m (BI nodes)) (hB : w.heap.size ≤ B) (hB3 : BlkV w3 p 65 cs3) (hO5 : Off (· = p) w3 W5)
    (hB5 : BlkV W5 p 65 #[.int .i64 ((i : Int) + 1), .int .i64 st, .int .i64 e1, .slice a3 m c3, .bool fr, .int .i64 0, .int .i64 V.key]) {g : Nat} (hg : g = W5.heap.size) :
    AnsP w F t (([e1], 0), setL L ((i : Int) + 1) ⟨st, e1, nodes, fr, V.key⟩) (.returned (.tuple #[.slice (some ⟨g, 0, none⟩) 1 1, .int .i64 0])) (W5.alloc (.cells #[.int .i64 e1] 3)) := by
  subst hg
  obtain ⟨a', c', hv', hR3⟩ := TRd.ofOwn ho3
  simp only [Value.slice.injEq, true_and] at hv'
  obtain ⟨rfl, rfl⟩ := hv'
  have hab : ∀ b o, a3 = some ⟨b, o, none⟩ → w.heap.size ≤ b := by
    intro b o e
    subst e
    rcases ho3.2 with ⟨e, _⟩ | ⟨g, cap, cur, hv, hb, _⟩
    · simp at e
    · simp only [Value.slice.injEq, Option.some.injEq, Addr.mk.injEq] at hv
      omega
  have hR5 : TRd W5 3 a3 c3 (BI nodes) := hR3.off hO5 (hB3.type (by decide))
  have hO := hO3.then hO5
  have hset : setL L ((i : Int) + 1) ⟨st, e1, nodes, fr, V.key⟩ = L.set i ⟨st, e1, nodes, fr, V.key⟩ := by
    unfold setL
    rw [show ((i : Int) + 1 - 1).toNat = i by omega]
  have hTab : TabI W5 (fun k => F k ∨ w.heap.size ≤ k) t (L.set i ⟨st, e1, nodes, fr, V.key⟩) :=
    h6 W5 _ _ (fun k h => .inl h) hO ⟨a3, c3, hm ▸ hB5, hR5, fun b o _ e => .inr (hab b o e)⟩
  rw [hset]
  refine ⟨some ⟨W5.heap.size, 0, none⟩, 1, rfl, ?_, ?_, ?_⟩
  · exact World.ownsRow_lit (e := 3) (size := 1) W5 #[.int .i64 e1] 1 hO.size (by unfold maxLen; omega) rfl
  · refine TabI.kept (hTab.mono fun k h hk => h.elim .inl fun h => .inr ⟨h, fun o e => ?_⟩) ((Below.refl _ _).alloc (Nat.le_refl _) _)
    simp only [Option.some.injEq, Addr.mk.injEq] at e
    omega
  · refine (hO.mono fun k h hk => ?_).below ((Below.refl _ _).alloc (Nat.le_refl _) _)
    rw [h]; exact hFp

end Go.Proofs.Yteenbobblbehoaa
