/- Two slices of one type that grow, in two blocks. Conditions: each law's own premises. -/
import Derived.Test.YtmeckdgigjjjbaaDoorOwnM
namespace Go.Proofs.YtmeckdgigjjjbaaDoor
open Go Go.RowKit

/-- Two slices lie in two blocks. -/
def Sep (u v : Value) : Prop := u.ownBlock = none ∨ u.ownBlock ≠ v.ownBlock
theorem Sep.symm {u v : Value} (h : Sep u v) : Sep v u := by
  unfold Sep at h ⊢
  rcases h with h | h
  · rw [h]
    cases v.ownBlock with
    | none => exact .inl rfl
    | some g => exact .inr (by simp)
  · exact .inr fun e => h e.symm
theorem sep_nil (v : Value) : Sep (.slice none 0 0) v := .inl rfl
/-- Behind an append to v: u stands, and lies apart from what v became. -/
theorem sep_app {w w' : World} {base n : Nat} {e : TypeId} {u v v' : Value} {xs : List Value} (h : Sep u v) (hu : w.ownsRow base e 1 u n xs) (hg : w.grownBy w' v.ownBlock) (hat : v'.ownBlock = v.ownBlock ∨ v'.ownBlock = some w.heap.size) :
    w'.ownsRow base e 1 u n xs ∧ Sep u v' := by
  refine ⟨hu.kept hg h, ?_⟩
  rcases hat with e | e
  · unfold Sep; rw [e]; exact h
  · unfold Sep
    rw [e]
    cases hub : u.ownBlock with
    | none => exact .inl rfl
    | some g =>
      right
      intro he
      have := (hu.lt g hub).2
      have : g = w.heap.size := Option.some.inj he
      omega
end Go.Proofs.YtmeckdgigjjjbaaDoor
