/- A byte that is turned into another one. Plain. Conditions: none. -/
import Derived.Test.YtbigihlepdpccaaDoorCom0
namespace Go.Proofs.YtbigihlepdpccaaDoor
open Go Go.RowKit

theorem xor_ne (a b : UInt8) (h : b ≠ 0) : a ^^^ b ≠ a := by
  intro e
  apply h
  have := congrArg (a ^^^ ·) e
  simp only [← UInt8.xor_assoc, UInt8.xor_self, UInt8.zero_xor] at this
  exact this
/-- The byte that is turned by: 1 where none is given. -/
theorem flip_byte (b : UInt8) : ∃ x : UInt8, (((b.toNat : Int) == 0) = true ∧ x = 1 ∨ ((b.toNat : Int) == 0) = false ∧ x = b) ∧ x ≠ 0 := by
  by_cases h : b = 0
  · exact ⟨1, .inl ⟨by rw [h]; rfl, rfl⟩, by decide⟩
  · refine ⟨b, .inr ⟨?_, rfl⟩, h⟩
    rw [beq_eq_false_iff_ne]; intro e; apply h; apply UInt8.toNat_inj.1; have : (0 : UInt8).toNat = 0 := rfl; omega
end Go.Proofs.YtbigihlepdpccaaDoor
