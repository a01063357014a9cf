/- What get gives, by its length. Plain. Conditions: each law's own premises. -/
import Derived.Test.YteenbobblbehoaaPut0
namespace Go.Proofs.Yteenbobblbehoaa
open Go Go.RowKit

theorem getF_ge (l : List UInt8) (n : Nat) (h : n ≤ l.length) : getF l n = (getN (l.take n), 0) := by unfold getF; rw [if_neg (by omega)]
theorem getF_ls (l : List UInt8) (n : Nat) (h : l.length < n) : getF l n = (0, 2) := by unfold getF; rw [if_pos h]
theorem getN_lt4 (l : List UInt8) (h : 4 ≤ l.length) : getN (l.take 4) < 4294967296 := by
  have := getN_lt (l.take 4)
  rw [List.length_take, Nat.min_eq_left h] at this
  exact this
end Go.Proofs.Yteenbobblbehoaa
