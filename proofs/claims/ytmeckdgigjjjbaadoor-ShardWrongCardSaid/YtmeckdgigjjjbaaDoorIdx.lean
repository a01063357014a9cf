/- Where a law takes a place by 'at % n', and adds n below 0: plain laws. Conditions: none. -/
import Derived.IntWalk
namespace Go.Proofs.YtmeckdgigjjjbaaDoor
open Go

/-- 'k := at % n; if k < 0 { k = k + n }': a place. -/
theorem place_neg {at' : Int} {n : Nat} (h : at'.tmod n < 0) (hn : 0 < n) : ∃ k : Nat, k < n ∧ at'.tmod n + n = (k : Int) := by
  have := Int.lt_tmod_of_pos at' (show (0 : Int) < n by omega)
  exact ⟨(at'.tmod n + n).toNat, by omega, by omega⟩
theorem place_pos {at' : Int} {n : Nat} (h : ¬ at'.tmod n < 0) (hn : 0 < n) : ∃ k : Nat, k < n ∧ at'.tmod n = (k : Int) := by
  have := Int.tmod_lt_of_pos at' (show (0 : Int) < n by omega)
  exact ⟨(at'.tmod n).toNat, by omega, by omega⟩
theorem place (at' : Int) {n : Nat} (hn : 0 < n) : ∃ k : Nat, k < n ∧ ((at'.tmod n < 0 ∧ at'.tmod n + n = (k : Int)) ∨ (¬ at'.tmod n < 0 ∧ at'.tmod n = (k : Int))) := by
  by_cases h : at'.tmod n < 0
  · obtain ⟨k, hk, e⟩ := place_neg h hn; exact ⟨k, hk, .inl ⟨h, e⟩⟩
  · obtain ⟨k, hk, e⟩ := place_pos h hn; exact ⟨k, hk, .inr ⟨h, e⟩⟩
theorem place_wrap {at' : Int} {n : Nat} (hn : 0 < n) (hm : n ≤ 1000000000) : IntKind.i64.wrap (at'.tmod n) = at'.tmod n := by
  have h1 := Int.lt_tmod_of_pos at' (show (0 : Int) < n by omega)
  have h2 := Int.tmod_lt_of_pos at' (show (0 : Int) < n by omega)
  exact IntWalk.i64_in _ (by omega)
end Go.Proofs.YtmeckdgigjjjbaaDoor
