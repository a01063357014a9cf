/- One more decimal digit. -/
import Derived.Test.YtbigihlepdpccaaDoorFidUnhex
namespace Go.Proofs.YtbigihlepdpccaaDoor
open Go Go.RowKit
theorem step10 (A : List UInt8) (kA : ∀ x ∈ A, DOk 10 x) (i : Nat) (x : UInt8) (hx : A[i]? = some x) :
    48 ≤ x.toNat ∧ x.toNat ≤ 57 ∧ valN 10 (A.take (i + 1)) = valN 10 (A.take i) * 10 + (x.toNat - 48) := by
  obtain ⟨o1, o2, o3⟩ := kA x (List.mem_of_getElem? hx)
  have o4 : x.toNat ≤ 57 := by
    unfold dv at o3
    split at o3 <;> omega
  have o5 : dv x = x.toNat - 48 := by unfold dv; rw [if_neg (by omega)]
  have hAi : A.take (i + 1) = A.take i ++ [x] := by
    obtain ⟨h1, h2⟩ := List.getElem?_eq_some_iff.1 hx
    rw [List.take_succ_eq_append_getElem h1, h2]
  exact ⟨o1, o4, by rw [hAi, valN_snoc, o5]⟩
theorem take10_lt (A : List UInt8) (hA8 : A.length ≤ 8) (kA : ∀ x ∈ A, DOk 10 x) (i : Nat) : valN 10 (A.take i) < 10 ^ 8 := by
  have h3 := valN_lt 10 (A.take i) (fun c hc => kA c (List.mem_of_mem_take hc))
  refine Nat.lt_of_lt_of_le h3 (Nat.pow_le_pow_right (by decide) ?_)
  rw [List.length_take]; omega
theorem ten8 : 10 ^ 8 = 100000000 := by decide
theorem wrap10 (V U : Nat) (x : UInt8) (h : V * 10 + (x.toNat - 48) < 100000000) (h48 : 48 ≤ x.toNat) (hU : U = V * 10 + (x.toNat - 48)) :
    wrap64 ((V : Int) * 10) = (V : Int) * 10 ∧ wrap64 ((V : Int) * 10 + (x.toNat : Int)) = (V : Int) * 10 + (x.toNat : Int) ∧ wrap64 ((V : Int) * 10 + (x.toNat : Int) - 48) = (U : Int) ∧ (V : Int) * 10 + (x.toNat : Int) - 48 = (U : Int) := by
  obtain ⟨n, hn⟩ : ∃ n, n = x.toNat := ⟨_, rfl⟩
  rw [← hn] at h h48 hU ⊢
  refine ⟨IntWalk.wrap64_in _ (by omega), IntWalk.wrap64_in _ (by omega), ?_, by omega⟩
  rw [IntWalk.wrap64_in _ (by omega)]
  omega
end Go.Proofs.YtbigihlepdpccaaDoor
