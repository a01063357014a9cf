/- needle's Size and the document's: the contracts. Conditions: the number fits an int. -/
import Derived.Test.YtlahcdkhpekefaaCom0
namespace Go.Proofs.Ytlahcdkhpekefaa
open Go Go.RowKit

/-- How many bytes a needle takes. -/
def sizeZ (n : Int) : Int := if n < 0 then 32 else if 65536 < n then 65568 else (n + 35) / 8 * 8
theorem sizeZ_neg {n : Int} (h : n < 0) : sizeZ n = 32 := if_pos h
theorem sizeZ_big {n : Int} (h : 65536 < n) : sizeZ n = 65568 := by unfold sizeZ; rw [if_neg (by omega), if_pos h]
theorem sizeZ_mid {n : Int} (h0 : 0 ≤ n) (h : n ≤ 65536) : sizeZ n = (n + 35) / 8 * 8 := by unfold sizeZ; rw [if_neg (by omega), if_neg (by omega)]

set_option maxRecDepth 100000 in
set_option maxHeartbeats 400000 in
theorem size_any (n : Int) (w : World) :
    Calls Try.prog 13 #[.int .i64 n] w fun e w' => e = .returned (.int .i64 (sizeZ n)) ∧ w = w' := by
  by_cases h0 : n < 0
  · have hs := sizeZ_neg h0
    go_enter Try.func13, Try.ntmps13
    go_wp2
    go_ret
    exact ⟨ret_int hs.symm, rfl⟩
  · by_cases h1 : 65536 < n
    · have hs := Lib.hid (sizeZ_big h1)
      have h2 : ¬ n ≤ 65536 := by omega
      have h3 : ¬ n < 65536 := by omega
      go_enter Try.func13, Try.ntmps13
      go_wp2
      go_ret
      exact ⟨ret_int hs.out.symm, rfl⟩
    · have hs := Lib.hid (sizeZ_mid (by omega) (by omega : n ≤ 65536))
      have h2 : n ≤ 65536 := by omega
      have h3 : 0 ≤ n := by omega
      go_enter Try.func13, Try.ntmps13
      go_wp2
      all_goals
        go_ret
        exact ⟨ret_int (by rw [hs.out]; omega), rfl⟩

set_option maxRecDepth 100000 in
set_option maxHeartbeats 400000 in
theorem refSize_any (n : Int) (w : World) :
    Calls Try.prog 15 #[.int .i64 n] w fun e w' => e = .returned (.int .i64 (sizeZ n)) ∧ w = w' := by
  by_cases h0 : n < 0
  · have hs := sizeZ_neg h0
    go_enter Try.func15, Try.ntmps15
    go_wp2
    go_ret
    exact ⟨ret_int hs.symm, rfl⟩
  · by_cases h1 : 65536 < n
    · have hs := Lib.hid (sizeZ_big h1)
      have h2 : ¬ n ≤ 65536 := by omega
      have h3 : ¬ n < 65536 := by omega
      go_enter Try.func15, Try.ntmps15
      go_wp2
      go_ret
      exact ⟨ret_int hs.out.symm, rfl⟩
    · have hs := Lib.hid (sizeZ_mid (by omega) (by omega : n ≤ 65536))
      have h2 : n ≤ 65536 := by omega
      have h3 : 0 ≤ n := by omega
      go_enter Try.func15, Try.ntmps15
      go_wp2
      all_goals
        go_ret
        exact ⟨ret_int (by rw [hs.out]; omega), rfl⟩
end Go.Proofs.Ytlahcdkhpekefaa
