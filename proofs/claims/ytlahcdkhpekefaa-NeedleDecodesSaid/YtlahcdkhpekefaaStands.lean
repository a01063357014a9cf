/- The law's own helper stands. Conditions: each contract's own premises. -/
import Derived.Test.YtlahcdkhpekefaaSame
namespace Go.Proofs.Ytlahcdkhpekefaa
open Go Go.RowKit

set_option maxHeartbeats 400000 in
/-- stands: the bytes are what they were, and the mark behind them. -/
theorem stands_any (w : World) (g cap : Nat) (a : Option Addr) (c : Nat) (l : List UInt8) (hw : Rd w (some ⟨g, 0, none⟩) cap (B8 (l ++ [171]))) (hr : Rd w a c (B8 l)) :
    Calls Try.prog 12 #[.slice (some ⟨g, 0, none⟩) (l.length + 1) cap, .slice a l.length c] w fun e w' => e = .returned (.bool true) ∧ Qt w w' := by
  have hle := hw.le
  have hcap := hw.1
  rw [B8_length, List.length_append] at hle hcap
  simp at hle hcap
  have hcell : w.cell? ⟨g, l.length, none⟩ = some (.int .u8 171) := by
    obtain ⟨b, o, hab, hc⟩ := hw.cs.b8 l.length (by simp)
    simp at hab
    obtain ⟨rfl, rfl⟩ := hab
    simpa using hc
  have hpre : Rd w (some ⟨g, 0, none⟩) cap (B8 l) := hw.pre
  go_enter Try.func12, Try.ntmps12
  go_wp2_with fail
  refine (same_any _ _ _ _ _ l l hpre hr).mono ?_
  rintro e w1 ⟨rfl, n, hn⟩
  subst hn
  have hll : (l == l) = true := by simp
  go_wp2
  go_ret
  exact ⟨rfl, n, rfl⟩
end Go.Proofs.Ytlahcdkhpekefaa
