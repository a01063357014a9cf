/- bytes.Equal: the contract. Conditions: its own premises. -/
import Derived.Test.YtlahcdkhpekefaaCom0
import Derived.Laws.IdiomStrings
import Derived.Laws.BytesArg
namespace Go.Proofs.Ytlahcdkhpekefaa
open Go Go.RowKit

theorem conv_bytes (w : World) (a : Option Addr) (c : Nat) (l : List UInt8) (hr : Rd w a c (B8 l)) :
    (convert 24 9 (.slice a l.length c)).run Try.prog w = .ok (.string ⟨l.toArray⟩) w := by
  cases a with
  | none =>
    have h0 := hr.2.2.1 rfl
    have h1 := hr.1
    rw [B8_length] at h1
    obtain rfl : l = [] := List.eq_nil_of_length_eq_zero (by omega)
    have := run_convert_bytes_nil (P := Try.prog) w 24 5 Try.underlying24 Try.underlying5 0 c 9 Try.underlying9
    exact this
  | some ad =>
    by_cases h0 : l.length = 0
    · obtain rfl : l = [] := List.eq_nil_of_length_eq_zero h0
      exact run_convert_bytes_back w _ _ _ ad c [] Try.underlying24 Try.underlying5 Try.underlying9 (fun j hj => by simp at hj)
    · refine run_convert_bytes_back w _ _ _ ad c l Try.underlying24 Try.underlying5 Try.underlying9 (fun j hj => ?_)
      obtain ⟨b, o, hab, hc⟩ := hr.cs.b8 j hj
      obtain rfl := Option.some.inj hab
      rw [Addr.add_lit]; exact hc

set_option maxRecDepth 100000 in
set_option maxHeartbeats 400000 in
/-- bytes.Equal. -/
theorem bytesEqual_any (w : World) (a1 a2 : Option Addr) (c1 c2 : Nat) (l m : List UInt8) (h1 : Rd w a1 c1 (B8 l)) (h2 : Rd w a2 c2 (B8 m)) (b : Bool) (hb : decide (l = m) = b) :
    Calls Try.prog 28 #[.slice a1 l.length c1, .slice a2 m.length c2] w fun e w' => e = .returned (.bool b) ∧ w = w' := by
  have k1 := conv_bytes w a1 c1 l h1
  have k2 := conv_bytes w a2 c2 m h2
  obtain ⟨s1, e1⟩ : ∃ s : ByteArray, s = ⟨l.toArray⟩ := ⟨_, rfl⟩
  obtain ⟨s2, e2⟩ : ∃ s : ByteArray, s = ⟨m.toArray⟩ := ⟨_, rfl⟩
  rw [← e1] at k1
  rw [← e2] at k2
  have hs : (s1.toList == s2.toList) = b := by
    rw [← hb, e1, e2, ByteArray.toList_eq, ByteArray.toList_eq]
    by_cases h : l = m
    · rw [h]; simp
    · simp [h]
  have HS := Lib.hid hs
  clear e1 e2 hs hb h1 h2
  go_enter Try.func28, Try.ntmps28
  go_wp2
  go_ret
  exact ⟨ret_bool HS.out, rfl⟩
end Go.Proofs.Ytlahcdkhpekefaa
