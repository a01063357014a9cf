/- known: a number, a sum, a turn. Conditions: none. -/
import Derived.Test.YtelmjcalacdncaaSum
import Derived.Test.YtelmjcalacdncaaVar
import Derived.Test.YtelmjcalacdncaaTurn
import Derived.Lib.SlBytesConst
namespace Go.Proofs.Ytelmjcalacdncaa
open Go Go.RowKit

theorem known_uv (w : World) : Calls Try.prog 24 #[.int .u64 300] w fun e w' => ∃ r, e = .returned r ∧ w'.ownsRow w.heap.size 5 1 r 2 (B8 [172, 2]) ∧ Below w.heap.size w w' := by
  have h := uvarint_any 300 w
  have e : uv (300 : UInt64).toNat = [172, 2] := by decide
  rw [e] at h
  exact h
theorem known_turn (w : World) : Calls Try.prog 20 #[.int .u32 2147483649, .int .i64 1] w fun e w' => e = .returned (.int .u32 3) ∧ w' = w := by
  have h := turn_any 2147483649 1 w
  have e : ((turn 2147483649 1).toNat : Int) = 3 := by decide +kernel
  rw [e] at h
  exact h
theorem crc_known : crc [49, 50, 51, 52, 53, 54, 55, 56, 57] = 3421780262 := by decide +kernel

set_option maxRecDepth 100000 in
set_option maxHeartbeats 400000 in
theorem known_any (w : World) : Calls Try.prog 15 #[] w fun e w' => e = .returned (.bool true) ∧ Below w.heap.size w w' := by
  have kc := fun (w : World) (C : Array Value) (n c : Nat) => Lib.run_convert_bytes_const (P := Try.prog) w 22 5 C n c Try.underlying22 Try.underlying5
  go_enter Try.func15, Try.ntmps15
  go_wp2_with fail
  refine (known_uv _).mono ?_
  rintro e w1 ⟨r, rfl, ho, hb⟩
  obtain ⟨a, cap, rfl, hrd⟩ := Rd.ofOwn ho
  clear ho
  go_wp2_with fail
  refine (same_true _ _ _ _ _ [172, 2] (hrd.kept ((Below.refl _ _).alloc (Nat.le_refl _) _)) (Rd.lit w1 #[.int .u8 172, .int .u8 2] _ _ (by unfold maxLen; decide))).mono ?_
  rintro e w2 ⟨rfl, hq2⟩
  have hb2 : Below w.heap.size w w2 := (hb.alloc hb.size _).trans (hq2.below _)
  clear hq2
  go_wp2_with fail
  refine (sum_any _ _ _ [49, 50, 51, 52, 53, 54, 55, 56, 57] (Rd.lit w2 #[.int .u8 49, .int .u8 50, .int .u8 51, .int .u8 52, .int .u8 53, .int .u8 54, .int .u8 55, .int .u8 56, .int .u8 57] _ _ (by unfold maxLen; decide))).mono ?_
  rintro e w3 ⟨rfl, hb3⟩
  have hb3' : Below w.heap.size w w3 := (hb2.alloc hb2.size _).trans (hb3.mono (by have := hb2.size; simp; omega))
  rw [crc_known]
  go_wp2_with fail
  refine (known_turn _).mono ?_
  rintro e w4 ⟨rfl, rfl⟩
  go_wp2
  go_ret
  exact ⟨rfl, hb3'⟩
end Go.Proofs.Ytelmjcalacdncaa
