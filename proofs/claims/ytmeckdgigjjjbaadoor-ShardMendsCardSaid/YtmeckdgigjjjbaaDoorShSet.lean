/- A set of rows as digits; what a call begins with. Conditions: each contract's own premises. -/
import Derived.Test.YtmeckdgigjjjbaaDoorMendL
import Derived.Test.YtmeckdgigjjjbaaDoorTz
namespace Go.Proofs.YtmeckdgigjjjbaaDoor
open Go Go.RowKit

theorem and1_u32 (x : Nat) (h : x < 4294967296) : bits BinOp.and IntKind.u32 (x : Int) 1 = ((x % 2 : Nat) : Int) := by
  have := bits_and_u32_nat x 1 h (by decide)
  rw [show x &&& 1 = x % 2 from Nat.and_two_pow_sub_one_eq_mod x 1] at this
  exact this
theorem bit_mod (T i : Nat) : (T / 2 ^ i % 2 = 1) ↔ T.testBit i = true := by
  rw [Nat.testBit_eq_decide_div_mod_eq]; simp
set_option maxRecDepth 100000 in
set_option maxHeartbeats 1000000 in
theorem has_any (T i : Nat) (hT : T < 4294967296) (hi : i < 32) (w : World) :
    Calls Tryd.prog 40 #[.int .u32 T, .int .i64 i] w fun e w' => e = .returned (.bool (T.testBit i)) ∧ w' = w := by
  have e1 : (T : Int) / 2 ^ i = ((T / 2 ^ i : Nat) : Int) := by rw [Int.natCast_ediv, Int.natCast_pow]; rfl
  have hlt : T / 2 ^ i < 4294967296 := Nat.lt_of_le_of_lt (Nat.div_le_self _ _) hT
  have e2 := and1_u32 _ hlt
  obtain ⟨r, hr⟩ : ∃ r, r = T.testBit i := ⟨_, rfl⟩
  have e3 : (((T / 2 ^ i % 2 : Nat) : Int) == 1) = r := by
    rw [hr]
    by_cases h : T / 2 ^ i % 2 = 1
    · rw [(bit_mod T i).1 h, h]; rfl
    · have : T.testBit i = false := by
        cases hb : T.testBit i with
        | true => exact absurd ((bit_mod T i).2 hb) h
        | false => rfl
      rw [this, beq_eq_false_iff_ne]; omega
  rw [← hr]
  have hm : min i 32 = i := by omega
  have E1 := Lib.hid e1
  have E2 := Lib.hid e2
  have E3 := Lib.hid e3
  have HM := Lib.hid hm
  clear hr hlt hi hT e1 e2 e3 hm
  go_enter Tryd.func40, Tryd.ntmps40
  go_wp2
  go_ret
  refine ⟨ret_bool ?_, rfl⟩
  rw [HM.out, E1.out, E2.out]
  exact E3.out
end Go.Proofs.YtmeckdgigjjjbaaDoor
