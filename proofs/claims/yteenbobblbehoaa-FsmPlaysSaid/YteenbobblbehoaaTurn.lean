/- Turn: the plain function, and the contracts of the program's and of the document's. Conditions: each contract's own premises. -/
import Derived.Test.YteenbobblbehoaaCom0
namespace Go.Proofs.Yteenbobblbehoaa
open Go Go.RowKit

def turnN (v k : Nat) : Nat := (v * 2 ^ k % 4294967296) ||| (v / 2 ^ (32 - k))
def turn (v : UInt32) (n : Int) : UInt32 := UInt32.ofNat (turnN v.toNat (n % 32).toNat)

theorem turnN_lt (v k : Nat) (hv : v < 4294967296) : turnN v k < 4294967296 :=
  Nat.or_lt_two_pow (n := 32) (Nat.mod_lt _ (by decide)) (Nat.lt_of_le_of_lt (Nat.div_le_self _ _) hv)
theorem turn_toNat (v : UInt32) (n : Int) : (turn v n).toNat = turnN v.toNat (n % 32).toNat := by
  unfold turn; rw [UInt32.toNat_ofNat', Nat.mod_eq_of_lt (turnN_lt _ _ (u32_lt v))]

theorem and31_i64 (n : Int) : bits .and .u64 (IntKind.u64.wrap n) 31 = (((n % 32).toNat : Nat) : Int) := by
  have h : IntKind.u64.wrap n = (((n % 18446744073709551616).toNat : Nat) : Int) := by rw [IntKind.wrap_u64]; omega
  have h2 : (31 : Int) = ((31 : Nat) : Int) := rfl
  rw [h, h2, u64_and_nat _ _ (by omega) (by omega), nat_mask5]
  omega

theorem turn_int (v : UInt32) (k : Nat) : bits BinOp.or IntKind.u32 ((v.toNat : Int) * 2 ^ k % 4294967296) ((v.toNat : Int) / 2 ^ (32 - k)) = ((turnN v.toNat k : Nat) : Int) := by
  have h1 : (v.toNat : Int) * 2 ^ k % 4294967296 = ((v.toNat * 2 ^ k % 4294967296 : Nat) : Int) := by
    rw [Int.natCast_emod, Int.natCast_mul, Int.natCast_pow]; rfl
  have h2 : (v.toNat : Int) / 2 ^ (32 - k) = ((v.toNat / 2 ^ (32 - k) : Nat) : Int) := by
    rw [Int.natCast_ediv, Int.natCast_pow]; rfl
  rw [h1, h2, u32_or_nat _ _ (Nat.mod_lt _ (by decide)) (Nat.lt_of_le_of_lt (Nat.div_le_self _ _) (u32_lt v))]
  rfl

set_option maxRecDepth 100000 in
set_option maxHeartbeats 400000 in
/-- Turn. -/
theorem turn_any (v : UInt32) (n : Int) (w : World) :
    Calls Try.prog 65 #[.int .u32 v.toNat, .int .i64 n] w fun e w' => e = .returned (.int .u32 (turn v n).toNat) ∧ w' = w := by
  have ha := and31_i64 n
  obtain ⟨k, hk⟩ : ∃ k, k = (n % 32).toNat := ⟨_, rfl⟩
  rw [← hk] at ha
  have hk32 : k < 32 := by omega
  have HK := Lib.hid hk; clear hk
  go_enter Try.func65, Try.ntmps65
  go_wp2
  go_ret
  exact ⟨ret_int (by rw [turn_int, turn_toNat, HK.out]), rfl⟩

set_option maxRecDepth 100000 in
set_option maxHeartbeats 400000 in
/-- The document's Turn. -/
theorem refTurn_any (v : UInt32) (n : Int) (w : World) :
    Calls Try.prog 87 #[.int .u32 v.toNat, .int .i64 n] w fun e w' => e = .returned (.int .u32 (turn v n).toNat) ∧ w' = w := by
  obtain ⟨k, hk⟩ : ∃ k, k = (n % 32).toNat := ⟨_, rfl⟩
  have hk32 : k < 32 := by omega
  have hlo : -32 < n.tmod 32 := by have := Int.lt_tmod_of_pos n (show (0 : Int) < 32 by decide); omega
  have hhi : n.tmod 32 < 32 := Int.tmod_lt_of_pos n (by decide)
  have hmod : n.tmod 32 % 32 = n % 32 := by rw [Int.tmod_eq_emod]; split <;> simp
  have hw0 : IntKind.i64.wrap (n.tmod 32) = n.tmod 32 := IntWalk.i64_in _ (by omega)
  by_cases hneg : n.tmod 32 < 0
  · have e1 : n.tmod 32 + 32 = (k : Int) := by omega
    have HK := Lib.hid hk; clear hk hmod
    go_enter Try.func87, Try.ntmps87
    go_wp2
    go_ret
    exact ⟨ret_int (by rw [turn_int, turn_toNat, HK.out]), rfl⟩
  · have e1 : n.tmod 32 = (k : Int) := by omega
    have HK := Lib.hid hk; clear hk hmod
    go_enter Try.func87, Try.ntmps87
    go_wp2
    go_ret
    exact ⟨ret_int (by rw [turn_int, turn_toNat, HK.out]), rfl⟩
end Go.Proofs.Yteenbobblbehoaa
