/- fid's Cookie and the document's: the plain function, the contracts. Conditions: each contract's own premises. -/
import Derived.Test.YteenbobblbehoaaTurnB
namespace Go.Proofs.Yteenbobblbehoaa
open Go Go.RowKit

def ckStep (x : UInt32) (key : UInt64) : UInt32 := (turn x 5 ^^^ key.toUInt32) * 2654435769
/-- Of a first number, the rest of the rounds. -/
def ckGo : Nat → UInt32 → UInt64 → UInt32
  | 0, x, _ => x
  | k + 1, x, key => ckGo k (ckStep x key) (key >>> 16)
/-- A volume's 32 digits. -/
def volU (v : Int) : UInt32 := UInt32.ofNat (v % 4294967296).toNat
def ck (v : Int) (key : UInt64) (salt : UInt32) : UInt32 := ckGo 4 (salt ^^^ volU v) key

theorem volU_int (v : Int) : v % 4294967296 = ((volU v).toNat : Int) := by
  unfold volU; rw [UInt32.toNat_ofNat', Nat.mod_eq_of_lt (by omega)]; omega
theorem key32_int (k : UInt64) : (k.toNat : Int) % 4294967296 = (k.toUInt32.toNat : Int) := by
  rw [UInt64.toNat_toUInt32]; omega
theorem mul32_int (x : UInt32) : (x.toNat : Int) * 2654435769 % 4294967296 = ((x * 2654435769).toNat : Int) := by
  rw [UInt32.toNat_mul]
  show _ = (((x.toNat * 2654435769) % 4294967296 : Nat) : Int)
  omega
theorem shr16_int (k : UInt64) : (k.toNat : Int) / (65536 : Int) = ((k >>> 16).toNat : Int) := u64_shr k 16 (by decide)

set_option maxRecDepth 100000 in
set_option maxHeartbeats 400000 in
/-- Cookie. -/
theorem cookie_any (v : Int) (key : UInt64) (salt : UInt32) (w : World) :
    Calls Try.prog 48 #[.int .i64 v, .int .u64 key.toNat, .int .u32 salt.toNat] w fun e w' => e = .returned (.int .u32 (ck v key salt).toNat) ∧ w' = w := by
  have hv := volU_int v
  have hvx := u32_bin_xor salt (volU v)
  obtain ⟨y, hy⟩ : ∃ y, y = volU v := ⟨_, rfl⟩
  rw [← hy] at hv hvx
  have hc : ckGo 4 (salt ^^^ y) key = ck v key salt := by rw [hy]; rfl
  obtain ⟨c, hcc⟩ : ∃ c, c = ck v key salt := ⟨_, rfl⟩
  rw [← hcc] at hc ⊢
  have HC := Lib.hid hc
  clear hy hcc hc
  go_enter Try.func48, Try.ntmps48
  go_wp2
  go_loop [1, 7, 12] (fun s1 s7 s12 => ∃ (k : Nat) (x : UInt32) (q : UInt64), k ≤ 4 ∧ s12 = .int .i64 k ∧ s7 = .int .u32 x.toNat ∧ s1 = .int .u64 q.toNat ∧ ckGo (4 - k) x q = c) (fun _ _ s12 => 4 - (intOf s12).toNat)
  case atStart => exact ⟨0, salt ^^^ y, key, by omega, rfl, rfl, rfl, HC.out⟩
  case round =>
    clear hv hvx
    obtain ⟨k, x, q, hk, rfl, rfl, rfl, hg⟩ := hrel
    by_cases hlt : k < 4
    · have hi : (k : Int) < 4 := by omega
      have h1 := key32_int q
      have h2 := u32_bin_xor (turn x 5) q.toUInt32
      have h3 := mul32_int (turn x 5 ^^^ q.toUInt32)
      have h4 := shr16_int q
      have ht := turn_any x 5
      have hg2 : ckGo (4 - (k + 1)) ((turn x 5 ^^^ q.toUInt32) * 2654435769) (q >>> 16) = c := by
        rw [← hg, show 4 - k = (4 - (k + 1)) + 1 from by omega]; rfl
      obtain ⟨x3, e3⟩ : ∃ z, z = (turn x 5 ^^^ q.toUInt32) * 2654435769 := ⟨_, rfl⟩
      obtain ⟨x2, e2⟩ : ∃ z, z = (turn x 5 ^^^ q.toUInt32) := ⟨_, rfl⟩
      obtain ⟨x1, e1⟩ : ∃ z, z = turn x 5 := ⟨_, rfl⟩
      obtain ⟨z, e0⟩ : ∃ z, z = q.toUInt32 := ⟨_, rfl⟩
      obtain ⟨q2, e4⟩ : ∃ z, z = q >>> 16 := ⟨_, rfl⟩
      rw [← e3, ← e4] at hg2
      rw [← e3, ← e2] at h3
      rw [← e2, ← e1, ← e0] at h2
      rw [← e0] at h1
      rw [← e4] at h4
      rw [← e1] at ht
      have HG := Lib.hid hg2
      have H3 := Lib.hid h3
      clear hg hg2 e0 e1 e2 e3 e4
      go_wp2_with fail
      refine (ht _).mono ?_
      rintro e w1 ⟨rfl, hw⟩
      have hw := hw.symm
      subst hw
      go_wp2
      go_round
      case rel => exact ⟨k + 1, x3, q2, by omega, by go_num, by rw [H3.out], rfl, HG.out⟩
      case measure => simp [intOf]; omega
    · obtain rfl : k = 4 := by omega
      have hg2 : x = c := hg
      subst hg2
      go_wp2
      go_ret
      exact ⟨rfl, rfl⟩

set_option maxRecDepth 100000 in
set_option maxHeartbeats 400000 in
/-- The document's Cookie. -/
theorem refCookie_any (v : Int) (key : UInt64) (salt : UInt32) (w : World) :
    Calls Try.prog 79 #[.int .i64 v, .int .u64 key.toNat, .int .u32 salt.toNat] w fun e w' => e = .returned (.int .u32 (ck v key salt).toNat) ∧ w' = w := by
  have hv := volU_int v
  have hvx := u32_bin_xor salt (volU v)
  obtain ⟨y, hy⟩ : ∃ y, y = volU v := ⟨_, rfl⟩
  rw [← hy] at hv hvx
  have hc : ckGo 4 (salt ^^^ y) key = ck v key salt := by rw [hy]; rfl
  obtain ⟨c, hcc⟩ : ∃ c, c = ck v key salt := ⟨_, rfl⟩
  rw [← hcc] at hc ⊢
  have HC := Lib.hid hc
  clear hy hcc hc
  go_enter Try.func79, Try.ntmps79
  go_wp2
  go_loop [1, 7, 8] (fun s1 s7 s8 => ∃ (k : Nat) (x : UInt32) (q : UInt64), k ≤ 4 ∧ s8 = .int .i64 k ∧ s7 = .int .u32 x.toNat ∧ s1 = .int .u64 q.toNat ∧ ckGo (4 - k) x q = c) (fun _ _ s8 => 4 - (intOf s8).toNat)
  case atStart => exact ⟨0, salt ^^^ y, key, by omega, rfl, rfl, rfl, HC.out⟩
  case round =>
    clear hv hvx
    obtain ⟨k, x, q, hk, rfl, rfl, rfl, hg⟩ := hrel
    by_cases hlt : k < 4
    · have hi : (k : Int) < 4 := by omega
      have h1 := key32_int q
      have h2 := u32_bin_xor (turn x 5) q.toUInt32
      have h3 := mul32_int (turn x 5 ^^^ q.toUInt32)
      have h4 := shr16_int q
      have ht := refTurn_any x 5
      have hg2 : ckGo (4 - (k + 1)) ((turn x 5 ^^^ q.toUInt32) * 2654435769) (q >>> 16) = c := by
        rw [← hg, show 4 - k = (4 - (k + 1)) + 1 from by omega]; rfl
      obtain ⟨x3, e3⟩ : ∃ z, z = (turn x 5 ^^^ q.toUInt32) * 2654435769 := ⟨_, rfl⟩
      obtain ⟨x2, e2⟩ : ∃ z, z = (turn x 5 ^^^ q.toUInt32) := ⟨_, rfl⟩
      obtain ⟨x1, e1⟩ : ∃ z, z = turn x 5 := ⟨_, rfl⟩
      obtain ⟨z, e0⟩ : ∃ z, z = q.toUInt32 := ⟨_, rfl⟩
      obtain ⟨q2, e4⟩ : ∃ z, z = q >>> 16 := ⟨_, rfl⟩
      rw [← e3, ← e4] at hg2
      rw [← e3, ← e2] at h3
      rw [← e2, ← e1, ← e0] at h2
      rw [← e0] at h1
      rw [← e4] at h4
      rw [← e1] at ht
      have HG := Lib.hid hg2
      have H3 := Lib.hid h3
      clear hg hg2 e0 e1 e2 e3 e4
      go_wp2_with fail
      refine (ht _).mono ?_
      rintro e w1 ⟨rfl, hw⟩
      have hw := hw.symm
      subst hw
      go_wp2
      go_round
      case rel => exact ⟨k + 1, x3, q2, by omega, by go_num, by rw [H3.out], rfl, HG.out⟩
      case measure => simp [intOf]; omega
    · obtain rfl : k = 4 := by omega
      have hg2 : x = c := hg
      subst hg2
      go_wp2
      go_ret
      exact ⟨rfl, rfl⟩

/-- A step is undone. -/
theorem mul_back (x : UInt32) : x * 2654435769 * 340573321 = x := by
  rw [UInt32.mul_assoc, show (2654435769 : UInt32) * 340573321 = 1 from by decide, UInt32.mul_one]
theorem xor_back (x y : UInt32) : (x ^^^ y) ^^^ y = x := by rw [UInt32.xor_assoc, UInt32.xor_self, UInt32.xor_zero]
theorem ckStep_inj (x y : UInt32) (k : UInt64) (h : ckStep x k = ckStep y k) : x = y := by
  have h1 := congrArg (fun z => turn ((z * 340573321) ^^^ k.toUInt32) (-5)) h
  simp only [ckStep, mul_back, xor_back, turn_back] at h1
  exact h1
theorem ckGo_inj : ∀ (n : Nat) (x y : UInt32) (k : UInt64), ckGo n x k = ckGo n y k → x = y
  | 0, _, _, _, h => h
  | n + 1, x, y, k, h => ckStep_inj x y k (ckGo_inj n _ _ _ h)
theorem ck_other (v : Int) (key : UInt64) (salt by' : UInt32) : (ck v key (salt ^^^ by') == ck v key salt) = (by' == 0) := by
  rw [Bool.eq_iff_iff, beq_iff_eq, beq_iff_eq]
  constructor
  · intro h
    have h1 := ckGo_inj 4 _ _ _ h
    have h2 : salt ^^^ by' = salt := by
      have := congrArg (· ^^^ volU v) h1
      simpa only [xor_back] using this
    have h3 := congrArg (salt ^^^ ·) h2
    simp only [← UInt32.xor_assoc, UInt32.xor_self, UInt32.zero_xor] at h3
    exact h3
  · rintro rfl
    rw [UInt32.xor_zero]
end Go.Proofs.Yteenbobblbehoaa
