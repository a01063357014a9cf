/- The document's product: the plain function is the same, and the contract. Conditions: each contract's own premises. -/
import Derived.Test.YtmeckdgigjjjbaaDoorGfC
namespace Go.Proofs.YtmeckdgigjjjbaaDoor
open Go Go.RowKit

/-- The polynomials' product, of the digits below i. -/
def cl : Nat → Nat → Nat → Nat
  | 0, _, _ => 0
  | i + 1, a, b => if b.testBit i then cl i a b ^^^ (a * 2 ^ i) else cl i a b
/-- What is left, after j digits from 14 on. -/
def mred : Nat → Nat → Nat
  | 0, p => p
  | j + 1, p => if (mred j p).testBit (14 - j) then mred j p ^^^ (285 * 2 ^ (6 - j)) else mred j p
def refm (a b : UInt8) : UInt8 := UInt8.ofNat (mred 7 (cl 8 a.toNat b.toNat))

theorem nx_swap (a b c d : Nat) : (a ^^^ b) ^^^ (c ^^^ d) = (a ^^^ c) ^^^ (b ^^^ d) := by
  rw [Nat.xor_assoc, Nat.xor_assoc, ← Nat.xor_assoc b c d, Nat.xor_comm b c, Nat.xor_assoc c b d]
theorem xor_mul_pow (a b i : Nat) : (a ^^^ b) * 2 ^ i = a * 2 ^ i ^^^ b * 2 ^ i := by
  rw [← Nat.shiftLeft_eq, ← Nat.shiftLeft_eq, ← Nat.shiftLeft_eq, Nat.shiftLeft_xor_distrib]
theorem cl_left : ∀ (i a a' b : Nat), cl i (a ^^^ a') b = cl i a b ^^^ cl i a' b
  | 0, _, _, _ => by simp [cl]
  | i + 1, a, a', b => by
    unfold cl
    rw [cl_left i]
    split
    · rw [xor_mul_pow, nx_swap]
    · rfl
theorem cl_right : ∀ (i a b b' : Nat), cl i a (b ^^^ b') = cl i a b ^^^ cl i a b'
  | 0, _, _, _ => by simp [cl]
  | i + 1, a, b, b' => by
    unfold cl
    rw [cl_right i, Nat.testBit_xor]
    cases b.testBit i <;> cases b'.testBit i <;> simp only [Bool.xor_self, Bool.xor_false, Bool.xor_true, Bool.not_false, if_true, if_false, Bool.false_eq_true]
    · rw [Nat.xor_assoc]
    · rw [Nat.xor_assoc, Nat.xor_comm (cl i a b'), ← Nat.xor_assoc]
    · rw [nx_swap, Nat.xor_self, Nat.xor_zero]
theorem mred_xor : ∀ (j p q : Nat), mred j (p ^^^ q) = mred j p ^^^ mred j q
  | 0, _, _ => rfl
  | j + 1, p, q => by
    unfold mred
    rw [mred_xor j, Nat.testBit_xor]
    cases (mred j p).testBit (14 - j) <;> cases (mred j q).testBit (14 - j) <;> simp only [Bool.xor_self, Bool.xor_false, Bool.xor_true, Bool.not_false, if_true, if_false, Bool.false_eq_true]
    · rw [Nat.xor_assoc]
    · rw [Nat.xor_assoc, Nat.xor_comm (mred j q), ← Nat.xor_assoc]
    · rw [nx_swap, Nat.xor_self, Nat.xor_zero]
theorem ofNat_xor8 (a b : Nat) : UInt8.ofNat (a ^^^ b) = UInt8.ofNat a ^^^ UInt8.ofNat b := by
  apply UInt8.toNat_inj.1
  rw [UInt8.toNat_xor, UInt8.toNat_ofNat', UInt8.toNat_ofNat', UInt8.toNat_ofNat', Nat.xor_mod_two_pow]
/-- The document's product is the program's. -/
theorem refm_gm (a b : UInt8) : refm a b = gm a b := by
  have hl : ∀ b, Add8 (fun a => refm a b) := fun b => ⟨fun x y => by unfold refm; rw [UInt8.toNat_xor, cl_left, mred_xor, ofNat_xor8]⟩
  have hr : ∀ a, Add8 (refm a) := fun a => ⟨fun x y => by unfold refm; rw [UInt8.toNat_xor, cl_right, mred_xor, ofNat_xor8]⟩
  refine (hl b).ext (add_left b) (fun u hu => ?_) a
  refine (hr u).ext (add_right u) (fun v hv => ?_) b
  exact (by decide +kernel : ∀ u ∈ units, ∀ v ∈ units, refm u v = gm u v) u hu v hv

theorem cl_lt : ∀ (i a b : Nat), i ≤ 8 → a < 256 → cl i a b < 65536
  | 0, _, _, _, _ => by show 0 < 65536; decide
  | i + 1, a, b, hi, ha => by
    unfold cl
    have h1 := cl_lt i a b (by omega) ha
    split
    · have h2 : a * 2 ^ i < 65536 := by
        have : a * 2 ^ i ≤ 255 * 2 ^ 7 := Nat.mul_le_mul (by omega) (Nat.pow_le_pow_right (by decide) (by omega))
        omega
      exact Nat.xor_lt_two_pow (n := 16) h1 h2
    · exact h1
theorem mred_lt : ∀ (j p : Nat), p < 65536 → mred j p < 65536
  | 0, _, h => h
  | j + 1, p, h => by
    unfold mred
    have h1 := mred_lt j p h
    split
    · have h2 : 285 * 2 ^ (6 - j) < 65536 := by
        have : 285 * 2 ^ (6 - j) ≤ 285 * 2 ^ 6 := Nat.mul_le_mul (Nat.le_refl _) (Nat.pow_le_pow_right (by decide) (by omega))
        omega
      exact Nat.xor_lt_two_pow (n := 16) h1 h2
    · exact h1

theorem i64_xor_nat (a b : Nat) (ha : a < 9223372036854775808) (hb : b < 9223372036854775808) : bits .xor .i64 (a : Int) (b : Int) = ((a ^^^ b : Nat) : Int) := by
  have hx : a ^^^ b < 2 ^ 63 := Nat.xor_lt_two_pow (by omega) (by omega)
  show IntKind.i64.wrap ((BitVec.ofInt 64 (a : Int) ^^^ BitVec.ofInt 64 (b : Int)).toNat : Int) = _
  have h1 : (BitVec.ofInt 64 (a : Int)).toNat = a := by
    rw [BitVec.ofInt_natCast, BitVec.toNat_ofNat]; exact Nat.mod_eq_of_lt (by omega)
  have h2 : (BitVec.ofInt 64 (b : Int)).toNat = b := by
    rw [BitVec.ofInt_natCast, BitVec.toNat_ofNat]; exact Nat.mod_eq_of_lt (by omega)
  rw [BitVec.toNat_xor, h1, h2, IntWalk.i64_in _ (by omega)]
theorem i64_and1 (a : Nat) (ha : a < 9223372036854775808) : bits .and .i64 (a : Int) 1 = ((a % 2 : Nat) : Int) := by
  show IntKind.i64.wrap ((BitVec.ofInt 64 (a : Int) &&& BitVec.ofInt 64 1).toNat : Int) = _
  have h1 : (BitVec.ofInt 64 (a : Int)).toNat = a := by
    rw [BitVec.ofInt_natCast, BitVec.toNat_ofNat]; exact Nat.mod_eq_of_lt (by omega)
  have h2 : (BitVec.ofInt 64 1).toNat = 1 := by decide
  rw [BitVec.toNat_and, h1, h2, nat_mask1, IntWalk.i64_in _ (by omega)]
theorem tb_div (x k : Nat) : (x / 2 ^ k % 2 = 1) ↔ x.testBit k = true := by
  rw [Nat.testBit_eq_decide_div_mod_eq]; simp
theorem div_pow_int (x k : Nat) : (x : Int) / 2 ^ k = ((x / 2 ^ k : Nat) : Int) := by rw [Int.natCast_ediv, Int.natCast_pow]; rfl

set_option maxRecDepth 100000 in
set_option maxHeartbeats 1000000 in
/-- The document's Mul. -/
theorem refMul_any (a b : UInt8) (w : World) :
    Calls Tryd.prog 35 #[.int .u8 a.toNat, .int .u8 b.toNat] w fun e w' => e = .returned (.int .u8 (gm a b).toNat) ∧ w' = w := by
  have ha := u8_lt a
  have hb := u8_lt b
  go_enter Tryd.func35, Tryd.ntmps35
  go_wp2
  go_loop [5, 6] (fun s5 s6 => ∃ (k p : Nat), k ≤ 8 ∧ s6 = .int .i64 k ∧ s5 = .int .i64 p ∧ p = cl k a.toNat b.toNat) (fun _ s6 => 8 - (intOf s6).toNat)
  case atStart => exact ⟨0, 0, by omega, rfl, rfl, rfl⟩
  case round =>
    obtain ⟨k, p, hk, rfl, rfl, hp⟩ := hrel
    have hp16 : p < 65536 := by rw [hp]; exact cl_lt k _ _ hk ha
    have HP := Lib.hid hp; clear hp
    by_cases hlt : k < 8
    · have e1 := div_pow_int b.toNat k
      have e2 : bits BinOp.and IntKind.u8 ((b.toNat / 2 ^ k : Nat) : Int) 1 = ((b.toNat / 2 ^ k % 2 : Nat) : Int) := by
        have h1 : (1 : Int) = ((1 : Nat) : Int) := rfl
        rw [h1, u8_and_nat _ _ (Nat.lt_of_le_of_lt (Nat.div_le_self _ _) hb) (by decide), nat_mask1]
      have htb := tb_div b.toNat k
      obtain ⟨q, hq⟩ : ∃ q, q = b.toNat / 2 ^ k := ⟨_, rfl⟩
      rw [← hq] at e1 e2 htb
      rcases Nat.mod_two_eq_zero_or_one q with h | h
      · rw [h] at e2
        have e3 : bits BinOp.and IntKind.u8 (q : Int) 1 = 0 := e2
        have hn : cl (k + 1) a.toNat b.toNat = cl k a.toNat b.toNat := by
          show (if b.toNat.testBit k then _ else _) = _
          rw [if_neg (by intro hh; have := htb.2 hh; omega)]
        have HN := Lib.hid hn
        clear e2 htb hq h hn
        go_wp2
        go_round
        case rel => exact ⟨k + 1, p, by omega, by go_num, rfl, by rw [HN.out, HP.out]⟩
        case measure => simp [intOf]; omega
      · rw [h] at e2
        have e3 : bits BinOp.and IntKind.u8 (q : Int) 1 = 1 := e2
        have hn : cl (k + 1) a.toNat b.toNat = cl k a.toNat b.toNat ^^^ (a.toNat * 2 ^ k) := by
          show (if b.toNat.testBit k then _ else _) = _
          rw [if_pos (htb.1 h)]
        have hsh : a.toNat * 2 ^ k < 65536 := by
          have : a.toNat * 2 ^ k ≤ 255 * 2 ^ 7 := Nat.mul_le_mul (by omega) (Nat.pow_le_pow_right (by decide) (by omega))
          omega
        have e4 : bits BinOp.xor IntKind.i64 (p : Int) (wrap64 ((a.toNat : Int) * 2 ^ k)) = ((p ^^^ a.toNat * 2 ^ k : Nat) : Int) := by
          have e5 : (a.toNat : Int) * 2 ^ k = ((a.toNat * 2 ^ k : Nat) : Int) := by rw [Int.natCast_mul, Int.natCast_pow]; rfl
          rw [e5, IntWalk.wrap64_in _ (by omega), i64_xor_nat _ _ (by omega) (by omega)]
        have HN := Lib.hid hn
        clear e2 htb hq h hn hsh
        obtain ⟨p', hp'⟩ : ∃ p', p' = p ^^^ a.toNat * 2 ^ k := ⟨_, rfl⟩
        rw [← hp'] at e4
        have HP' := Lib.hid hp'; clear hp'
        go_wp2
        go_round
        case rel => exact ⟨k + 1, p', by omega, by go_num, rfl, by rw [HN.out, HP'.out, HP.out]⟩
        case measure => simp [intOf]; omega
    · obtain rfl : k = 8 := by omega
      obtain ⟨P, hP⟩ : ∃ P, P = cl 8 a.toNat b.toNat := ⟨_, rfl⟩
      have hP16 : P < 65536 := by rw [hP]; exact cl_lt 8 _ _ (Nat.le_refl _) ha
      have HPP := Lib.hid hP
      have hpP : p = P := by rw [HP.out, hP]
      clear hP
      subst hpP
      clear HP
      go_wp2
      go_loop [5, 7] (fun s5 s7 => ∃ (j q : Nat), j ≤ 7 ∧ s7 = .int .i64 (14 - (j : Int)) ∧ s5 = .int .i64 q ∧ q = mred j p) (fun _ s7 => (intOf s7).toNat)
      case atStart => exact ⟨0, p, by omega, rfl, rfl, rfl⟩
      case round =>
        obtain ⟨j, q, hj, rfl, rfl, hq⟩ := hrel
        have hq16 : q < 65536 := by rw [hq]; exact mred_lt j _ hP16
        have HQ := Lib.hid hq; clear hq
        by_cases hjlt : j < 7
        · obtain ⟨i, hi⟩ : ∃ i : Nat, i = 14 - j := ⟨_, rfl⟩
          have hi' : (14 : Int) - (j : Int) = (i : Int) := by omega
          have hi8 : 8 ≤ i := by omega
          have hi14 : i ≤ 14 := by omega
          have HI := Lib.hid hi; clear hi
          rw [hi']
          have HI' := Lib.hid hi'; clear hi'
          have e1 := div_pow_int q i
          have e2 := i64_and1 (q / 2 ^ i) (Nat.lt_of_le_of_lt (Nat.div_le_self _ _) (by omega))
          have htb := tb_div q i
          obtain ⟨x, hx⟩ : ∃ x, x = q / 2 ^ i := ⟨_, rfl⟩
          rw [← hx] at e1 e2 htb
          rcases Nat.mod_two_eq_zero_or_one x with h | h
          · rw [h] at e2
            have e3 : bits BinOp.and IntKind.i64 (x : Int) 1 = 0 := e2
            have hn : mred (j + 1) p = mred j p := by
              show (if (mred j p).testBit (14 - j) then _ else _) = _
              rw [if_neg (by rw [← HQ.out, ← HI.out]; intro hh; have := htb.2 hh; omega)]
            have HN := Lib.hid hn
            clear e2 htb hx h hn
            go_wp2
            go_round
            case rel => exact ⟨j + 1, q, by omega, by have := HI'.out; congr 1; omega, rfl, by rw [HN.out, HQ.out]⟩
            case measure => have := HI.out; simp [intOf]; omega
          · rw [h] at e2
            have e3 : bits BinOp.and IntKind.i64 (x : Int) 1 = 1 := e2
            have hn : mred (j + 1) p = mred j p ^^^ (285 * 2 ^ (6 - j)) := by
              show (if (mred j p).testBit (14 - j) then _ else _) = _
              rw [if_pos (by rw [← HQ.out, ← HI.out]; exact htb.1 h)]
            have hsh : 285 * 2 ^ (i - 8) < 65536 := by
              have : 285 * 2 ^ (i - 8) ≤ 285 * 2 ^ 6 := Nat.mul_le_mul (Nat.le_refl _) (Nat.pow_le_pow_right (by decide) (by omega))
              omega
            have e4 : bits BinOp.xor IntKind.i64 (q : Int) (wrap64 ((285 : Int) * 2 ^ (i - 8))) = ((q ^^^ 285 * 2 ^ (i - 8) : Nat) : Int) := by
              have e5 : (285 : Int) * 2 ^ (i - 8) = ((285 * 2 ^ (i - 8) : Nat) : Int) := by rw [Int.natCast_mul, Int.natCast_pow]; rfl
              rw [e5, IntWalk.wrap64_in _ (by omega), i64_xor_nat _ _ (by omega) (by omega)]
            obtain ⟨q', hq'⟩ : ∃ q', q' = q ^^^ 285 * 2 ^ (i - 8) := ⟨_, rfl⟩
            rw [← hq'] at e4
            have HN := Lib.hid hn
            have HQ' := Lib.hid hq'
            clear e2 htb hx h hn hsh hq'
            go_wp2
            go_round
            case rel =>
              refine ⟨j + 1, q', by omega, by have := HI'.out; congr 1; omega, rfl, ?_⟩
              have e : i - 8 = 6 - j := by have := HI.out; omega
              rw [HN.out, HQ'.out, HQ.out, e]
            case measure => have := HI.out; simp [intOf]; omega
        · obtain rfl : j = 7 := by omega
          go_wp2
          go_ret
          refine ⟨retv ?_, rfl⟩
          rw [← refm_gm]
          unfold refm
          rw [UInt8.toNat_ofNat', ← HPP.out, ← HQ.out]
          rfl
end Go.Proofs.YtmeckdgigjjjbaaDoor
