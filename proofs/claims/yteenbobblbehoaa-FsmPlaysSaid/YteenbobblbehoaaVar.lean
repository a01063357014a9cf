/- Uvarint: the plain function, and the contracts of the program's and of the document's. Conditions: each contract's own premises. -/
import Derived.Test.YteenbobblbehoaaCom0
namespace Go.Proofs.Yteenbobblbehoaa
open Go Go.RowKit

def uvF : Nat → Nat → List UInt8
  | 0, x => [UInt8.ofNat x]
  | j + 1, x => if x < 128 then [UInt8.ofNat x] else UInt8.ofNat (x % 128 + 128) :: uvF j (x / 128)
/-- A number's bytes. -/
def uv (x : Nat) : List UInt8 := uvF 10 x

theorem uvF_length : ∀ (j x : Nat), 1 ≤ (uvF j x).length ∧ (uvF j x).length ≤ j + 1
  | 0, x => by simp [uvF]
  | j + 1, x => by
    unfold uvF
    split
    · simp
    · have := uvF_length j (x / 128); simp; omega

theorem uv_byte (x : UInt64) : bits BinOp.or IntKind.u8 ((x.toNat : Int) % 256) 128 = ((UInt8.ofNat (x.toNat % 128 + 128)).toNat : Int) := by
  have h : ((x.toNat : Int) % 256) = ((UInt8.ofNat (x.toNat % 256)).toNat : Int) := by
    rw [UInt8.toNat_ofNat', Nat.mod_eq_of_lt (Nat.mod_lt _ (by decide))]; rfl
  rw [h, u8_or_r _ 128 (by decide)]
  congr 1
  rw [UInt8.toNat_or, UInt8.toNat_ofNat', UInt8.toNat_ofNat', Nat.mod_eq_of_lt (Nat.mod_lt _ (by decide)), Nat.mod_eq_of_lt (show x.toNat % 128 + 128 < 2 ^ 8 by omega)]
  show x.toNat % 256 ||| 128 = _
  apply Nat.eq_of_testBit_eq
  intro i
  rw [Nat.testBit_or, show x.toNat % 128 + 128 = 2 ^ 7 * 1 + x.toNat % 2 ^ 7 by omega, Nat.testBit_two_pow_mul_add _ (Nat.mod_lt _ (by decide)), show (256 : Nat) = 2 ^ 8 from rfl, Nat.testBit_mod_two_pow]
  by_cases h1 : i < 7
  · rw [if_pos h1, Nat.testBit_mod_two_pow, show (128 : Nat) = 2 ^ 7 from rfl, Nat.testBit_two_pow_of_ne (by omega)]
    simp [h1, show i < 8 by omega]
  · rw [if_neg h1]
    by_cases h2 : i = 7
    · subst h2; simp; exact Or.inr (by decide)
    · rw [show (128 : Nat) = 2 ^ 7 from rfl, Nat.testBit_two_pow_of_ne (by omega), Nat.testBit_lt_two_pow (show 1 < 2 ^ (i - 7) from Nat.one_lt_two_pow (by omega))]
      simp [show ¬ i < 8 by omega]
theorem uv_last (x : UInt64) (h : x.toNat < 128) : (x.toNat : Int) = ((UInt8.ofNat x.toNat).toNat : Int) := by
  rw [UInt8.toNat_ofNat', Nat.mod_eq_of_lt (by omega)]

def UvInv (v : Nat) (x : Nat) (pre : List UInt8) (j : Nat) : Prop := pre.length + j = 10 ∧ x < 2 ^ (7 * j) ∧ pre ++ uvF j x = uv v
theorem UvInv.len {v x : Nat} {pre : List UInt8} {j : Nat} (h : UvInv v x pre j) : pre.length ≤ 10 := by have := h.1; omega
theorem UvInv.last {v x : Nat} {pre : List UInt8} {j : Nat} (h : UvInv v x pre j) (hx : x < 128) : pre ++ [UInt8.ofNat x] = uv v := by
  rw [← h.2.2]
  cases j with
  | zero => rfl
  | succ j => unfold uvF; rw [if_pos hx]
theorem UvInv.next {v x : Nat} {pre : List UInt8} {j : Nat} (h : UvInv v x pre j) (hx : ¬ x < 128) : UvInv v (x / 128) (pre ++ [UInt8.ofNat (x % 128 + 128)]) (j - 1) := by
  obtain ⟨h1, h2, h3⟩ := h
  cases j with
  | zero => simp at h2; omega
  | succ j =>
    refine ⟨by simp; omega, ?_, ?_⟩
    · rw [show 7 * (j + 1) = 7 * j + 7 by omega, Nat.pow_add] at h2
      show x / 128 < 2 ^ (7 * j)
      exact Nat.div_lt_of_lt_mul (by rw [Nat.mul_comm]; exact h2)
    · rw [← h3]
      show _ ++ uvF j (x / 128) = pre ++ uvF (j + 1) x
      conv => rhs; unfold uvF; rw [if_neg hx]
      rw [List.append_assoc]; rfl

set_option maxRecDepth 100000 in
set_option maxHeartbeats 400000 in
/-- Uvarint -/
theorem uvarint_any (v : UInt64) (w : World) :
    Calls Try.prog 32 #[.int .u64 v.toNat] w fun e w' => ∃ r, e = .returned r ∧ w'.ownsRow w.heap.size 5 1 r (uv v.toNat).length (B8 (uv v.toNat)) ∧ Below w.heap.size w w' := by
  have hml : maxLen = 9223372036854775807 := by unfold maxLen; rfl
  have HML := Lib.hid hml; clear hml
  go_enter Try.func32, Try.ntmps32
  go_wp2
  go_loopw [0, 3] (fun s0 s3 wr => ∃ (x : UInt64) (pre : List UInt8) (j : Nat), s0 = .int .u64 x.toNat ∧ wr.ownsRow w.heap.size 5 1 s3 pre.length (B8 pre) ∧ Below w.heap.size w wr ∧
      UvInv v.toNat x.toNat pre j) (fun s0 _ _ => (intOf s0).toNat)
  case atStart => exact ⟨v, [], 10, rfl, World.ownsRow_nil _ _ _ _, Below.refl _ _, rfl, Nat.lt_trans v.toNat_lt (by decide), rfl⟩
  case round =>
    obtain ⟨x, pre, j, rfl, ho, hb, hinv⟩ := hrel
    have hlen := hinv.len
    by_cases h : x.toNat < 128
    · go_wp2_with (with_reducible refine At.slot 18 ?_)
      refine At.out (wpList_app rfl (.tmp 14) (.tmp 17) 31 rfl elemB rfl w.heap.size _ pre.length _ rfl (ho.alloc _) _ 1 1 [.int .u8 (x.toNat : Int)] rfl rfl (Rd.one _ _ _) (one_int _ _) (by have := HML.out; omega) (by omega) (by have := hb.size; simp; omega) ?_)
      intro v1 w1 ho1 hb1 _
      rw [uv_last x h] at ho1
      have hl := hinv.last h
      go_wp2
      go_ret
      refine ⟨v1, rfl, ?_, (hb.alloc hb.size _).trans hb1⟩
      rw [← hl, B8_append, List.length_append]
      exact ho1
    · have hwr : IntKind.u64.wrap ((x.toNat : Int) / 128) = (x.toNat : Int) / 128 := IntWalk.u64_in _ (by have := u64_lt x; omega)
      go_wp2_with (with_reducible refine At.slot 11 ?_)
      refine At.out (wpList_app rfl (.tmp 6) (.tmp 10) 31 rfl elemB rfl w.heap.size _ pre.length _ rfl (ho.alloc _) _ 1 1 [.int .u8 (bits BinOp.or IntKind.u8 ((x.toNat : Int) % 256) 128)] rfl rfl (Rd.one _ _ _) (one_int _ _) (by have := HML.out; omega) (by omega) (by have := hb.size; simp; omega) ?_)
      intro v1 w1 ho1 hb1 _
      rw [uv_byte x] at ho1
      have hn := hinv.next h
      have hb2 := (hb.alloc hb.size (.cells #[.int .u8 (bits BinOp.or IntKind.u8 ((x.toNat : Int) % 256) 128)] 5)).trans hb1
      clear hb1 hb ho hinv
      go_wp2
      go_roundw
      case rel =>
        refine ⟨x >>> 7, pre ++ [UInt8.ofNat (x.toNat % 128 + 128)], j - 1, by rw [← u64_shr7], ?_, hb2, ?_⟩
        · rw [B8_append, List.length_append]
          exact ho1
        · have e : (x >>> 7).toNat = x.toNat / 128 := by have := u64_shr7 x; omega
          rw [e]; exact hn
      case measure => simp [intOf]; omega

set_option maxRecDepth 100000 in
set_option maxHeartbeats 400000 in
/-- the document's Uvarint -/
theorem refUvarint_any (v : UInt64) (w : World) :
    Calls Try.prog 41 #[.int .u64 v.toNat] w fun e w' => ∃ r, e = .returned r ∧ w'.ownsRow w.heap.size 5 1 r (uv v.toNat).length (B8 (uv v.toNat)) ∧ Below w.heap.size w w' := by
  have hml : maxLen = 9223372036854775807 := by unfold maxLen; rfl
  have HML := Lib.hid hml; clear hml
  go_enter Try.func41, Try.ntmps41
  go_wp2
  go_loopw [0, 3] (fun s0 s3 wr => ∃ (x : UInt64) (pre : List UInt8) (j : Nat), s0 = .int .u64 x.toNat ∧ wr.ownsRow w.heap.size 5 1 s3 pre.length (B8 pre) ∧ Below w.heap.size w wr ∧
      UvInv v.toNat x.toNat pre j) (fun s0 _ _ => (intOf s0).toNat)
  case atStart => exact ⟨v, [], 10, rfl, World.ownsRow_nil _ _ _ _, Below.refl _ _, rfl, Nat.lt_trans v.toNat_lt (by decide), rfl⟩
  case round =>
    obtain ⟨x, pre, j, rfl, ho, hb, hinv⟩ := hrel
    have hlen := hinv.len
    by_cases h : x.toNat < 128
    · go_wp2_with (with_reducible refine At.slot 18 ?_)
      refine At.out (wpList_app rfl (.tmp 14) (.tmp 17) 31 rfl elemB rfl w.heap.size _ pre.length _ rfl (ho.alloc _) _ 1 1 [.int .u8 (x.toNat : Int)] rfl rfl (Rd.one _ _ _) (one_int _ _) (by have := HML.out; omega) (by omega) (by have := hb.size; simp; omega) ?_)
      intro v1 w1 ho1 hb1 _
      rw [uv_last x h] at ho1
      have hl := hinv.last h
      go_wp2
      go_ret
      refine ⟨v1, rfl, ?_, (hb.alloc hb.size _).trans hb1⟩
      rw [← hl, B8_append, List.length_append]
      exact ho1
    · have hwr : IntKind.u64.wrap ((x.toNat : Int) / 128) = (x.toNat : Int) / 128 := IntWalk.u64_in _ (by have := u64_lt x; omega)
      go_wp2_with (with_reducible refine At.slot 11 ?_)
      refine At.out (wpList_app rfl (.tmp 6) (.tmp 10) 31 rfl elemB rfl w.heap.size _ pre.length _ rfl (ho.alloc _) _ 1 1 [.int .u8 (bits BinOp.or IntKind.u8 ((x.toNat : Int) % 256) 128)] rfl rfl (Rd.one _ _ _) (one_int _ _) (by have := HML.out; omega) (by omega) (by have := hb.size; simp; omega) ?_)
      intro v1 w1 ho1 hb1 _
      rw [uv_byte x] at ho1
      have hn := hinv.next h
      have hb2 := (hb.alloc hb.size (.cells #[.int .u8 (bits BinOp.or IntKind.u8 ((x.toNat : Int) % 256) 128)] 5)).trans hb1
      clear hb1 hb ho hinv
      go_wp2
      go_roundw
      case rel =>
        refine ⟨x >>> 7, pre ++ [UInt8.ofNat (x.toNat % 128 + 128)], j - 1, by rw [← u64_shr7], ?_, hb2, ?_⟩
        · rw [B8_append, List.length_append]
          exact ho1
        · have e : (x >>> 7).toNat = x.toNat / 128 := by have := u64_shr7 x; omega
          rw [e]; exact hn
      case measure => simp [intOf]; omega

end Go.Proofs.Yteenbobblbehoaa
