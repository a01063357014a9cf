/- Numbers of 8, 32 and 64 bits without a sign: what the model's operations on integers make of them, said in Lean's own UInt8, UInt32, UInt64. Conditions: none. -/
import Derived.WalkKit
namespace Go.Proofs.Yteenbobblbehoaa
open Go

theorem signed_u8 : IntKind.u8.signed = false := rfl
theorem signed_u32 : IntKind.u32.signed = false := rfl
theorem signed_u64 : IntKind.u64.signed = false := rfl
attribute [go_sem] signed_u8 signed_u32 signed_u64

theorem u8_lt (a : UInt8) : a.toNat < 256 := a.toNat_lt
theorem u32_lt (a : UInt32) : a.toNat < 4294967296 := a.toNat_lt
theorem u64_lt (a : UInt64) : a.toNat < 18446744073709551616 := a.toNat_lt

theorem u32_bin_xor (a b : UInt32) : bits .xor .u32 (a.toNat : Int) (b.toNat : Int) = ((a ^^^ b).toNat : Int) := by
  rw [u32_xor_nat _ _ (u32_lt a) (u32_lt b), UInt32.toNat_xor]
theorem u32_bin_and (a b : UInt32) : bits .and .u32 (a.toNat : Int) (b.toNat : Int) = ((a &&& b).toNat : Int) := by
  rw [u32_and_nat _ _ (u32_lt a) (u32_lt b), UInt32.toNat_and]
theorem u32_bin_or (a b : UInt32) : bits .or .u32 (a.toNat : Int) (b.toNat : Int) = ((a ||| b).toNat : Int) := by
  rw [u32_or_nat _ _ (u32_lt a) (u32_lt b), UInt32.toNat_or]
theorem u8_bin_xor (a b : UInt8) : bits .xor .u8 (a.toNat : Int) (b.toNat : Int) = ((a ^^^ b).toNat : Int) := by
  rw [u8_xor_nat _ _ (u8_lt a) (u8_lt b), UInt8.toNat_xor]
theorem u8_bin_and (a b : UInt8) : bits .and .u8 (a.toNat : Int) (b.toNat : Int) = ((a &&& b).toNat : Int) := by
  rw [u8_and_nat _ _ (u8_lt a) (u8_lt b), UInt8.toNat_and]
theorem u8_bin_or (a b : UInt8) : bits .or .u8 (a.toNat : Int) (b.toNat : Int) = ((a ||| b).toNat : Int) := by
  rw [u8_or_nat _ _ (u8_lt a) (u8_lt b), UInt8.toNat_or]
theorem u64_bin_xor (a b : UInt64) : bits .xor .u64 (a.toNat : Int) (b.toNat : Int) = ((a ^^^ b).toNat : Int) := by
  rw [u64_xor_nat _ _ (u64_lt a) (u64_lt b), UInt64.toNat_xor]
theorem u64_bin_and (a b : UInt64) : bits .and .u64 (a.toNat : Int) (b.toNat : Int) = ((a &&& b).toNat : Int) := by
  rw [u64_and_nat _ _ (u64_lt a) (u64_lt b), UInt64.toNat_and]
theorem u64_bin_or (a b : UInt64) : bits .or .u64 (a.toNat : Int) (b.toNat : Int) = ((a ||| b).toNat : Int) := by
  rw [u64_or_nat _ _ (u64_lt a) (u64_lt b), UInt64.toNat_or]

theorem lit32 (n : Nat) (h : n < 4294967296) : (OfNat.ofNat n : Int) = (((OfNat.ofNat n : UInt32)).toNat : Int) := by
  have : ((OfNat.ofNat n : UInt32)).toNat = n := by
    show (UInt32.ofNat n).toNat = n
    rw [UInt32.toNat_ofNat']; exact Nat.mod_eq_of_lt h
  rw [this]; rfl
theorem lit8 (n : Nat) (h : n < 256) : (OfNat.ofNat n : Int) = (((OfNat.ofNat n : UInt8)).toNat : Int) := by
  have : ((OfNat.ofNat n : UInt8)).toNat = n := by
    show (UInt8.ofNat n).toNat = n
    rw [UInt8.toNat_ofNat']; exact Nat.mod_eq_of_lt h
  rw [this]; rfl
theorem lit64 (n : Nat) (h : n < 18446744073709551616) : (OfNat.ofNat n : Int) = (((OfNat.ofNat n : UInt64)).toNat : Int) := by
  have : ((OfNat.ofNat n : UInt64)).toNat = n := by
    show (UInt64.ofNat n).toNat = n
    rw [UInt64.toNat_ofNat']; exact Nat.mod_eq_of_lt h
  rw [this]; rfl

theorem u32_xor_r (a : UInt32) (n : Nat) (h : n < 4294967296) : bits .xor .u32 (a.toNat : Int) (OfNat.ofNat n : Int) = ((a ^^^ (OfNat.ofNat n : UInt32)).toNat : Int) := by rw [lit32 n h, u32_bin_xor]
theorem u32_and_r (a : UInt32) (n : Nat) (h : n < 4294967296) : bits .and .u32 (a.toNat : Int) (OfNat.ofNat n : Int) = ((a &&& (OfNat.ofNat n : UInt32)).toNat : Int) := by rw [lit32 n h, u32_bin_and]
theorem u32_or_r (a : UInt32) (n : Nat) (h : n < 4294967296) : bits .or .u32 (a.toNat : Int) (OfNat.ofNat n : Int) = ((a ||| (OfNat.ofNat n : UInt32)).toNat : Int) := by rw [lit32 n h, u32_bin_or]
theorem u32_and_l (a : UInt32) (n : Nat) (h : n < 4294967296) : bits .and .u32 (OfNat.ofNat n : Int) (a.toNat : Int) = (((OfNat.ofNat n : UInt32) &&& a).toNat : Int) := by rw [lit32 n h, u32_bin_and]
theorem u8_xor_r (a : UInt8) (n : Nat) (h : n < 256) : bits .xor .u8 (a.toNat : Int) (OfNat.ofNat n : Int) = ((a ^^^ (OfNat.ofNat n : UInt8)).toNat : Int) := by rw [lit8 n h, u8_bin_xor]
theorem u8_and_r (a : UInt8) (n : Nat) (h : n < 256) : bits .and .u8 (a.toNat : Int) (OfNat.ofNat n : Int) = ((a &&& (OfNat.ofNat n : UInt8)).toNat : Int) := by rw [lit8 n h, u8_bin_and]
theorem u8_or_r (a : UInt8) (n : Nat) (h : n < 256) : bits .or .u8 (a.toNat : Int) (OfNat.ofNat n : Int) = ((a ||| (OfNat.ofNat n : UInt8)).toNat : Int) := by rw [lit8 n h, u8_bin_or]
theorem u8_and_l (a : UInt8) (n : Nat) (h : n < 256) : bits .and .u8 (OfNat.ofNat n : Int) (a.toNat : Int) = (((OfNat.ofNat n : UInt8) &&& a).toNat : Int) := by rw [lit8 n h, u8_bin_and]
theorem u64_xor_r (a : UInt64) (n : Nat) (h : n < 18446744073709551616) : bits .xor .u64 (a.toNat : Int) (OfNat.ofNat n : Int) = ((a ^^^ (OfNat.ofNat n : UInt64)).toNat : Int) := by rw [lit64 n h, u64_bin_xor]
theorem u64_and_r (a : UInt64) (n : Nat) (h : n < 18446744073709551616) : bits .and .u64 (a.toNat : Int) (OfNat.ofNat n : Int) = ((a &&& (OfNat.ofNat n : UInt64)).toNat : Int) := by rw [lit64 n h, u64_bin_and]
theorem u64_or_r (a : UInt64) (n : Nat) (h : n < 18446744073709551616) : bits .or .u64 (a.toNat : Int) (OfNat.ofNat n : Int) = ((a ||| (OfNat.ofNat n : UInt64)).toNat : Int) := by rw [lit64 n h, u64_bin_or]

theorem u32_neg (a : UInt32) : -(a.toNat : Int) % 4294967296 = ((-a).toNat : Int) := by
  rw [UInt32.toNat_neg]; simp only [UInt32.size]; have := u32_lt a; omega
theorem u8_neg (a : UInt8) : -(a.toNat : Int) % 256 = ((-a).toNat : Int) := by
  rw [UInt8.toNat_neg]; simp only [UInt8.size]; have := u8_lt a; omega
theorem u64_neg (a : UInt64) : -(a.toNat : Int) % 18446744073709551616 = ((-a).toNat : Int) := by
  rw [UInt64.toNat_neg]; simp only [UInt64.size]; have := u64_lt a; omega

theorem u32_not (x : UInt32) : bits .xor .u32 IntKind.u32.max (x.toNat : Int) = ((~~~x).toNat : Int) := by
  have h : IntKind.u32.max = (((4294967295 : UInt32)).toNat : Int) := by decide
  rw [h, u32_bin_xor]
  congr 1
theorem u64_not (x : UInt64) : bits .xor .u64 IntKind.u64.max (x.toNat : Int) = ((~~~x).toNat : Int) := by
  have h : IntKind.u64.max = (((18446744073709551615 : UInt64)).toNat : Int) := by decide
  rw [h, u64_bin_xor]
  congr 1
theorem u32_shr (x : UInt32) (k : Nat) (hk : k < 32) : (x.toNat : Int) / ((2 ^ k : Nat) : Int) = ((x >>> (UInt32.ofNat k)).toNat : Int) := by
  have e : k % 2 ^ 32 % 32 = k := by rw [Nat.mod_eq_of_lt (Nat.lt_trans hk (by decide)), Nat.mod_eq_of_lt hk]
  rw [UInt32.toNat_shiftRight, UInt32.toNat_ofNat', e, Nat.shiftRight_eq_div_pow]
  exact (Int.natCast_ediv _ _).symm
theorem u64_shr (x : UInt64) (k : Nat) (hk : k < 64) : (x.toNat : Int) / ((2 ^ k : Nat) : Int) = ((x >>> (UInt64.ofNat k)).toNat : Int) := by
  have e : k % 2 ^ 64 % 64 = k := by rw [Nat.mod_eq_of_lt (Nat.lt_trans hk (by decide)), Nat.mod_eq_of_lt hk]
  rw [UInt64.toNat_shiftRight, UInt64.toNat_ofNat', e, Nat.shiftRight_eq_div_pow]
  exact (Int.natCast_ediv _ _).symm
theorem u8_shr (x : UInt8) (k : Nat) (hk : k < 8) : (x.toNat : Int) / ((2 ^ k : Nat) : Int) = ((x >>> (UInt8.ofNat k)).toNat : Int) := by
  have e : k % 2 ^ 8 % 8 = k := by rw [Nat.mod_eq_of_lt (Nat.lt_trans hk (by decide)), Nat.mod_eq_of_lt hk]
  rw [UInt8.toNat_shiftRight, UInt8.toNat_ofNat', e, Nat.shiftRight_eq_div_pow]
  exact (Int.natCast_ediv _ _).symm
theorem u32_shr1 (x : UInt32) : (x.toNat : Int) / (2 : Int) = ((x >>> 1).toNat : Int) := u32_shr x 1 (by decide)
theorem u32_shr4 (x : UInt32) : (x.toNat : Int) / (16 : Int) = ((x >>> 4).toNat : Int) := u32_shr x 4 (by decide)
theorem u64_shr1 (x : UInt64) : (x.toNat : Int) / (2 : Int) = ((x >>> 1).toNat : Int) := u64_shr x 1 (by decide)
theorem u64_shr7 (x : UInt64) : (x.toNat : Int) / (128 : Int) = ((x >>> 7).toNat : Int) := u64_shr x 7 (by decide)
theorem u8_shr1 (x : UInt8) : (x.toNat : Int) / (2 : Int) = ((x >>> 1).toNat : Int) := u8_shr x 1 (by decide)
theorem u8_shr7 (x : UInt8) : (x.toNat : Int) / (128 : Int) = ((x >>> 7).toNat : Int) := u8_shr x 7 (by decide)
end Go.Proofs.Yteenbobblbehoaa
