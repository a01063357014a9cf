/- Encode of a message, both, said once. Conditions: each contract's own premises. -/
import Derived.Test.YteenbobblbehoaaWRefEnc2
namespace Go.Proofs.Yteenbobblbehoaa
open Go Go.RowKit

/-- A message's bytes, or why there are none. -/
def wEnc (fr to kd : Int) (nums : List Int) (data : List UInt8) : List UInt8 × Nat :=
  if wBad fr to kd nums.length = true then ([], 1) else if 1047552 < data.length then ([], 5) else (encL (bodyL fr.toNat to.toNat kd.toNat nums data), 0)
/-- What both give. -/
def WAP (w : World) (X : List UInt8 × Nat) (e : Ending) (w' : World) : Prop := ∃ a c, e = .returned (.tuple #[.slice a X.1.length c, .int .i64 (X.2 : Nat)]) ∧ Rd w' a c (B8 X.1) ∧ Below w.heap.size w w'

theorem small_v {n : Int} (h : smallB n = true) : ∃ v : UInt64, n = (v.toNat : Int) ∧ n.toNat = v.toNat ∧ v.toNat ≤ 2147483647 := by
  simp only [smallB, Bool.and_eq_true, decide_eq_true_eq] at h
  refine ⟨UInt64.ofNat n.toNat, ?_⟩
  rw [UInt64.toNat_ofNat', Nat.mod_eq_of_lt (by omega)]
  omega

theorem wEnc_cases (fr to kd : Int) (nums : List Int) (data : List UInt8) :
    (wBad fr to kd nums.length = true ∧ wEnc fr to kd nums data = ([], 1)) ∨ (wBad fr to kd nums.length = false ∧ 1047552 < data.length ∧ wEnc fr to kd nums data = ([], 5)) ∨
      (smallB fr = true ∧ smallB to = true ∧ smallB kd = true ∧ nums.length ≤ 64 ∧ data.length ≤ 1047552 ∧ wEnc fr to kd nums data = (encL (bodyL fr.toNat to.toNat kd.toNat nums data), 0)) := by
  unfold wEnc
  cases h1 : wBad fr to kd nums.length with
  | true => left; exact ⟨rfl, if_pos rfl⟩
  | false =>
    right
    by_cases h2 : 1047552 < data.length
    · left; exact ⟨rfl, h2, by rw [if_neg (by simp), if_pos h2]⟩
    · right
      simp only [wBad, Bool.or_eq_false_iff, Bool.not_eq_false', decide_eq_false_iff_not] at h1
      exact ⟨h1.1, h1.2.1, h1.2.2.1, by omega, by omega, by rw [if_neg (by simp), if_neg h2]⟩

theorem wEncode_any (fr to kd : Int) (an : Option Addr) (cn : Nat) (nums : List Int) (ad : Option Addr) (cd : Nat) (data : List UInt8) (w : World)
    (hrn : Rd w an cn (BI nums)) (hbn : ∀ n ∈ nums, -9223372036854775808 ≤ n ∧ n ≤ 9223372036854775807) (hrd : Rd w ad cd (B8 data)) :
    Calls Try.prog 50 #[msgV fr to kd an nums.length cn ad data.length cd] w (WAP w (wEnc fr to kd nums data)) := by
  have hl := hrd.le
  rw [B8_length] at hl
  have hln := hrn.le
  have hBI : (BI nums).length = nums.length := by simp [BI]
  rw [hBI] at hln
  rcases wEnc_cases fr to kd nums data with ⟨h1, he⟩ | ⟨h1, h2, he⟩ | ⟨q0, q1, q2, h1, h2, he⟩
  · rw [he]
    refine (wEncode_no fr to kd an nums.length cn ad data.length cd w 1 hln hl (.inl ⟨h1, rfl⟩)).mono ?_
    rintro e w' ⟨rfl, hb⟩
    exact ⟨none, 0, rfl, Rd.none _, hb⟩
  · rw [he]
    refine (wEncode_no fr to kd an nums.length cn ad data.length cd w 5 hln hl (.inr ⟨h1, h2, rfl⟩)).mono ?_
    rintro e w' ⟨rfl, hb⟩
    exact ⟨none, 0, rfl, Rd.none _, hb⟩
  · rw [he]
    obtain ⟨v0, e0, t0, b0⟩ := small_v q0
    obtain ⟨v1, e1, t1, b1⟩ := small_v q1
    obtain ⟨v2, e2, t2, b2⟩ := small_v q2
    rw [t0, t1, t2, e0, e1, e2]
    refine (wEncode_yes v0 v1 v2 (by rw [← e0]; exact q0) (by rw [← e1]; exact q1) (by rw [← e2]; exact q2) an cn nums ad cd data w hrn hbn h1 hrd h2).mono ?_
    rintro e w' ⟨r, rfl, ho, hb⟩
    obtain ⟨a, cap, rfl, hrd⟩ := Rd.ofOwn ho
    exact ⟨a, cap, by show _ = Ending.returned (.tuple #[.slice _ (encL (bodyL v0.toNat v1.toNat v2.toNat nums data)).length _, _]); rw [encL_length]; rfl, hrd, hb⟩

theorem refWEncode_any (fr to kd : Int) (an : Option Addr) (cn : Nat) (nums : List Int) (ad : Option Addr) (cd : Nat) (data : List UInt8) (w : World)
    (hrn : Rd w an cn (BI nums)) (hbn : ∀ n ∈ nums, -9223372036854775808 ≤ n ∧ n ≤ 9223372036854775807) (hrd : Rd w ad cd (B8 data)) :
    Calls Try.prog 57 #[msgV fr to kd an nums.length cn ad data.length cd] w (WAP w (wEnc fr to kd nums data)) := by
  have hl := hrd.le
  rw [B8_length] at hl
  have hln := hrn.le
  have hBI : (BI nums).length = nums.length := by simp [BI]
  rw [hBI] at hln
  rcases wEnc_cases fr to kd nums data with ⟨h1, he⟩ | ⟨h1, h2, he⟩ | ⟨q0, q1, q2, h1, h2, he⟩
  · rw [he]
    refine (refWEncode_no fr to kd an nums.length cn ad data.length cd w 1 hln hl (.inl ⟨h1, rfl⟩)).mono ?_
    rintro e w' ⟨rfl, hb⟩
    exact ⟨none, 0, rfl, Rd.none _, hb⟩
  · rw [he]
    refine (refWEncode_no fr to kd an nums.length cn ad data.length cd w 5 hln hl (.inr ⟨h1, h2, rfl⟩)).mono ?_
    rintro e w' ⟨rfl, hb⟩
    exact ⟨none, 0, rfl, Rd.none _, hb⟩
  · rw [he]
    obtain ⟨v0, e0, t0, b0⟩ := small_v q0
    obtain ⟨v1, e1, t1, b1⟩ := small_v q1
    obtain ⟨v2, e2, t2, b2⟩ := small_v q2
    rw [t0, t1, t2, e0, e1, e2]
    refine (refWEncode_yes v0 v1 v2 b0 b1 b2 an cn nums ad cd data w hrn hbn h1 hrd h2).mono ?_
    rintro e w' ⟨r, rfl, ho, hb⟩
    obtain ⟨a, cap, rfl, hrd⟩ := Rd.ofOwn ho
    exact ⟨a, cap, by show _ = Ending.returned (.tuple #[.slice _ (encL (bodyL v0.toNat v1.toNat v2.toNat nums data)).length _, _]); rw [encL_length]; rfl, hrd, hb⟩

end Go.Proofs.Yteenbobblbehoaa
