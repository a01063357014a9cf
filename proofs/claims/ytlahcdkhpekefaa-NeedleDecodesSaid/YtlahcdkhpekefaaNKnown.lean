/- Encode of both, said once; the law's known; NeedleSizes. Conditions: each contract's own premises. -/
import Derived.Test.YtlahcdkhpekefaaNRefEnc
import Derived.Lib.SlBytesConst
namespace Go.Proofs.Ytlahcdkhpekefaa
open Go Go.RowKit

/-- A needle's bytes, or why there are none. -/
def nEnc (key : UInt64) (ck : UInt32) (dead : Bool) (l : List UInt8) : List UInt8 × Nat :=
  if dead = true ∧ 0 < l.length then ([], 1) else if 65536 < l.length then ([], 5) else (needL key ck dead l, 0)
/-- What both give. -/
def NEP (w : World) (X : List UInt8 × Nat) (e : Ending) (w' : World) : Prop := ∃ a c, e = .returned (.tuple #[.slice a X.1.length c, .int .i64 (X.2 : Nat)]) ∧ Rd w' a c (B8 X.1) ∧ Below w.heap.size w w'

theorem nEnc_cases (key : UInt64) (ck : UInt32) (dead : Bool) (l : List UInt8) :
    (dead = true ∧ 0 < l.length ∧ nEnc key ck dead l = ([], 1)) ∨ (dead = false ∧ 65536 < l.length ∧ nEnc key ck dead l = ([], 5)) ∨ ((dead = true → l.length = 0) ∧ l.length ≤ 65536 ∧ nEnc key ck dead l = (needL key ck dead l, 0)) := by
  unfold nEnc
  by_cases h1 : dead = true ∧ 0 < l.length
  · left; exact ⟨h1.1, h1.2, if_pos h1⟩
  · right
    by_cases h2 : 65536 < l.length
    · left
      have : dead = false := by cases dead with | false => rfl | true => exact absurd ⟨rfl, by omega⟩ h1
      exact ⟨this, h2, by rw [if_neg h1, if_pos h2]⟩
    · right
      refine ⟨fun h => ?_, by omega, by rw [if_neg h1, if_neg h2]⟩
      rcases Nat.eq_zero_or_pos l.length with h0 | h0
      · exact h0
      · exact absurd ⟨h, h0⟩ h1

theorem nEncode_any (key : UInt64) (ck : UInt32) (dead : Bool) (ad : Option Addr) (c : Nat) (l : List UInt8) (w : World) (hr : Rd w ad c (B8 l)) :
    Calls Try.prog 9 #[needV key ck dead ad l.length c] w (NEP w (nEnc key ck dead l)) := by
  have hl := hr.le
  rw [B8_length] at hl
  rcases nEnc_cases key ck dead l with ⟨h1, h2, he⟩ | ⟨h1, h2, he⟩ | ⟨h1, h2, he⟩
  · rw [he]
    refine (nEncode_no key ck dead ad l.length c w 1 hl (.inl ⟨h1, h2, rfl⟩)).mono ?_
    rintro e w' ⟨rfl, hb⟩
    exact ⟨none, 0, rfl, Rd.none _, hb⟩
  · rw [he]
    refine (nEncode_no key ck dead ad l.length c w 5 hl (.inr ⟨h1, h2, rfl⟩)).mono ?_
    rintro e w' ⟨rfl, hb⟩
    exact ⟨none, 0, rfl, Rd.none _, hb⟩
  · rw [he]
    refine (nEncode_yes key ck dead ad c l w hr h2 h1).mono ?_
    rintro e w' ⟨g, rfl, hB, hg, hb⟩
    have hlen := needL_length key ck dead l
    have hle := sizeN_le l.length
    refine ⟨some ⟨g, 0, none⟩, sizeN l.length, by show _ = Ending.returned (.tuple #[.slice _ (needL key ck dead l).length _, _]); rw [hlen]; rfl, ?_, hb⟩
    exact (hB.rd (by omega)).cap' hlen

theorem refNEncode_any (key : UInt64) (ck : UInt32) (dead : Bool) (ad : Option Addr) (c : Nat) (l : List UInt8) (w : World) (hr : Rd w ad c (B8 l)) :
    Calls Try.prog 10 #[needV key ck dead ad l.length c] w (NEP w (nEnc key ck dead l)) := by
  have hl := hr.le
  rw [B8_length] at hl
  rcases nEnc_cases key ck dead l with ⟨h1, h2, he⟩ | ⟨h1, h2, he⟩ | ⟨h1, h2, he⟩
  · rw [he]
    refine (refNEncode_no key ck dead ad l.length c w 1 hl (.inl ⟨h1, h2, rfl⟩)).mono ?_
    rintro e w' ⟨rfl, hb⟩
    exact ⟨none, 0, rfl, Rd.none _, hb⟩
  · rw [he]
    refine (refNEncode_no key ck dead ad l.length c w 5 hl (.inr ⟨h1, h2, rfl⟩)).mono ?_
    rintro e w' ⟨rfl, hb⟩
    exact ⟨none, 0, rfl, Rd.none _, hb⟩
  · rw [he]
    refine (refNEncode_yes key ck dead ad c l w hr h2 h1).mono ?_
    rintro e w' ⟨r, rfl, ho, hb⟩
    obtain ⟨a, cap, rfl, hrd⟩ := Rd.ofOwn ho
    exact ⟨a, cap, by show _ = Ending.returned (.tuple #[.slice _ (needL key ck dead l).length _, _]); rw [needL_length]; rfl, hrd, hb⟩

theorem nKnown_enc (w : World) (a : Option Addr) (hr : Rd w a 5 (B8 [97, 98, 99, 100, 101])) :
    Calls Try.prog 9 #[.agg #[.int .u64 1, .int .u32 2, .bool false, .slice a 5 5]] w fun e w' => ∃ b o c, e = .returned (.tuple #[.slice (some ⟨b, o, none⟩) 40 c, .int .i64 0]) ∧ w'.cell? ⟨b, o, none⟩ = some (.int .u8 110) ∧ 40 ≤ c ∧ Below w.heap.size w w' := by
  refine (nEncode_any 1 2 false a 5 [97, 98, 99, 100, 101] w hr).mono ?_
  rintro e w' ⟨a', c', rfl, hrd, hb⟩
  have hlen : (nEnc 1 2 false [97, 98, 99, 100, 101]).1.length = 40 := by decide +kernel
  have h0 : (B8 (nEnc 1 2 false [97, 98, 99, 100, 101]).1)[0]? = some (.int .u8 110) := by
    have : (nEnc 1 2 false [97, 98, 99, 100, 101]).1[0]? = some 110 := by decide +kernel
    simp only [B8, List.getElem?_map, this]; rfl
  have h2 : (nEnc 1 2 false [97, 98, 99, 100, 101]).2 = 0 := by decide +kernel
  obtain ⟨b, o, rfl, hc⟩ := hrd.cs 0 _ h0
  have hcap := hrd.1
  rw [B8_length, hlen] at hcap
  exact ⟨b, o, c', by rw [hlen, h2]; rfl, hc, hcap, hb⟩

set_option maxRecDepth 100000 in
set_option maxHeartbeats 1000000 in
theorem nKnown_any (w : World) : Calls Try.prog 14 #[] w fun e w' => e = .returned (.bool true) ∧ Below w.heap.size w w' := by
  have kc := fun (w : World) (C : Array Value) (n c : Nat) => Lib.run_convert_bytes_const (P := Try.prog) w 24 5 C n c Try.underlying24 Try.underlying5
  go_enter Try.func14, Try.ntmps14
  go_wp2_with fail
  refine (nKnown_enc _ _ (Rd.lit w #[.int .u8 97, .int .u8 98, .int .u8 99, .int .u8 100, .int .u8 101] _ _ (by unfold maxLen; decide))).mono ?_
  rintro e w1 ⟨b, o, c, rfl, hc, hcap, hb⟩
  have hb1 : Below w.heap.size w w1 := ((Below.refl _ _).alloc (Nat.le_refl _) _).trans (hb.mono (by simp))
  clear hb
  have h4 : sizeZ 4 = 32 := by decide
  have hsz := size_any 4 w1
  rw [h4] at hsz
  go_wp2_with fail
  refine hsz.mono ?_
  rintro e w2 ⟨rfl, rfl⟩
  go_wp2
  go_ret
  exact ⟨rfl, hb1⟩

set_option maxRecDepth 100000 in
set_option maxHeartbeats 1000000 in
theorem needleSizes_any (n : Int) (w : World) (hn : -9223372036854775808 ≤ n ∧ n ≤ 9223372036854775807) :
    Calls Try.prog 4 #[.int .i64 n] w fun e w' => e = .returned (.bool true) ∧ Below w.heap.size w w' := by
  have h8 : (sizeZ n % 8 != 0) = false := by
    have : sizeZ n % 8 = 0 := by unfold sizeZ; split; rfl; split; rfl; omega
    rw [this]; rfl
  have hs0 : 32 ≤ sizeZ n := by unfold sizeZ; split; omega; split; omega; omega
  have hs1 : sizeZ n ≤ 65568 := by unfold sizeZ; split; omega; split; omega; omega
  have hS := size_any n
  have hR := refSize_any n
  by_cases h : n < 0 ∨ 65536 ≤ n
  · obtain ⟨s, hs⟩ : ∃ s, s = sizeZ n := ⟨_, rfl⟩
    rw [← hs] at h8 hs0 hs1 hS hR
    have HS := Lib.hid hS
    have HR := Lib.hid hR
    clear hs hS hR
    rcases h with h | h
    all_goals
      go_enter Try.func4, Try.ntmps4
      go_wp2_with fail
      refine (HS.out _).mono ?_
      rintro e w1 ⟨rfl, rfl⟩
      go_wp2_with fail
      refine (HR.out _).mono ?_
      rintro e w1 ⟨rfl, rfl⟩
      go_wp2_with fail
      refine (nKnown_any _).mono ?_
      rintro e w1 ⟨rfl, hb⟩
      go_wp2
      go_ret
      exact ⟨rfl, hb⟩
  · have h1 : 0 ≤ n := by omega
    have h2 : n < 65536 := by omega
    have hm := sizeZ_mid h1 (by omega : n ≤ 65536)
    have hm2 := sizeZ_mid (by omega : 0 ≤ n + 1) (by omega)
    have hS2 := size_any (n + 1)
    obtain ⟨s, hs⟩ : ∃ s, s = sizeZ n := ⟨_, rfl⟩
    obtain ⟨s2, hs2⟩ : ∃ s, s = sizeZ (n + 1) := ⟨_, rfl⟩
    rw [← hs] at h8 hs0 hs1 hS hR hm
    rw [← hs2] at hS2 hm2
    have g1 : n + 28 ≤ s := by omega
    have g2 : s < n + 36 := by omega
    have g3 : s ≤ s2 := by omega
    have HS := Lib.hid hS
    have HR := Lib.hid hR
    have HS2 := Lib.hid hS2
    clear hs hS hR hS2 hs2 hm hm2
    go_enter Try.func4, Try.ntmps4
    go_wp2_with fail
    refine (HS.out _).mono ?_
    rintro e w1 ⟨rfl, rfl⟩
    go_wp2_with fail
    refine (HR.out _).mono ?_
    rintro e w1 ⟨rfl, rfl⟩
    go_wp2_with fail
    refine (HS2.out _).mono ?_
    rintro e w1 ⟨rfl, rfl⟩
    go_wp2_with fail
    refine (nKnown_any _).mono ?_
    rintro e w1 ⟨rfl, hb⟩
    go_wp2
    go_ret
    exact ⟨rfl, hb⟩
end Go.Proofs.Ytlahcdkhpekefaa
