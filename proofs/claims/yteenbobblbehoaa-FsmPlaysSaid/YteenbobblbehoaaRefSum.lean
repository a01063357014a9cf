/- The document's digit and Sum: the contracts. Conditions: each contract's own premises. -/
import Derived.Test.YteenbobblbehoaaSum
namespace Go.Proofs.Yteenbobblbehoaa
open Go Go.RowKit

theorem bit_odd_int (x : UInt32) (h : x.toNat % 2 = 1) : bits BinOp.xor IntKind.u32 ((x.toNat : Int) / 2) 3988292384 = ((halfStep x).toNat : Int) := by
  have h1 : x &&& 1 = 1 := by
    rcases and1_cases x with h0 | h0
    · have := congrArg UInt32.toNat h0
      rw [UInt32.toNat_and] at this
      have e : x.toNat &&& 1 = x.toNat % 2 := Nat.and_two_pow_sub_one_eq_mod x.toNat 1
      change x.toNat &&& 1 = 0 at this
      omega
    · exact h0
  rw [halfStep_eq, bitStep, if_pos h1, u32_shr1, u32_xor_r _ _ (by decide)]
theorem bit_even_int (x : UInt32) (h : ¬ x.toNat % 2 = 1) : ((x.toNat : Int) / 2) = ((halfStep x).toNat : Int) := by
  have h1 : ¬ x &&& 1 = 1 := by
    intro h0
    have := congrArg UInt32.toNat h0
    rw [UInt32.toNat_and] at this
    have e : x.toNat &&& 1 = x.toNat % 2 := Nat.and_two_pow_sub_one_eq_mod x.toNat 1
    change x.toNat &&& 1 = 1 at this
    omega
  rw [halfStep_eq, bitStep, if_neg h1, u32_shr1]

set_option maxRecDepth 100000 in
set_option maxHeartbeats 400000 in
theorem refDigit_any (n : UInt32) (w : World) :
    Calls Try.prog 63 #[.int .u32 n.toNat] w fun e w' => e = .returned (.int .u32 (halfF n).toNat) ∧ w' = w := by
  go_enter Try.func63, Try.ntmps63
  go_wp2
  go_loop [0, 3] (fun v i => ∃ (k : Nat) (x : UInt32), k ≤ 4 ∧ i = .int .i64 k ∧ v = .int .u32 x.toNat ∧ Hid (halfN (4 - k) x = halfF n)) (fun _ i => 4 - (intOf i).toNat)
  case atStart => exact ⟨0, n, by omega, rfl, rfl, Lib.hid rfl⟩
  case round =>
    obtain ⟨k, x, hk, rfl, rfl, HX⟩ := hrel
    by_cases hlt : k < 4
    · have hi : (k : Int) < 4 := by omega
      have hn : Hid (halfN (4 - (k + 1)) (halfStep x) = halfF n) := by
        apply Lib.hid
        rw [← HX.out, show 4 - k = (4 - (k + 1)) + 1 by omega]; rfl
      by_cases hb : x.toNat % 2 = 1
      · have hst := bit_odd_int x hb
        have hbb : ((x.toNat : Int) % 2 == 1) = true := by rw [beq_iff_eq]; omega
        obtain ⟨y, hy⟩ : ∃ y, y = halfStep x := ⟨_, rfl⟩
        rw [← hy] at hst hn
        have HS := Lib.hid hst
        clear hb hy hst
        go_wp2
        go_round
        case rel => exact ⟨k + 1, y, by omega, by go_num, by rw [Int.emod_eq_of_lt (by omega) (by have := u32_lt x; omega), HS.out], hn⟩
        case measure => simp [intOf]; omega
      · have hst := bit_even_int x hb
        have hbb : ((x.toNat : Int) % 2 == 1) = false := by rw [beq_eq_false_iff_ne]; omega
        obtain ⟨y, hy⟩ : ∃ y, y = halfStep x := ⟨_, rfl⟩
        rw [← hy] at hst hn
        have HS := Lib.hid hst
        clear hb hy hst
        go_wp2
        go_round
        case rel => exact ⟨k + 1, y, by omega, by go_num, by rw [Int.emod_eq_of_lt (by omega) (by have := u32_lt x; omega), HS.out], hn⟩
        case measure => simp [intOf]; omega
    · obtain rfl : k = 4 := by omega
      go_wp2
      go_ret
      exact ⟨ret_int (by rw [← HX.out]; rfl), rfl⟩

theorem refDigit_nat (k : Nat) (hk : k < 16) (w : World) :
    Calls Try.prog 63 #[.int .u32 (k : Int)] w fun e w' => e = .returned (.int .u32 (crcTab (UInt32.ofNat k)).toNat) ∧ w' = w := by
  have h := refDigit_any (UInt32.ofNat k) w
  rwa [UInt32.toNat_ofNat', Nat.mod_eq_of_lt (by omega)] at h

theorem nib_stepR (y : UInt32) : ∃ (i : Nat) (t : UInt32), i < 16 ∧ (y.toNat : Int) % 16 = (i : Int) ∧ tabC.toList[i]? = some (.int .u32 (t.toNat : Int)) ∧
    bits .xor .u32 ((y.toNat : Int) / 16) (t.toNat : Int) = ((nib y).toNat : Int) := by
  obtain ⟨i, t, h1, h2, h3, h4⟩ := nib_step y
  refine ⟨i, t, h1, ?_, h3, h4⟩
  rw [← h2, u32_and_r y 15 (by decide), UInt32.toNat_and]
  have e : y.toNat &&& 15 = y.toNat % 16 := Nat.and_two_pow_sub_one_eq_mod y.toNat 4
  show _ = ((y.toNat &&& 15 : Nat) : Int)
  rw [e]; omega

set_option maxRecDepth 100000 in
set_option maxHeartbeats 1000000 in
/-- The document's Sum. -/
theorem refSum_any (w : World) (a : Option Addr) (c : Nat) (l : List UInt8) (hr : Rd w a c (B8 l)) :
    Calls Try.prog 42 #[.slice a l.length c] w fun e w' => e = .returned (.int .u32 (crc l).toNat) ∧ Below w.heap.size w w' := by
  have hl : l.length ≤ 9223372036854775807 := by have := hr.le; rwa [B8_length] at this
  go_enter Try.func42, Try.ntmps42
  go_wp2
  go_loopw [4] (fun i wr => ∃ (k : Nat) (C : Array Value), k ≤ 16 ∧ i = .int .i64 k ∧ wr = w.alloc (.cells C 91) ∧ TabTo C k) (fun i _ => 16 - (intOf i).toNat)
  case atStart => exact ⟨0, _, by omega, rfl, rfl, rfl, by omega⟩
  case round =>
    obtain ⟨k, C, hk, rfl, rfl, hC⟩ := hrel
    by_cases hlt : k < 16
    · have hsz := hC.1
      obtain ⟨old, hold⟩ : ∃ old, C[k]? = some old := ⟨C[k], Array.getElem?_eq_getElem (by omega)⟩
      have hkC : k < C.size := by omega
      go_wp2_with fail
      refine (refDigit_nat k hlt _).mono ?_
      rintro e w1 ⟨rfl, rfl⟩
      go_wp2
      go_roundw
      case rel => exact ⟨k + 1, C.setIfInBounds k (tabV k), by omega, by go_num, rfl, tabTo_set hC hlt⟩
      case measure => simp [intOf]; omega
    · have : k = 16 := by omega
      subst this
      obtain rfl := tabC_eq C hC.1 hC.2
      obtain ⟨W, hW⟩ : ∃ W, W = w.alloc (.cells tabC 91) := ⟨_, rfl⟩
      have hB : Below w.heap.size w W := by rw [hW]; exact (Below.refl _ _).alloc (Nat.le_refl _) _
      have hT : Cs W (some ⟨w.heap.size, 0, none⟩) tabC.toList := by
        intro j u hu
        refine ⟨_, _, rfl, ?_⟩
        rw [hW, cell_of_row _ w.heap.size (0 + j) tabC 91 (0, 0) (heap_alloc_last w _)]
        simpa using hu
      have hD : Cs W a (B8 l) := hr.cs.kept hB
      rw [← hW]
      clear hW hC
      go_wp2
      go_loop [5, 6] (fun v i => ∃ (k : Nat) (x : UInt32), k ≤ l.length ∧ i = .int .i64 k ∧ v = .int .u32 x.toNat ∧ Hid (x = crcRun 0xffffffff (l.take k))) (fun _ i => l.length - (intOf i).toNat)
      case atStart => exact ⟨0, 0xffffffff, by omega, rfl, rfl, Lib.hid rfl⟩
      case round =>
        obtain ⟨k, x, hk, rfl, rfl, HX⟩ := hrel
        by_cases hlt : k < l.length
        · obtain ⟨b1, o1, rfl, hc1⟩ := hD.b8 k hlt
          have hi : (k : Int) < (l.length : Int) := by omega
          have hlc := u8_lt l[k]
          obtain ⟨y0, hy0⟩ : ∃ y, y = x ^^^ l[k].toUInt32 := ⟨_, rfl⟩
          have s0 := crcByte_step x l[k]
          rw [← hy0] at s0
          have Hy0 := Lib.hid hy0; clear hy0
          obtain ⟨i0, t0, hi0, s1, g0, s2⟩ := nib_stepR y0
          obtain ⟨y1, hy1⟩ : ∃ y, y = nib y0 := ⟨_, rfl⟩
          rw [← hy1] at s2
          have Hy1 := Lib.hid hy1; clear hy1
          obtain ⟨i1, t1, hi1, s3, g1, s4⟩ := nib_stepR y1
          obtain ⟨y2, hy2⟩ : ∃ y, y = nib y1 := ⟨_, rfl⟩
          rw [← hy2] at s4
          have Hy2 := Lib.hid hy2; clear hy2
          have c0 : W.cell? ⟨w.heap.size, i0, none⟩ = some (.int .u32 (t0.toNat : Int)) := by
            obtain ⟨b, o, hab, hc⟩ := hT i0 _ g0
            simp at hab; obtain ⟨rfl, rfl⟩ := hab; simpa using hc
          have c1 : W.cell? ⟨w.heap.size, i1, none⟩ = some (.int .u32 (t1.toNat : Int)) := by
            obtain ⟨b, o, hab, hc⟩ := hT i1 _ g1
            simp at hab; obtain ⟨rfl, rfl⟩ := hab; simpa using hc
          clear g0 g1
          have hi0' : (i0 : Int) < 16 := by omega
          have hi1' : (i1 : Int) < 16 := by omega
          go_wp2
          go_round
          case rel =>
            refine ⟨k + 1, y2, by omega, by go_num, rfl, ?_⟩
            apply Lib.hid
            rw [List.take_succ_eq_append_getElem hlt]
            unfold crcRun
            rw [List.foldl_append]
            show y2 = crcByte _ _
            have := HX.out; unfold crcRun at this
            rw [← this, Hy2.out, Hy1.out, Hy0.out]; rfl
          case measure => simp [intOf]; omega
        · go_wp2
          go_ret
          refine ⟨ret_int ?_, hB⟩
          have hx := HX.out
          rw [List.take_of_length_le (by omega)] at hx
          rw [u32_not, hx]; rfl
end Go.Proofs.Yteenbobblbehoaa
