/- BitsSums: for every row of bytes the law returns true. Conditions: none. -/
import Derived.Test.YtelmjcalacdncaaKnown1
namespace Go.Proofs.Ytelmjcalacdncaa
open Go Go.RowKit

theorem lawEven (x : UInt32) (h : x &&& 1 = 0) : bits BinOp.and IntKind.u32 (x.toNat : Int) 1 = 0 ∧ (x.toNat : Int) / 2 = ((bitStep x).toNat : Int) := by
  refine ⟨by rw [u32_and_r x 1 (by decide)]; show ((x &&& 1).toNat : Int) = 0; rw [h]; rfl, ?_⟩
  unfold bitStep
  rw [h, if_neg (by decide), u32_shr1]
theorem lawOdd (x : UInt32) (h : x &&& 1 = 1) : bits BinOp.and IntKind.u32 (x.toNat : Int) 1 = 1 ∧ bits BinOp.xor IntKind.u32 ((x.toNat : Int) / 2) 3988292384 = ((bitStep x).toNat : Int) := by
  refine ⟨by rw [u32_and_r x 1 (by decide)]; show ((x &&& 1).toNat : Int) = 1; rw [h]; rfl, ?_⟩
  unfold bitStep
  rw [h, if_pos rfl, u32_shr1, u32_xor_r _ _ (by decide)]

set_option maxRecDepth 100000 in
set_option maxHeartbeats 1000000 in
theorem bitsSums_walk (a : Option Addr) (c : Nat) (l : List UInt8) (w : World) (hr : Rd w a c (B8 l)) :
    Calls Try.prog 3 #[.slice a l.length c] w fun e w' => e = .returned (.bool true) ∧ Below w.heap.size w w' := by
  have hl := hr.le
  rw [B8_length] at hl
  by_cases hbig : 3000 < l.length
  · go_enter Try.func3, Try.ntmps3
    go_wp2
    go_ret
    exact ⟨rfl, Below.refl _ _⟩
  · have hbd : decide ((3000 : Int) < (l.length : Int)) = false := by simp; omega
    go_enter Try.func3, Try.ntmps3
    go_wp2
    go_loop [3, 4, 5, 6] (fun v i _ _ => ∃ (k : Nat) (x : UInt32), k ≤ l.length ∧ i = .int .i64 k ∧ v = .int .u32 x.toNat ∧ x = crcRun 0xffffffff (l.take k)) (fun _ i _ _ => l.length - (intOf i).toNat)
    case atStart => exact ⟨0, 0xffffffff, by omega, rfl, rfl, rfl⟩
    case round =>
      obtain ⟨k, x, hk, rfl, rfl, hx⟩ := hrel
      have HX := Lib.hid hx; clear hx
      by_cases hlt : k < l.length
      · obtain ⟨b1, o1, rfl, hc1⟩ := hr.cs.b8 k hlt
        have hi : (k : Int) < (l.length : Int) := by omega
        have hlc := u8_lt l[k]
        have s0 := crcByte_step x l[k]
        obtain ⟨y0, hy0⟩ : ∃ y, y = x ^^^ l[k].toUInt32 := ⟨_, rfl⟩
        rw [← hy0] at s0
        have Hy0 := Lib.hid hy0; clear hy0
        go_wp2
        go_loop [3, 5, 6] (fun v j _ => ∃ (m : Nat) (y : UInt32), m ≤ 8 ∧ j = .int .i64 m ∧ v = .int .u32 y.toNat ∧ y = bitN m y0) (fun _ j _ => 8 - (intOf j).toNat)
        case atStart => exact ⟨0, y0, by omega, rfl, rfl, rfl⟩
        case round =>
          obtain ⟨m, y, hm, rfl, rfl, hy⟩ := hrel
          have HY := Lib.hid hy; clear hy
          by_cases hm8 : m < 8
          · rcases and1_cases y with h | h
            · obtain ⟨e1, e2⟩ := lawEven y h
              clear h
              go_wp2
              go_round
              case rel => exact ⟨m + 1, bitStep y, by omega, by go_num, rfl, by rw [bitN_succ, ← HY.out]⟩
              case measure => simp [intOf]; omega
            · obtain ⟨e1, e2⟩ := lawOdd y h
              clear h
              go_wp2
              go_round
              case rel => exact ⟨m + 1, bitStep y, by omega, by go_num, rfl, by rw [bitN_succ, ← HY.out]⟩
              case measure => simp [intOf]; omega
          · go_wp2
            go_round
            case rel =>
              refine ⟨k + 1, y, by omega, by go_num, rfl, ?_⟩
              obtain rfl : m = 8 := by omega
              rw [List.take_succ_eq_append_getElem hlt, crcRun_append]
              show y = crcByte _ _
              rw [crcByte_bits, HY.out, Hy0.out, HX.out]
            case measure => simp [intOf]; omega
      · have hx := HX.out
        rw [List.take_of_length_le (by omega)] at hx
        have HX2 := Lib.hid hx; clear hx HX
        go_wp2_with fail
        refine (roomy_any w a c l hr (by omega)).mono ?_
        rintro e w1 ⟨g, cap, rfl, hcap, hrd, hb⟩
        go_wp2_with fail
        refine (sum_any w1 _ _ l hrd.pre).mono ?_
        rintro e w2 ⟨rfl, hb2⟩
        have hsum : bits BinOp.xor IntKind.u32 IntKind.u32.max (x.toNat : Int) = ((crc l).toNat : Int) := by
          rw [u32_not, HX2.out]; rfl
        have hbB : Below w.heap.size w w2 := hb.trans (hb2.mono hb.size)
        have hrd2 := hrd.kept hb2
        have hr2 := hr.kept hbB
        clear hb hb2 hrd hr
        go_wp2_with fail
        refine (stands_any _ _ _ _ _ l hrd2 hr2).mono ?_
        rintro e w3 ⟨rfl, hq⟩
        have hb3 := hbB.trans (hq.below _)
        clear hq hbB
        go_wp2_with fail
        refine (known_any _).mono ?_
        rintro e w4 ⟨rfl, hb4⟩
        go_wp2
        go_ret
        exact ⟨rfl, hb3.trans (hb4.mono hb3.size)⟩
end Go.Proofs.Ytelmjcalacdncaa
