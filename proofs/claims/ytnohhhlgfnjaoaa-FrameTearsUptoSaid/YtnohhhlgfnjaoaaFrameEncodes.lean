/- The law's known; FrameEncodes: for all bytes the law returns true. Conditions: none. -/
import Derived.Test.YtnohhhlgfnjaoaaEnc
import Derived.Test.YtnohhhlgfnjaoaaCom
import Derived.Test.YtnohhhlgfnjaoaaSpoil
namespace Go.Proofs.Ytnohhhlgfnjaoaa
open Go Go.RowKit

theorem encL_nil : encL [] = [0, 0, 0, 0, 33, 68, 223, 28] := by decide +kernel

set_option maxRecDepth 100000 in
set_option maxHeartbeats 1000000 in
theorem frameKnown_any (w : World) : Calls Try.prog 14 #[] w fun e w' => e = .returned (.bool true) ∧ Below w.heap.size w w' := by
  have h := encode_any w none 0 [] (Rd.none w) (by simp)
  rw [encL_nil] at h
  go_enter Try.func14, Try.ntmps14
  go_wp2_with fail
  refine h.mono ?_
  rintro e w1 ⟨r, rfl, ho, hb⟩
  obtain ⟨a, cap, rfl, hrd⟩ := Rd.ofOwn ho
  clear ho h
  go_wp2_with fail
  refine (same_true _ _ _ _ _ [0, 0, 0, 0, 33, 68, 223, 28] (hrd.kept ((Below.refl _ _).alloc (Nat.le_refl _) _)) (Rd.lit w1 #[.int .u8 0, .int .u8 0, .int .u8 0, .int .u8 0, .int .u8 33, .int .u8 68, .int .u8 223, .int .u8 28] _ _ (by unfold maxLen; decide))).mono ?_
  rintro e w2 ⟨rfl, hq2⟩
  have hb2 : Below w.heap.size w w2 := (hb.alloc hb.size _).trans (hq2.below _)
  go_wp2
  go_ret
  exact ⟨rfl, hb2⟩

set_option maxRecDepth 100000 in
set_option maxHeartbeats 1000000 in
theorem frameEncodes_any (a : Option Addr) (c : Nat) (l : List UInt8) (w : World) (hr : Rd w a c (B8 l)) :
    Calls Try.prog 3 #[.slice a l.length c] w fun e w' => e = .returned (.bool true) ∧ Below w.heap.size w w' := by
  by_cases hbig : 4000 < l.length
  · have hbd : (4000 : Int) < (l.length : Int) := by omega
    go_enter Try.func3, Try.ntmps3
    go_wp2
    go_ret
    exact ⟨rfl, Below.refl _ _⟩
  · have hbd : (l.length : Int) ≤ 4000 := by omega
    have hlen := encL_length l
    have HLEN := Lib.hid hlen
    clear hlen
    go_enter Try.func3, Try.ntmps3
    go_wp2_with fail
    refine (roomy_any w a c l hr (by omega)).mono ?_
    rintro e w1 ⟨gw, cw, rfl, hcw, hw1, hb1⟩
    have hra := hr.kept hb1
    have hpre := hw1.pre
    go_wp2_with fail
    refine (encode_any w1 _ cw l hpre (by omega)).mono ?_
    rintro e w2 ⟨r2, rfl, ho2, hb2⟩
    go_wp2_with fail
    refine (refEncode_any w2 a c l (hra.kept hb2) (by omega)).mono ?_
    rintro e w3 ⟨r3, rfl, ho3, hb3⟩
    have ho2' := own_below ho2 hb3
    have hb3' : Below w1.heap.size w1 w3 := hb2.trans (hb3.mono hb2.size)
    obtain ⟨a2, c2, rfl, hrd2⟩ := Rd.ofOwn ho2'
    obtain ⟨a3, c3, rfl, hrd3⟩ := Rd.ofOwn ho3
    have hsame := same_true w3 a2 a3 c2 c3 (encL l) hrd2 hrd3
    rw [HLEN.out] at hsame
    clear ho2 ho3
    go_wp2_with fail
    refine hsame.mono ?_
    rintro e w4 ⟨rfl, hq4⟩
    clear hsame
    have hb4 : Below w1.heap.size w1 w4 := hb3'.trans (hq4.below _)
    have ho4 := own_below ho2' (hq4.below _)
    clear ho2'
    go_wp2_with fail
    refine (spoil_any w4 w1.heap.size _ _ _ ho4 hb4.size (by omega)).mono ?_
    rintro e w5 ⟨rfl, hb5⟩
    have hb5' : Below w1.heap.size w1 w5 := hb4.trans hb5
    clear ho4
    go_wp2_with fail
    refine (stands_any w5 gw cw a c l (hw1.kept hb5') (hra.kept hb5')).mono ?_
    rintro e w6 ⟨rfl, hq6⟩
    go_wp2_with fail
    refine (frameKnown_any _).mono ?_
    rintro e w7 ⟨rfl, hb7⟩
    have hb6' : Below w1.heap.size w1 w6 := hb5'.trans (hq6.below _)
    go_wp2
    go_ret
    exact ⟨rfl, hb1.trans ((hb6'.trans (hb7.mono hb6'.size)).mono hb1.size)⟩
end Go.Proofs.Ytnohhhlgfnjaoaa
