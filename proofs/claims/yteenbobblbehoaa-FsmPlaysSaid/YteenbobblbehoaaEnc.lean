/- frame's Encode and the document's: the plain function, the contracts. Conditions: each contract's own premises. -/
import Derived.Test.YteenbobblbehoaaClone
import Derived.Test.YteenbobblbehoaaRefSum
import Derived.Test.YteenbobblbehoaaPut0
namespace Go.Proofs.Yteenbobblbehoaa
open Go Go.RowKit

/-- A record. -/
def encL (l : List UInt8) : List UInt8 := putL 4 l.length ++ putL 4 (crc (putL 4 l.length ++ l)).toNat ++ l
theorem encL_length (l : List UInt8) : (encL l).length = 8 + l.length := by unfold encL; simp [putL_length]; omega

set_option maxRecDepth 100000 in
set_option maxHeartbeats 1000000 in
theorem encode_any (w : World) (a : Option Addr) (c : Nat) (l : List UInt8) (hr : Rd w a c (B8 l)) (hl : l.length ≤ 1048576) :
    Calls Try.prog 69 #[.slice a l.length c] w fun e w' => ∃ r, e = .returned (.tuple #[r, .int .i64 0]) ∧ w'.ownsRow w.heap.size 5 1 r (8 + l.length) (B8 (encL l)) ∧ Below w.heap.size w w' := by
  obtain ⟨v, hv⟩ : ∃ v : UInt32, v.toNat = l.length := ⟨UInt32.ofNat l.length, by rw [UInt32.toNat_ofNat', Nat.mod_eq_of_lt (by omega)]⟩
  have hput := put32_any v w
  rw [hv] at hput
  obtain ⟨n, hn⟩ : ∃ n, n = putL 4 l.length := ⟨_, rfl⟩
  have hn4 : n.length = 4 := by rw [hn, putL_length]
  have hres : encL l = n ++ putL 4 (crc (n ++ l)).toNat ++ l := by rw [hn]; rfl
  rw [← hn] at hput
  have hll : (l.length : Int) ≤ 1048576 := by omega
  have HR := Lib.hid hres
  have HN4 := Lib.hid hn4
  clear hv hn hn4 hres
  go_enter Try.func69, Try.ntmps69
  go_wp2_with fail
  refine hput.mono ?_
  rintro e w1 ⟨r1, rfl, ho1, hb1⟩
  clear hput
  obtain ⟨a1, c1, rfl, hrd1⟩ := Rd.ofOwn ho1
  go_wp2_with fail
  refine (clone_any w1 a1 c1 4 n HN4.out.symm hrd1 (by have := HN4.out; omega)).mono ?_
  rintro e w2 ⟨r2, rfl, ho2, hb2⟩
  have hb2' := hb1.trans (hb2.mono hb1.size)
  have hp2 := hr.kept hb2'
  go_wp2_with (with_reducible refine At.slot 16 ?_)
  refine At.out (wpList_app rfl (.tmp 14) (.tmp 15) 31 rfl elemB rfl w1.heap.size _ 4 _ rfl ho2 a l.length c (B8 l) rfl (B8_length l).symm hp2 (B8_one _) (by unfold maxLen; omega) (by omega) hb2.size ?_)
  intro v3 w3 ho3 hb3 hg3
  have hb3' : Below w1.heap.size w1 w3 := hb2.trans hb3
  have ho1' := own_below ho1 hb3'
  obtain ⟨a3, c3, rfl, hrd3⟩ := Rd.ofOwn ho3
  rw [← B8_append] at hrd3
  have hsum := sum_any w3 a3 c3 (n ++ l) hrd3
  rw [show (n ++ l).length = 4 + l.length from by rw [List.length_append, HN4.out]] at hsum
  obtain ⟨s, hs⟩ : ∃ s, s = crc (n ++ l) := ⟨_, rfl⟩
  rw [← hs] at hsum
  have HS := Lib.hid hs
  clear hs ho1 ho2 ho3 hg3
  go_wp2_with fail
  refine hsum.mono ?_
  rintro e w4 ⟨rfl, hb4⟩
  clear hsum
  have ho4 := own_below ho1' hb4
  have hb4' : Below w1.heap.size w1 w4 := hb3'.trans (hb4.mono hb3'.size)
  go_wp2_with fail
  refine (put32_any s w4).mono ?_
  rintro e w5 ⟨r5, rfl, ho5, hb5⟩
  have ho5' := own_below ho4 hb5
  have hb5' : Below w1.heap.size w1 w5 := hb4'.trans (hb5.mono hb4'.size)
  have hw5 : Below w.heap.size w w5 := hb1.trans (hb5'.mono hb1.size)
  obtain ⟨a5, c5, rfl, hrd5⟩ := Rd.ofOwn ho5
  clear ho4
  go_wp2_with (with_reducible refine At.slot 21 ?_)
  refine At.out (wpList_app rfl (.tmp 18) (.tmp 20) 31 rfl elemB rfl w.heap.size _ 4 _ rfl ho5' a5 4 c5 (B8 (putL 4 s.toNat)) rfl (by rw [B8_length, putL_length]) hrd5 (B8_one _) (by unfold maxLen; omega) (by omega) hw5.size ?_)
  intro v6 w6 ho6 hb6 _
  have hw6 : Below w.heap.size w w6 := hw5.trans hb6
  clear ho5 ho5' hb5
  go_wp2_with (with_reducible refine At.slot 23 ?_)
  refine At.out (wpList_app rfl (.tmp 21) (.tmp 22) 31 rfl elemB rfl w.heap.size _ _ _ rfl ho6 a l.length c (B8 l) rfl (B8_length l).symm (hr.kept hw6) (B8_one _) (by unfold maxLen; omega) (by omega) hw6.size ?_)
  intro v7 w7 ho7 hb7 _
  go_wp2
  go_ret2
  refine ⟨v7, rfl, ?_, hw6.trans hb7⟩
  rw [HR.out, ← HS.out, B8_append, B8_append]
  exact ho7

set_option maxRecDepth 100000 in
set_option maxHeartbeats 1000000 in
/-- The document's Encode. -/
theorem refEncode_any (w : World) (a : Option Addr) (c : Nat) (l : List UInt8) (hr : Rd w a c (B8 l)) (hl : l.length ≤ 1048576) :
    Calls Try.prog 73 #[.slice a l.length c] w fun e w' => ∃ r, e = .returned (.tuple #[r, .int .i64 0]) ∧ w'.ownsRow w.heap.size 5 1 r (8 + l.length) (B8 (encL l)) ∧ Below w.heap.size w w' := by
  obtain ⟨v, hv⟩ : ∃ v : UInt32, v.toNat = l.length := ⟨UInt32.ofNat l.length, by rw [UInt32.toNat_ofNat', Nat.mod_eq_of_lt (by omega)]⟩
  have hput := refPut32_any v w
  rw [hv] at hput
  obtain ⟨n, hn⟩ : ∃ n, n = putL 4 l.length := ⟨_, rfl⟩
  have hn4 : n.length = 4 := by rw [hn, putL_length]
  have hres : encL l = n ++ putL 4 (crc (n ++ l)).toNat ++ l := by rw [hn]; rfl
  rw [← hn] at hput
  have hll : (l.length : Int) ≤ 1048576 := by omega
  have HR := Lib.hid hres
  have HN4 := Lib.hid hn4
  clear hv hn hn4 hres
  go_enter Try.func73, Try.ntmps73
  go_wp2_with fail
  refine hput.mono ?_
  rintro e w1 ⟨r1, rfl, ho1, hb1⟩
  clear hput
  obtain ⟨a1, c1, rfl, hrd1⟩ := Rd.ofOwn ho1
  go_wp2_with (with_reducible refine At.slot 15 ?_)
  refine At.out (wpList_app rfl (.tmp 13) (.tmp 14) 31 rfl elemB rfl w1.heap.size _ 0 [] rfl (own_empty w1 _) a1 4 c1 (B8 n) rfl (by rw [B8_length, HN4.out]) (hrd1.kept ((Below.refl _ _).alloc (Nat.le_refl _) _)) (B8_one _) (by unfold maxLen; omega) (by omega) (by simp) ?_)
  intro v2 w2 ho2 hb2 hg2
  have hb2' : Below w1.heap.size w1 w2 := ((Below.refl _ _).alloc (Nat.le_refl _) _).trans hb2
  have hw2 : Below w.heap.size w w2 := hb1.trans (hb2'.mono hb1.size)
  rw [Nat.zero_add, List.nil_append] at ho2
  clear hg2
  go_wp2_with (with_reducible refine At.slot 17 ?_)
  refine At.out (wpList_app rfl (.tmp 15) (.tmp 16) 31 rfl elemB rfl w1.heap.size _ 4 _ rfl ho2 a l.length c (B8 l) rfl (B8_length l).symm (hr.kept hw2) (B8_one _) (by unfold maxLen; omega) (by omega) hb2'.size ?_)
  intro v3 w3 ho3 hb3 hg3
  have hb3' : Below w1.heap.size w1 w3 := hb2'.trans hb3
  have ho1' := own_below ho1 hb3'
  obtain ⟨a3, c3, rfl, hrd3⟩ := Rd.ofOwn ho3
  rw [← B8_append] at hrd3
  have hsum := refSum_any w3 a3 c3 (n ++ l) hrd3
  rw [show (n ++ l).length = 4 + l.length from by rw [List.length_append, HN4.out]] at hsum
  obtain ⟨s, hs⟩ : ∃ s, s = crc (n ++ l) := ⟨_, rfl⟩
  rw [← hs] at hsum
  have HS := Lib.hid hs
  clear hs ho1 ho2 ho3 hg3
  go_wp2_with fail
  refine hsum.mono ?_
  rintro e w4 ⟨rfl, hb4⟩
  clear hsum
  have ho4 := own_below ho1' hb4
  have hb4' : Below w1.heap.size w1 w4 := hb3'.trans (hb4.mono hb3'.size)
  go_wp2_with fail
  refine (refPut32_any s w4).mono ?_
  rintro e w5 ⟨r5, rfl, ho5, hb5⟩
  have ho5' := own_below ho4 hb5
  have hb5' : Below w1.heap.size w1 w5 := hb4'.trans (hb5.mono hb4'.size)
  have hw5 : Below w.heap.size w w5 := hb1.trans (hb5'.mono hb1.size)
  obtain ⟨a5, c5, rfl, hrd5⟩ := Rd.ofOwn ho5
  clear ho4
  go_wp2_with (with_reducible refine At.slot 22 ?_)
  refine At.out (wpList_app rfl (.tmp 20) (.tmp 21) 31 rfl elemB rfl w.heap.size _ 4 _ rfl ho5' a5 4 c5 (B8 (putL 4 s.toNat)) rfl (by rw [B8_length, putL_length]) hrd5 (B8_one _) (by unfold maxLen; omega) (by omega) hw5.size ?_)
  intro v6 w6 ho6 hb6 _
  have hw6 : Below w.heap.size w w6 := hw5.trans hb6
  clear ho5 ho5' hb5
  go_wp2_with (with_reducible refine At.slot 24 ?_)
  refine At.out (wpList_app rfl (.tmp 22) (.tmp 23) 31 rfl elemB rfl w.heap.size _ _ _ rfl ho6 a l.length c (B8 l) rfl (B8_length l).symm (hr.kept hw6) (B8_one _) (by unfold maxLen; omega) (by omega) hw6.size ?_)
  intro v7 w7 ho7 hb7 _
  go_wp2
  go_ret2
  refine ⟨v7, rfl, ?_, hw6.trans hb7⟩
  rw [HR.out, ← HS.out, B8_append, B8_append]
  exact ho7
end Go.Proofs.Yteenbobblbehoaa
