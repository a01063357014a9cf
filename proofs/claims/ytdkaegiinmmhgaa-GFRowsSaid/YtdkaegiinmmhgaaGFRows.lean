/- GFRows: for all rows and numbers the law returns true. Conditions: none. -/
import Derived.Test.YtdkaegiinmmhgaaGfPow
import Derived.Test.YtdkaegiinmmhgaaGfRows
import Derived.Test.YtdkaegiinmmhgaaSpoil
namespace Go.Proofs.Ytdkaegiinmmhgaa
open Go Go.RowKit

theorem dotV_same {l m : List UInt8} (h : l.length = m.length) : dotV l m = .tuple #[.int .u8 (gdot l m).toNat, .int .i64 0] := if_pos h
theorem dotV_other {l m : List UInt8} (h : l.length ≠ m.length) : dotV l m = .tuple #[.int .u8 0, .int .i64 1] := if_neg h
theorem gadd_length {l m : List UInt8} (h : l.length = m.length) : (gadd l m).length = l.length := by unfold gadd; rw [List.length_zipWith, h, Nat.min_self]

set_option maxRecDepth 100000 in
set_option maxHeartbeats 2000000 in
theorem gFRows_big (a1 a2 : Option Addr) (c1 c2 : Nat) (l m : List UInt8) (x : UInt8) (w : World) (hl2 : l.length ≤ 140737488351232) (hm2 : m.length ≤ 140737488351232) (hbig : 2000 < l.length + m.length) :
    Calls Try.prog 7 #[.slice a1 l.length c1, .slice a2 m.length c2, .int .u8 x.toNat] w fun e w' => e = .returned (.bool true) ∧ Below w.heap.size w w' := by
  have hbd : (2000 : Int) < (l.length : Int) + (m.length : Int) := by omega
  go_enter Try.func7, Try.ntmps7
  go_wp2
  go_ret
  exact ⟨rfl, Below.refl _ _⟩

set_option maxRecDepth 100000 in
set_option maxHeartbeats 2000000 in
theorem gFRows_same (a1 a2 : Option Addr) (c1 c2 : Nat) (l m : List UInt8) (x : UInt8) (w : World) (h1 : Rd w a1 c1 (B8 l)) (h2 : Rd w a2 c2 (B8 m)) (hsm : l.length + m.length ≤ 2000) (hlen : l.length = m.length) :
    Calls Try.prog 7 #[.slice a1 l.length c1, .slice a2 m.length c2, .int .u8 x.toNat] w fun e w' => e = .returned (.bool true) ∧ Below w.heap.size w w' := by
  have hdot := dotV_same hlen
  have hgl := gadd_length hlen
  have HGL := Lib.hid hgl
  have HD := Lib.hid hdot
  have HL := Lib.hid hlen
  have hbd : (l.length : Int) + (m.length : Int) ≤ 2000 := by omega
  have hl2 : l.length ≤ 2000 := by omega
  have hm2 : m.length ≤ 2000 := by omega
  clear hdot hgl hlen hsm
  go_enter Try.func7, Try.ntmps7
  go_wp2_with fail
  refine (roomy_any w a1 c1 l h1 (by omega)).mono ?_
  rintro e w1 ⟨gw, cw, rfl, hcw, hw1, hb1⟩
  have h1a := h1.kept hb1
  have h2a := h2.kept hb1
  have hpre := hw1.pre
  go_wp2_with fail
  refine (scale_any w1 _ cw l x hpre (by omega)).mono ?_
  rintro e w2 ⟨gs, rfl, hs2, hb2⟩
  have hpre2 := hpre.kept hb2
  have h2b := h2a.kept hb2
  have hbs2 := hb2.size
  go_wp2_with fail
  refine (add_same w2 _ _ cw c2 l m HL.out hpre2 h2b (by omega)).mono ?_
  rintro e w3 ⟨gt, rfl, ht3, hb3⟩
  have hb3' := hb2.trans (hb3.mono hbs2)
  have hs3 := own_below hs2 hb3
  go_wp2_with fail
  have hdd := dot_any w3 (some ⟨gw, 0, none⟩) a2 cw c2 l m (hpre.kept hb3') (h2a.kept hb3')
  rw [HD.out] at hdd
  refine hdd.mono ?_
  rintro e w4 ⟨rfl, hq4⟩
  clear hdd
  go_wp2_with fail
  have hdd := refDot_any w4 a1 a2 c1 c2 l m ((h1a.kept hb3').kept (hq4.below _)) ((h2a.kept hb3').kept (hq4.below _))
  rw [HD.out] at hdd
  refine hdd.mono ?_
  rintro e w5 ⟨rfl, hq5⟩
  clear hdd
  have hb5 := (hb3'.trans (hq4.below _)).trans (hq5.below _)
  have hs5 := own_below (own_below hs3 (hq4.below _)) (hq5.below _)
  have ht5 := own_below (own_below ht3 (hq4.below _)) (hq5.below _)
  go_wp2_with fail
  refine (stands_any w5 gw cw a1 c1 l (hw1.kept hb5) (h1a.kept hb5)).mono ?_
  rintro e w6 ⟨rfl, hq6⟩
  have hb6 := hb5.trans (hq6.below _)
  have hs6 := own_below hs5 (hq6.below _)
  have ht6 := own_below ht5 (hq6.below _)
  clear hs5 ht5 hs3 ht3 hs2 hb5 hb3' hb3
  go_wp2
  go_loopw [15] (fun s15 wr => ∃ (k : Nat), k ≤ l.length ∧ s15 = .int .i64 k ∧ Qt w6 wr) (fun s15 _ => l.length - (intOf s15).toNat)
  case atStart => exact ⟨0, by omega, rfl, Qt.refl _⟩
  case round =>
    obtain ⟨k, hk, rfl, hq⟩ := hrel
    by_cases hlt : k < l.length
    · have hm : k < m.length := by rw [← HL.out]; exact hlt
      obtain ⟨b1, o1, rfl, hd1⟩ := (h1a.kept (hb6.trans (hq.below _))).cs.b8 k hlt
      obtain ⟨b2, o2, rfl, hd2⟩ := (h2a.kept (hb6.trans (hq.below _))).cs.b8 k hm
      have hs7 := own_below hs6 (hq.below _)
      have ht7 := own_below ht6 (hq.below _)
      have hds := own_cell8n hs7 k (by simpa using hlt)
      have hdt := own_cell8n ht7 k (by rw [HGL.out]; exact hlt)
      have e1 : (l.map (gm · x))[k]'(by simpa using hlt) = gm l[k] x := by simp
      have e2 : (gadd l m)[k]'(by rw [HGL.out]; exact hlt) = l[k] ^^^ m[k] := by simp [gadd]
      rw [e1] at hds
      rw [e2] at hdt
      have hi : (k : Int) < (l.length : Int) := by omega
      have hi2 : (k : Int) < (m.length : Int) := by omega
      have hxor := u8_bin_xor l[k] m[k]
      obtain ⟨y, hy⟩ : ∃ y, y = l[k] ^^^ m[k] := ⟨_, rfl⟩
      rw [← hy] at hxor hdt
      obtain ⟨p, hp⟩ : ∃ p, p = gm l[k] x := ⟨_, rfl⟩
      rw [← hp] at hds
      have hcall := fun w => refMul_any l[k] x w
      rw [← hp] at hcall
      have hn1 : ((p.toNat : Int) != (p.toNat : Int)) = false := by simp
      have hn2 : ((y.toNat : Int) != (y.toNat : Int)) = false := by simp
      clear e1 e2 hy hp hs7 ht7 hs6 ht6
      go_wp2
      go_quiet ((go_at_call 9; exact Calls.quiet_of_same (hcall _)))
      go_wp2
      go_roundw
      case rel => exact ⟨k + 1, by omega, by go_num, hq.drew _⟩
      case measure => simp [intOf]; omega
    · obtain rfl : k = l.length := by omega
      have hb7 := hb6.trans (hq.below _)
      have hs7 := own_below hs6 (hq.below _)
      have hw7 := hw1.kept hb7
      have h1c := h1a.kept hb7
      have hsz7 : w1.heap.size ≤ wr.heap.size := hb7.size
      clear hs6 ht6
      go_wp2_with fail
      refine (spoil_any wr w1.heap.size _ _ _ hs7 hsz7 (by omega)).mono ?_
      rintro e w8 ⟨rfl, hb8⟩
      go_wp2_with fail
      refine (stands_any w8 gw cw a1 c1 l ((hw1.kept (hb7.trans hb8))) (h1a.kept (hb7.trans hb8))).mono ?_
      rintro e w9 ⟨rfl, hq9⟩
      go_wp2_with fail
      refine (gfKnown_any _).mono ?_
      rintro e w10 ⟨rfl, hw⟩
      subst hw
      go_wp2
      go_ret
      exact ⟨rfl, hb1.trans (((hb7.trans hb8).trans (hq9.below _)).mono hb1.size)⟩

set_option maxRecDepth 100000 in
set_option maxHeartbeats 2000000 in
theorem gFRows_other (a1 a2 : Option Addr) (c1 c2 : Nat) (l m : List UInt8) (x : UInt8) (w : World) (h1 : Rd w a1 c1 (B8 l)) (h2 : Rd w a2 c2 (B8 m)) (hsm : l.length + m.length ≤ 2000) (hlen : l.length ≠ m.length) :
    Calls Try.prog 7 #[.slice a1 l.length c1, .slice a2 m.length c2, .int .u8 x.toNat] w fun e w' => e = .returned (.bool true) ∧ Below w.heap.size w w' := by
  have hdot := dotV_other hlen
  have HD := Lib.hid hdot
  have HL := Lib.hid hlen
  have hbd : (l.length : Int) + (m.length : Int) ≤ 2000 := by omega
  have hl2 : l.length ≤ 2000 := by omega
  have hm2 : m.length ≤ 2000 := by omega
  clear hdot hlen hsm
  go_enter Try.func7, Try.ntmps7
  go_wp2_with fail
  refine (roomy_any w a1 c1 l h1 (by omega)).mono ?_
  rintro e w1 ⟨gw, cw, rfl, hcw, hw1, hb1⟩
  have h1a := h1.kept hb1
  have h2a := h2.kept hb1
  have hpre := hw1.pre
  go_wp2_with fail
  refine (scale_any w1 _ cw l x hpre (by omega)).mono ?_
  rintro e w2 ⟨gs, rfl, hs2, hb2⟩
  have hpre2 := hpre.kept hb2
  have h2b := h2a.kept hb2
  have hbs2 := hb2.size
  go_wp2_with fail
  refine (add_other w2 _ _ _ _ cw c2 HL.out).mono ?_
  rintro e w3 ⟨rfl, hw⟩
  subst hw
  go_wp2_with fail
  have hdd := dot_any w3 (some ⟨gw, 0, none⟩) a2 cw c2 l m (hpre.kept hb2) (h2a.kept hb2)
  rw [HD.out] at hdd
  refine hdd.mono ?_
  rintro e w4 ⟨rfl, hq4⟩
  clear hdd
  go_wp2_with fail
  have hdd := refDot_any w4 a1 a2 c1 c2 l m ((h1a.kept hb2).kept (hq4.below _)) ((h2a.kept hb2).kept (hq4.below _))
  rw [HD.out] at hdd
  refine hdd.mono ?_
  rintro e w5 ⟨rfl, hq5⟩
  clear hdd
  have hb5 := (hb2.trans (hq4.below _)).trans (hq5.below _)
  have hs5 := own_below (own_below hs2 (hq4.below _)) (hq5.below _)
  go_wp2_with fail
  refine (stands_any w5 gw cw a1 c1 l (hw1.kept hb5) (h1a.kept hb5)).mono ?_
  rintro e w6 ⟨rfl, hq6⟩
  have hb6 := hb5.trans (hq6.below _)
  have hs6 := own_below hs5 (hq6.below _)
  clear hs5 hs2 hb5
  go_wp2
  go_loopw [15] (fun s15 wr => ∃ (k : Nat), k ≤ l.length ∧ s15 = .int .i64 k ∧ Qt w6 wr) (fun s15 _ => l.length - (intOf s15).toNat)
  case atStart => exact ⟨0, by omega, rfl, Qt.refl _⟩
  case round =>
    obtain ⟨k, hk, rfl, hq⟩ := hrel
    by_cases hlt : k < l.length
    · obtain ⟨b1, o1, rfl, hd1⟩ := (h1a.kept (hb6.trans (hq.below _))).cs.b8 k hlt
      have hs7 := own_below hs6 (hq.below _)
      have hds := own_cell8n hs7 k (by simpa using hlt)
      have e1 : (l.map (gm · x))[k]'(by simpa using hlt) = gm l[k] x := by simp
      rw [e1] at hds
      have hi : (k : Int) < (l.length : Int) := by omega
      obtain ⟨p, hp⟩ : ∃ p, p = gm l[k] x := ⟨_, rfl⟩
      rw [← hp] at hds
      have hcall := fun w => refMul_any l[k] x w
      rw [← hp] at hcall
      have hn1 : ((p.toNat : Int) != (p.toNat : Int)) = false := by simp
      clear e1 hp hs7 hs6
      go_wp2
      go_quiet ((go_at_call 9; exact Calls.quiet_of_same (hcall _)))
      go_wp2
      go_roundw
      case rel => exact ⟨k + 1, by omega, by go_num, hq.drew _⟩
      case measure => simp [intOf]; omega
    · obtain rfl : k = l.length := by omega
      have hb7 := hb6.trans (hq.below _)
      have hs7 := own_below hs6 (hq.below _)
      have hw7 := hw1.kept hb7
      have h1c := h1a.kept hb7
      have hsz7 : w1.heap.size ≤ wr.heap.size := hb7.size
      clear hs6
      go_wp2_with fail
      refine (spoil_any wr w1.heap.size _ _ _ hs7 hsz7 (by omega)).mono ?_
      rintro e w8 ⟨rfl, hb8⟩
      go_wp2_with fail
      refine (stands_any w8 gw cw a1 c1 l ((hw1.kept (hb7.trans hb8))) (h1a.kept (hb7.trans hb8))).mono ?_
      rintro e w9 ⟨rfl, hq9⟩
      go_wp2_with fail
      refine (gfKnown_any _).mono ?_
      rintro e w10 ⟨rfl, hw⟩
      subst hw
      go_wp2
      go_ret
      exact ⟨rfl, hb1.trans (((hb7.trans hb8).trans (hq9.below _)).mono hb1.size)⟩

theorem gFRows_any (a1 : Option Addr) (c1 : Nat) (l : List UInt8) (a2 : Option Addr) (c2 : Nat) (m : List UInt8) (x : UInt8) (w : World) (h1 : Rd w a1 c1 (B8 l)) (z1 : c1 * 1 ≤ 140737488351232) (h2 : Rd w a2 c2 (B8 m)) (z2 : c2 * 1 ≤ 140737488351232) :
    Calls Try.prog 7 #[.slice a1 l.length c1, .slice a2 m.length c2, .int .u8 x.toNat] w fun e w' => e = .returned (.bool true) ∧ Below w.heap.size w w' := by
  have hl := h1.1
  have hm := h2.1
  rw [B8_length] at hl hm
  by_cases hb : 2000 < l.length + m.length
  · exact gFRows_big a1 a2 c1 c2 l m x w (by omega) (by omega) hb
  · by_cases hlen : l.length = m.length
    · exact gFRows_same a1 a2 c1 c2 l m x w h1 h2 (by omega) hlen
    · exact gFRows_other a1 a2 c1 c2 l m x w h1 h2 (by omega) hlen
end Go.Proofs.Ytdkaegiinmmhgaa
