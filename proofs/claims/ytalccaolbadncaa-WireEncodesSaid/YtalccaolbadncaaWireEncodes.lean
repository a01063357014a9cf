/- WireEncodes: for every message the law returns true. Conditions: the reach of its two slices. -/
import Derived.Test.YtalccaolbadncaaWKnown
import Derived.Test.YtalccaolbadncaaCom
namespace Go.Proofs.Ytalccaolbadncaa
open Go Go.RowKit

set_option maxRecDepth 100000 in
set_option maxHeartbeats 2000000 in
theorem wireEncodes_any (fr to kd : Int) (an : Option Addr) (cn : Nat) (nums : List Int) (ad : Option Addr) (cd : Nat) (data : List UInt8) (w : World)
    (hrn : Rd w an cn (BI nums)) (hbn : ∀ n ∈ nums, -9223372036854775808 ≤ n ∧ n ≤ 9223372036854775807) (hrd : Rd w ad cd (B8 data)) (hzn : cn * 8 ≤ 140737488351232) (hzd : cd * 1 ≤ 140737488351232) :
    Calls Try.prog 3 #[msgV fr to kd an nums.length cn ad data.length cd] w fun e w' => e = .returned (.bool true) ∧ Below w.heap.size w w' := by
  have hstart : ∀ o, Below w.heap.size w (w.alloc o) := fun o => (Below.refl _ _).alloc (Nat.le_refl _) o
  have hln : nums.length ≤ cn := by have := hrn.1; rwa [BI_length] at this
  have hld : data.length ≤ cd := by have := hrd.1; rwa [B8_length] at this
  by_cases hbig : 4000 < data.length + nums.length
  · have hbd : (4000 : Int) < (data.length : Int) + (nums.length : Int) := by omega
    have hb1 : (data.length : Int) + (nums.length : Int) ≤ 281474976702464 := by omega
    unfold msgV
    go_enter Try.func3, Try.ntmps3
    go_wp2
    go_ret
    exact ⟨rfl, hstart _⟩
  · have hbd : (data.length : Int) + (nums.length : Int) ≤ 4000 := by omega
    obtain ⟨X, F, hX⟩ : ∃ X F, wEnc fr to kd nums data = (X, F) := ⟨_, _, rfl⟩
    have hE : ∀ (W : World) (a : Option Addr) (c : Nat), Rd W an cn (BI nums) → Rd W a c (B8 data) → Calls Try.prog 9 #[msgV fr to kd an nums.length cn a data.length c] W fun e w' => ∃ a c, e = .returned (.tuple #[.slice a X.length c, .int .i64 (F : Int)]) ∧ Rd w' a c (B8 X) ∧ Below W.heap.size W w' := by
      intro W a c h1 h
      have := wEncode_any fr to kd an cn nums a c data W h1 hbn h
      rw [hX] at this
      exact this
    have hR : ∀ (W : World) (a : Option Addr) (c : Nat), Rd W an cn (BI nums) → Rd W a c (B8 data) → Calls Try.prog 10 #[msgV fr to kd an nums.length cn a data.length c] W fun e w' => ∃ a c, e = .returned (.tuple #[.slice a X.length c, .int .i64 (F : Int)]) ∧ Rd w' a c (B8 X) ∧ Below W.heap.size W w' := by
      intro W a c h1 h
      have := refWEncode_any fr to kd an cn nums a c data W h1 hbn h
      rw [hX] at this
      exact this
    have HE := Lib.hid hE
    have HR := Lib.hid hR
    have HBN := Lib.hid hbn
    clear hX hE hR hbn
    unfold msgV at HE HR ⊢
    go_enter Try.func3, Try.ntmps3
    go_wp2_with fail
    refine (roomy_any _ ad cd data (hrd.kept (hstart _)) (by omega)).mono ?_
    rintro e w1 ⟨gw, cw, rfl, hcw, hw1, hb1⟩
    have hbw1 : Below w.heap.size w w1 := (hstart _).trans (hb1.mono (by simp))
    have hBM := (BlkV.new w 25 #[Value.int .i64 fr, .int .i64 to, .int .i64 kd, .slice an nums.length cn, .slice ad data.length cd]).below hb1
    have hz1 : w.heap.size + 1 ≤ w1.heap.size := by have := hb1.size; simp at this; omega
    obtain ⟨G, hG⟩ : ∃ G, G = w.heap.size := ⟨_, rfl⟩
    rw [← hG] at hBM hz1 ⊢
    have HG := Lib.hid hG
    clear hb1 hG
    have hzlt : G < w1.heap.size := hz1
    have hrn1 := hrn.kept (HG.out ▸ hbw1 : Below w.heap.size w w1)
    have hra := hrd.kept (HG.out ▸ hbw1 : Below w.heap.size w w1)
    have hpre := hw1.pre
    have hcwi : (data.length : Int) + 1 ≤ (cw : Int) := by omega
    have hcell : ∀ W', Below w1.heap.size w1 W' → W'.cell? ⟨G, 0, none⟩ = some (.int .i64 fr) ∧ W'.cell? ⟨G, 1, none⟩ = some (.int .i64 to) ∧ W'.cell? ⟨G, 2, none⟩ = some (.int .i64 kd) ∧ W'.cell? ⟨G, 3, none⟩ = some (.slice an nums.length cn) ∧ W'.cell? ⟨G, 4, none⟩ = some (.slice ad data.length cd) := by
      intro W' hb
      have h := hBM.below hb
      have h0 := h.cell 0
      have h1 := h.cell 1
      have h2 := h.cell 2
      have h3 := h.cell 3
      have h4 := h.cell 4
      simp only [List.getElem?_toArray, List.getElem?_cons_succ, List.getElem?_cons_zero] at h0 h1 h2 h3 h4
      exact ⟨h0, h1, h2, h3, h4⟩
    have HC := Lib.hid hcell
    clear hcell
    have hst1 : ∀ o, Below w1.heap.size w1 (w1.alloc o) := fun o => (Below.refl _ _).alloc (Nat.le_refl _) o
    obtain ⟨g0, g1, g2, g3, g4⟩ := HC.out w1 (Below.refl _ _)
    go_wp2_with fail
    refine (HE.out _ _ cw (hrn1.kept (hst1 _)) (hpre.kept (hst1 _))).mono ?_
    rintro e w2 ⟨a2, c2, rfl, hr2, hb2⟩
    have hb2' : Below w1.heap.size w1 w2 := (hst1 _).trans (hb2.mono (by simp))
    clear g0 g1 g2 g3 g4
    obtain ⟨g0, g1, g2, g3, g4⟩ := HC.out w2 hb2'
    clear hb2
    go_wp2_with fail
    refine (HR.out _ ad cd (hrn1.kept hb2') (hra.kept hb2')).mono ?_
    rintro e w3 ⟨a3, c3, rfl, hr3, hb3⟩
    have hb3' : Below w1.heap.size w1 w3 := hb2'.trans (hb3.mono hb2'.size)
    clear g0 g1 g2 g3 g4
    go_wp2_with fail
    refine (same_true w3 a2 a3 c2 c3 X (hr2.kept hb3) hr3).mono ?_
    rintro e w4 ⟨rfl, hq4⟩
    have hb4' : Below w1.heap.size w1 w4 := hb3'.trans (hq4.below _)
    obtain ⟨g0, g1, g2, g3, g4⟩ := HC.out w4 hb4'
    go_wp2_with fail
    refine (stands_any w4 gw cw ad cd data (hw1.kept hb4') (hra.kept hb4')).mono ?_
    rintro e w5 ⟨rfl, hq5⟩
    have hb5' : Below w1.heap.size w1 w5 := hb4'.trans (hq5.below _)
    have hw5 := hbw1.trans (hb5'.mono hbw1.size)
    clear g0 g1 g2 g3 g4
    go_wp2_with fail
    refine (wKnown_any _).mono ?_
    rintro e w7 ⟨rfl, hb7⟩
    go_wp2
    go_ret
    exact ⟨rfl, HG.out ▸ (hw5.trans (hb7.mono hw5.size))⟩
end Go.Proofs.Ytalccaolbadncaa
