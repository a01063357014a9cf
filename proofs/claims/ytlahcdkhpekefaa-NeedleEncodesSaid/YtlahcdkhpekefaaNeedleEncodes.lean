/- NeedleEncodes: for every needle the law returns true. Conditions: none. -/
import Derived.Test.YtlahcdkhpekefaaNKnown
import Derived.Test.YtlahcdkhpekefaaCom
namespace Go.Proofs.Ytlahcdkhpekefaa
open Go Go.RowKit

set_option maxRecDepth 100000 in
set_option maxHeartbeats 2000000 in
theorem needleEncodes_any (key : UInt64) (ck : UInt32) (dead : Bool) (ad : Option Addr) (c : Nat) (l : List UInt8) (w : World) (hr : Rd w ad c (B8 l)) :
    Calls Try.prog 3 #[needV key ck dead ad l.length c] w fun e w' => e = .returned (.bool true) ∧ Below w.heap.size w w' := by
  have hstart : ∀ o, Below w.heap.size w (w.alloc o) := fun o => (Below.refl _ _).alloc (Nat.le_refl _) o
  have hlm := hr.le
  rw [B8_length] at hlm
  by_cases hbig : 70000 < l.length
  · have hbd : (70000 : Int) < (l.length : Int) := by omega
    unfold needV
    go_enter Try.func3, Try.ntmps3
    go_wp2
    go_ret
    exact ⟨rfl, hstart _⟩
  · have hbd : (l.length : Int) ≤ 70000 := by omega
    obtain ⟨X, F, hX⟩ : ∃ X F, nEnc key ck dead l = (X, F) := ⟨_, _, rfl⟩
    have hXF : F = 0 → (X.length : Int) = sizeZ (l.length : Int) := by
      intro h
      rcases nEnc_cases key ck dead l with ⟨_, _, he⟩ | ⟨_, _, he⟩ | ⟨_, h2, he⟩
      · rw [he] at hX; simp only [Prod.mk.injEq] at hX; omega
      · rw [he] at hX; simp only [Prod.mk.injEq] at hX; omega
      · rw [he] at hX
        simp only [Prod.mk.injEq] at hX
        rw [← hX.1, needL_length, sizeZ_nat _ h2]
    have hE : ∀ (W : World) (a : Option Addr) (c : Nat), Rd W a c (B8 l) → Calls Try.prog 9 #[needV key ck dead a l.length c] W fun e w' => ∃ a c, e = .returned (.tuple #[.slice a X.length c, .int .i64 (F : Int)]) ∧ Rd w' a c (B8 X) ∧ Below W.heap.size W w' := by
      intro W a c h
      have := nEncode_any key ck dead a c l W h
      rw [hX] at this
      exact this
    have hR : ∀ (W : World) (a : Option Addr) (c : Nat), Rd W a c (B8 l) → Calls Try.prog 10 #[needV key ck dead a l.length c] W fun e w' => ∃ a c, e = .returned (.tuple #[.slice a X.length c, .int .i64 (F : Int)]) ∧ Rd w' a c (B8 X) ∧ Below W.heap.size W w' := by
      intro W a c h
      have := refNEncode_any key ck dead a c l W h
      rw [hX] at this
      exact this
    have hS := size_any (l.length : Int)
    obtain ⟨Sz, hSz⟩ : ∃ Sz, Sz = sizeZ (l.length : Int) := ⟨_, rfl⟩
    rw [← hSz] at hS hXF
    have HS := Lib.hid hS
    have HXF := Lib.hid hXF
    have HE := Lib.hid hE
    have HR := Lib.hid hR
    clear hX hE hR hXF hS hSz
    unfold needV at HE HR ⊢
    go_enter Try.func3, Try.ntmps3
    go_wp2_with fail
    refine (roomy_any _ ad c l (hr.kept (hstart _)) (by omega)).mono ?_
    rintro e w1 ⟨gw, cw, rfl, hcw, hw1, hb1⟩
    have hbw1 : Below w.heap.size w w1 := (hstart _).trans (hb1.mono (by simp))
    have hc0 : ∀ j, j < 4 → w1.cell? ⟨w.heap.size, j, none⟩ = #[Value.int .u64 (key.toNat : Int), .int .u32 (ck.toNat : Int), .bool dead, .slice ad l.length c][j]? := by
      intro j hj
      rw [hb1.cell (p := ⟨w.heap.size, j, none⟩) (by simp)]
      exact cell_of_row _ w.heap.size j _ _ _ (heap_alloc_new w _)
    have hz1 : w.heap.size + 1 ≤ w1.heap.size := by have := hb1.size; simp at this; omega
    obtain ⟨G, hG⟩ : ∃ G, G = w.heap.size := ⟨_, rfl⟩
    rw [← hG] at hc0 hz1 ⊢
    have h0 := hc0 0 (by omega)
    have h1 := hc0 1 (by omega)
    have h2 := hc0 2 (by omega)
    have h3 := hc0 3 (by omega)
    simp at h0 h1 h2 h3
    have HG := Lib.hid hG
    clear hb1 hc0 hG
    have hzlt : G < w1.heap.size := hz1
    have hra := hr.kept (HG.out ▸ hbw1 : Below w.heap.size w w1)
    have hpre := hw1.pre
    have hcwi : (l.length : Int) + 1 ≤ (cw : Int) := by omega
    have hcell : ∀ W', Below w1.heap.size w1 W' → W'.cell? ⟨G, 0, none⟩ = some (.int .u64 (key.toNat : Int)) ∧ W'.cell? ⟨G, 1, none⟩ = some (.int .u32 (ck.toNat : Int)) ∧ W'.cell? ⟨G, 2, none⟩ = some (.bool dead) ∧ W'.cell? ⟨G, 3, none⟩ = some (.slice ad l.length c) := by
      intro W' hb
      exact ⟨(hb.cell (p := ⟨G, 0, none⟩) hzlt).trans h0, (hb.cell (p := ⟨G, 1, none⟩) hzlt).trans h1, (hb.cell (p := ⟨G, 2, none⟩) hzlt).trans h2, (hb.cell (p := ⟨G, 3, none⟩) hzlt).trans h3⟩
    have HC := Lib.hid hcell
    clear hcell
    have hst1 : ∀ o, Below w1.heap.size w1 (w1.alloc o) := fun o => (Below.refl _ _).alloc (Nat.le_refl _) o
    go_wp2_with fail
    refine (HE.out _ _ cw (hpre.kept (hst1 _))).mono ?_
    rintro e w2 ⟨a2, c2, rfl, hr2, hb2⟩
    have hb2' : Below w1.heap.size w1 w2 := (hst1 _).trans (hb2.mono (by simp))

    obtain ⟨g0, g1, g2, g3⟩ := HC.out w2 hb2'
    clear hb2 h0 h1 h2 h3
    go_wp2_with fail
    refine (HR.out _ ad c (hra.kept hb2')).mono ?_
    rintro e w3 ⟨a3, c3, rfl, hr3, hb3⟩
    have hb3' : Below w1.heap.size w1 w3 := hb2'.trans (hb3.mono hb2'.size)
    clear g0 g1 g2 g3
    go_wp2_with fail
    refine (same_true w3 a2 a3 c2 c3 X (hr2.kept hb3) hr3).mono ?_
    rintro e w4 ⟨rfl, hq4⟩
    have hb4' : Below w1.heap.size w1 w4 := hb3'.trans (hq4.below _)
    obtain ⟨g0, g1, g2, g3⟩ := HC.out w4 hb4'
    go_wp2_with fail
    refine (stands_any w4 gw cw ad c l (hw1.kept hb4') (hra.kept hb4')).mono ?_
    rintro e w5 ⟨rfl, hq5⟩
    have hb5' : Below w1.heap.size w1 w5 := hb4'.trans (hq5.below _)
    have hw5 := hbw1.trans (hb5'.mono hbw1.size)
    clear g0 g1 g2 g3
    obtain ⟨g0, g1, g2, g3⟩ := HC.out w5 hb5'
    clear hq4 hq5 hr2 hr3
    by_cases hF : F = 0
    · have hxs := HXF.out hF
      subst hF
      have HXS : ((X.length : Int) == Sz) = true := by rw [beq_iff_eq]; exact hxs
      clear hxs
      go_wp2_with fail
      refine (HS.out _).mono ?_
      rintro e w6 ⟨rfl, rfl⟩
      go_wp2_with fail
      refine (nKnown_any _).mono ?_
      rintro e w7 ⟨rfl, hb7⟩
      go_wp2
      go_ret
      exact ⟨rfl, HG.out ▸ (hw5.trans (hb7.mono hw5.size))⟩
    · have hFi : ((F : Int) != 0) = true := by rw [bne_iff_ne]; omega
      go_wp2_with fail
      refine (nKnown_any _).mono ?_
      rintro e w7 ⟨rfl, hb7⟩
      go_wp2
      go_ret
      exact ⟨rfl, HG.out ▸ (hw5.trans (hb7.mono hw5.size))⟩
end Go.Proofs.Ytlahcdkhpekefaa
