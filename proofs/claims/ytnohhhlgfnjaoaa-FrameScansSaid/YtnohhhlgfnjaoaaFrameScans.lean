/- FrameScans: for all bytes the law returns true. Conditions: none. -/
import Derived.Test.YtnohhhlgfnjaoaaScan
import Derived.Test.YtnohhhlgfnjaoaaRowsL
import Derived.Test.YtnohhhlgfnjaoaaFrameEncodes
namespace Go.Proofs.Ytnohhhlgfnjaoaa
open Go Go.RowKit

set_option maxRecDepth 100000 in
set_option maxHeartbeats 1000000 in
theorem frameScans_any (a : Option Addr) (c : Nat) (l : List UInt8) (w : World) (hr : Rd w a c (B8 l)) :
    Calls Try.prog 6 #[.slice a l.length c] w fun e w' => e = .returned (.bool true) ∧ Below w.heap.size w w' := by
  by_cases hbig : 4000 < l.length
  · have hbd : (4000 : Int) < (l.length : Int) := by omega
    go_enter Try.func6, Try.ntmps6
    go_wp2
    go_ret
    exact ⟨rfl, Below.refl _ _⟩
  · have hbd : (l.length : Int) ≤ 4000 := by omega
    obtain ⟨L, N, E, hR⟩ : ∃ L N E, scanR l = (L, N, E) := ⟨_, _, _, rfl⟩
    have D1 : ∀ (W : World) (ad : Option Addr) (cd : Nat), Rd W ad cd (B8 l) → Calls Try.prog 17 #[.slice ad l.length cd] W fun e w' => ∃ a' c', e = .returned (.tuple #[.slice a' L.length c', .int .i64 (N : Int), .int .i64 (E : Int)]) ∧ RdLL w' a' c' L ∧ Below W.heap.size W w' := by
      intro W ad cd h
      refine (scan_any W ad cd l h (by omega)).mono ?_
      rintro e w' ⟨r, he, ho, hb⟩
      rw [hR] at he ho
      obtain ⟨a', c', rfl, hl⟩ := ho.rd
      exact ⟨a', c', he, hl, hb⟩
    have D2 : ∀ (W : World) (ad : Option Addr) (cd : Nat), Rd W ad cd (B8 l) → Calls Try.prog 18 #[.slice ad l.length cd] W fun e w' => ∃ a' c', e = .returned (.tuple #[.slice a' L.length c', .int .i64 (N : Int), .int .i64 (E : Int)]) ∧ RdLL w' a' c' L ∧ Below W.heap.size W w' := by
      intro W ad cd h
      refine (refScan_any W ad cd l h (by omega)).mono ?_
      rintro e w' ⟨r, he, ho, hb⟩
      rw [hR] at he ho
      obtain ⟨a', c', rfl, hl⟩ := ho.rd
      exact ⟨a', c', he, hl, hb⟩
    have HD1 := Lib.hid D1
    have HD2 := Lib.hid D2
    clear hR D1 D2
    go_enter Try.func6, Try.ntmps6
    go_wp2_with fail
    refine (roomy_any w a c l hr (by omega)).mono ?_
    rintro e w1 ⟨gw, cw, rfl, hcw, hw1, hb1⟩
    have hra := hr.kept hb1
    have hpre := hw1.pre
    go_wp2_with fail
    refine (HD1.out w1 _ cw hpre).mono ?_
    rintro e w2 ⟨a2, c2, rfl, ho2, hb2⟩
    go_wp2_with fail
    refine (HD2.out w2 a c (hra.kept hb2)).mono ?_
    rintro e w3 ⟨a3, c3, rfl, ho3, hb3⟩
    have hb3' : Below w1.heap.size w1 w3 := hb2.trans (hb3.mono hb2.size)
    go_wp2_with fail
    refine (rows_true w3 a2 a3 c2 c3 L (ho2.kept hb3) ho3).mono ?_
    rintro e w4 ⟨rfl, hq4⟩
    have hb4 : Below w1.heap.size w1 w4 := hb3'.trans (hq4.below _)
    go_wp2_with fail
    refine (stands_any w4 gw cw a c l (hw1.kept hb4) (hra.kept hb4)).mono ?_
    rintro e w6 ⟨rfl, hq6⟩
    go_wp2_with fail
    refine (frameKnown_any _).mono ?_
    rintro e w7 ⟨rfl, hb7⟩
    have hb6' : Below w1.heap.size w1 w6 := hb4.trans (hq6.below _)
    go_wp2
    go_ret
    exact ⟨rfl, hb1.trans ((hb6'.trans (hb7.mono hb6'.size)).mono hb1.size)⟩
end Go.Proofs.Ytnohhhlgfnjaoaa
