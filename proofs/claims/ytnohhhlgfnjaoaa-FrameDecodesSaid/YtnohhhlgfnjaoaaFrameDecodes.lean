/- FrameDecodes: for all bytes the law returns true. Conditions: none. -/
import Derived.Test.YtnohhhlgfnjaoaaRefDecode
import Derived.Test.YtnohhhlgfnjaoaaFrameEncodes
namespace Go.Proofs.Ytnohhhlgfnjaoaa
open Go Go.RowKit

theorem decR_len (l : List UInt8) : (decR l).1.length ≤ l.length := by
  unfold decR
  repeat' split
  all_goals first | (simp; done) | (simp; omega)

set_option maxRecDepth 100000 in
set_option maxHeartbeats 1000000 in
theorem frameDecodes_any (a : Option Addr) (c : Nat) (l : List UInt8) (w : World) (hr : Rd w a c (B8 l)) :
    Calls Try.prog 4 #[.slice a l.length c] w fun e w' => e = .returned (.bool true) ∧ Below w.heap.size w w' := by
  by_cases hbig : 4000 < l.length
  · have hbd : (4000 : Int) < (l.length : Int) := by omega
    go_enter Try.func4, Try.ntmps4
    go_wp2
    go_ret
    exact ⟨rfl, Below.refl _ _⟩
  · have hbd : (l.length : Int) ≤ 4000 := by omega
    obtain ⟨P, N, E, hR⟩ : ∃ P N E, decR l = (P, N, E) := ⟨_, _, _, rfl⟩
    have hPl := decR_len l
    rw [hR] at hPl
    have hPl : P.length ≤ l.length := hPl
    have D1 : ∀ (W : World) (ad : Option Addr) (cd : Nat), Rd W ad cd (B8 l) → Calls Try.prog 15 #[.slice ad l.length cd] W fun e w' => ∃ r, e = .returned (.tuple #[r, .int .i64 (N : Int), .int .i64 (E : Int)]) ∧ w'.ownsRow W.heap.size 5 1 r P.length (B8 P) ∧ Below W.heap.size W w' := by
      intro W ad cd h
      have := decode_any W ad cd l h
      rw [hR] at this
      exact this
    have D2 : ∀ (W : World) (ad : Option Addr) (cd : Nat), Rd W ad cd (B8 l) → Calls Try.prog 16 #[.slice ad l.length cd] W fun e w' => ∃ r, e = .returned (.tuple #[r, .int .i64 (N : Int), .int .i64 (E : Int)]) ∧ w'.ownsRow W.heap.size 5 1 r P.length (B8 P) ∧ Below W.heap.size W w' := by
      intro W ad cd h
      have := refDecode_any W ad cd l h
      rw [hR] at this
      exact this
    have HD1 := Lib.hid D1
    have HD2 := Lib.hid D2
    clear hR D1 D2
    go_enter Try.func4, Try.ntmps4
    go_wp2_with fail
    refine (roomy_any w a c l hr (by omega)).mono ?_
    rintro e w1 ⟨gw, cw, rfl, hcw, hw1, hb1⟩
    have hra := hr.kept hb1
    have hpre := hw1.pre
    go_wp2_with fail
    refine (HD1.out w1 _ cw hpre).mono ?_
    rintro e w2 ⟨r2, rfl, ho2, hb2⟩
    go_wp2_with fail
    refine (HD2.out w2 a c (hra.kept hb2)).mono ?_
    rintro e w3 ⟨r3, rfl, ho3, hb3⟩
    have ho2' := own_below ho2 hb3
    have hb3' : Below w1.heap.size w1 w3 := hb2.trans (hb3.mono hb2.size)
    obtain ⟨a2, c2, rfl, hrd2⟩ := Rd.ofOwn ho2'
    obtain ⟨a3, c3, rfl, hrd3⟩ := Rd.ofOwn ho3
    clear ho2 ho3
    go_wp2_with fail
    refine (same_true w3 a2 a3 c2 c3 P hrd2 hrd3).mono ?_
    rintro e w4 ⟨rfl, hq4⟩
    have hb4 : Below w1.heap.size w1 w4 := hb3'.trans (hq4.below _)
    have ho4 := own_below ho2' (hq4.below _)
    clear ho2'
    go_wp2_with fail
    refine (spoil_any w4 w1.heap.size _ _ _ ho4 hb4.size (by omega)).mono ?_
    rintro e w5 ⟨rfl, hb5⟩
    have hb5' : Below w1.heap.size w1 w5 := hb4.trans hb5
    clear ho4
    go_wp2_with fail
    refine (stands_any w5 gw cw a c l (hw1.kept hb5') (hra.kept hb5')).mono ?_
    rintro e w6 ⟨rfl, hq6⟩
    go_wp2_with fail
    refine (frameKnown_any _).mono ?_
    rintro e w7 ⟨rfl, hb7⟩
    have hb6' : Below w1.heap.size w1 w6 := hb5'.trans (hq6.below _)
    go_wp2
    go_ret
    exact ⟨rfl, hb1.trans ((hb6'.trans (hb7.mono hb6'.size)).mono hb1.size)⟩
end Go.Proofs.Ytnohhhlgfnjaoaa
