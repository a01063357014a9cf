/- BitsReads: for every row of bytes the law returns true. Conditions: none. -/
import Derived.Test.YtelmjcalacdncaaKnown1
import Derived.Test.YtelmjcalacdncaaRead
namespace Go.Proofs.Ytelmjcalacdncaa
open Go Go.RowKit

set_option maxRecDepth 100000 in
set_option maxHeartbeats 1000000 in
theorem bitsReads_walk (a : Option Addr) (c : Nat) (l : List UInt8) (w : World) (hr : Rd w a c (B8 l)) :
    Calls Try.prog 8 #[.slice a l.length c] w fun e w' => e = .returned (.bool true) ∧ Below w.heap.size w w' := by
  have hl := hr.le
  rw [B8_length] at hl
  by_cases hbig : 3000 < l.length
  · go_enter Try.func8, Try.ntmps8
    go_wp2
    go_ret
    exact ⟨rfl, Below.refl _ _⟩
  have hbd : decide ((3000 : Int) < (l.length : Int)) = false := by simp; omega
  obtain ⟨r, hres⟩ : ∃ r, r = rd l := ⟨_, rfl⟩
  obtain ⟨r1, r2, r3⟩ := r
  have HR := Lib.hid hres; clear hres
  go_enter Try.func8, Try.ntmps8
  go_wp2_with fail
  refine (roomy_any w a c l hr (by omega)).mono ?_
  rintro e w1 ⟨g, cap, rfl, hcap, hrd, hb⟩
  go_wp2_with fail
  refine (read_any w1 _ _ l hrd.pre).mono ?_
  rintro e w2 ⟨rfl, rfl⟩
  rw [← HR.out]
  unfold rdV
  have hr2 := hr.kept hb
  go_wp2_with fail
  refine (refRead_any _ _ _ l hr2).mono ?_
  rintro e w3 ⟨rfl, rfl⟩
  rw [← HR.out]
  unfold rdV
  go_wp2_with fail
  refine (stands_any _ _ _ _ _ l hrd hr2).mono ?_
  rintro e w3 ⟨rfl, hq⟩
  have hb3 := hb.trans (hq.below _)
  clear hq hb hrd hr hr2
  go_wp2_with fail
  refine (known_any _).mono ?_
  rintro e w4 ⟨rfl, hb4⟩
  go_wp2
  go_ret
  exact ⟨rfl, hb3.trans (hb4.mono hb3.size)⟩
end Go.Proofs.Ytelmjcalacdncaa
