/- ShardRights: for all rows and numbers the law returns true. Conditions: the reach of each slice, the table of math/bits. -/
import Derived.Test.YtmeckdgigjjjbaaDoorShardLaw
import Derived.Test.YtmeckdgigjjjbaaDoorRefWr
namespace Go.Proofs.YtmeckdgigjjjbaaDoor
open Go Go.RowKit

set_option maxRecDepth 100000 in
set_option maxHeartbeats 1000000 in
theorem shardRights_any (a : Option Addr) (c : Nat) (D : Mx) (k m : Int) (w : World) (hr : RdLL w a c D) (hz : Reach D) (hk : -9223372036854775808 ≤ k ∧ k ≤ 9223372036854775807) (hm : -9223372036854775808 ≤ m ∧ m ≤ 9223372036854775807)
    (hT : TabAt 0 Lib.deBruijn64tab w) :
    Calls Tryd.prog 6 #[.slice a D.length c, .int .i64 k, .int .i64 m] w fun e w' => e = .returned (.bool true) ∧ Below w.heap.size w w' := by
  have gA := great_any w a c D hr hz
  cases hA : great 1500 D with
  | true =>
    rw [hA] at gA
    have GA := Lib.hid gA
    clear gA hA
    go_enter Tryd.func6, Tryd.ntmps6
    go_wp2_with fail
    refine GA.out.mono ?_
    rintro e w' ⟨rfl, rfl⟩
    go_wp2
    go_ret
    exact ⟨rfl, Below.refl _ _⟩
  | false =>
    obtain ⟨l1, l2⟩ := great_le hA
    rw [hA] at gA
    have GA := Lib.hid gA
    have hl6 : ∀ r ∈ D, r.length ≤ 1000000 := fun r hr => by have := l2 r hr; omega
    have hS := right_any w a c D k m hr hk hm (by omega) hl6 hT
    have hR := fun W (hb : Below w.heap.size w W) => refRight_any W a c D k m (hr.kept hb) hk hm (by omega) hl6
    have hS2 := fun W (hb : Below w.heap.size w W) => wrong_any W a c D k m (hr.kept hb) hk hm (by omega) hl6 (tab_kept hT hb)
    have hR2 := fun W (hb : Below w.heap.size w W) => refWrong_any W a c D k m (hr.kept hb) hk hm (by omega) hl6
    obtain ⟨X, F, hX⟩ : ∃ X F, rightR D k m = (X, F) := ⟨_, _, rfl⟩
    obtain ⟨Y, E, hY⟩ : ∃ Y E, wrongR D k m = (Y, E) := ⟨_, _, rfl⟩
    rw [hX] at hS
    simp only [hX] at hR
    simp only [hY] at hS2 hR2
    have HS := Lib.hid hS
    have HR := Lib.hid hR
    have HS2 := Lib.hid hS2
    have HR2 := Lib.hid hR2
    clear gA hA hX hY hS hR hS2 hR2 l2 hl6 hT
    go_enter Tryd.func6, Tryd.ntmps6
    go_wp2_with fail
    refine GA.out.mono ?_
    rintro e w' ⟨rfl, hw⟩
    have hw := hw.symm
    subst hw
    clear GA
    go_wp2_with fail
    refine HS.out.mono ?_
    rintro e w1 ⟨rfl, hb1⟩
    clear HS
    go_wp2_with fail
    refine (HR.out w1 hb1).mono ?_
    rintro e w2 ⟨rfl, hb2⟩
    have hb2' := hb1.trans (hb2.mono hb1.size)
    clear HR hb2 hb1
    go_wp2_with fail
    refine (HS2.out w2 hb2').mono ?_
    rintro e w3 ⟨rfl, hb3⟩
    have hb3' := hb2'.trans (hb3.mono hb2'.size)
    clear HS2 hb3 hb2'
    go_wp2_with fail
    refine (HR2.out w3 hb3').mono ?_
    rintro e w4 ⟨rfl, hb4⟩
    have hb4' := hb3'.trans (hb4.mono hb3'.size)
    clear HR2 hb4 hb3'
    go_wp2_with fail
    refine (shardKnown_any _).mono ?_
    rintro e w5 ⟨rfl, hb5⟩
    go_wp2
    go_ret
    exact ⟨rfl, hb4'.trans (hb5.mono hb4'.size)⟩
end Go.Proofs.YtmeckdgigjjjbaaDoor
