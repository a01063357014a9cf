/- ShardMends: for all rows and numbers the law returns true. Conditions: the reach of each slice, the table of math/bits. -/
import Derived.Test.YtmeckdgigjjjbaaDoorShardLaw
import Derived.Test.YtmeckdgigjjjbaaDoorShardW
import Derived.Test.YtmeckdgigjjjbaaDoorRefMend
namespace Go.Proofs.YtmeckdgigjjjbaaDoor
open Go Go.RowKit

set_option maxRecDepth 100000 in
set_option maxHeartbeats 1000000 in
theorem shardMends_any (a : Option Addr) (c : Nat) (D : Mx) (k m : Int) (w : World) (hr : RdLL w a c D) (hz : Reach D) (hk : -9223372036854775808 ≤ k ∧ k ≤ 9223372036854775807) (hm : -9223372036854775808 ≤ m ∧ m ≤ 9223372036854775807)
    (hT : TabAt 0 Lib.deBruijn64tab w) :
    Calls Tryd.prog 3 #[.slice a D.length c, .int .i64 k, .int .i64 m] w fun e w' => e = .returned (.bool true) ∧ Below w.heap.size w w' := by
  have gA := great_any w a c D hr hz
  cases hA : great 1500 D with
  | true =>
    rw [hA] at gA
    have GA := Lib.hid gA
    clear gA hA
    go_enter Tryd.func3, Tryd.ntmps3
    go_wp2_with fail
    refine GA.out.mono ?_
    rintro e w' ⟨rfl, rfl⟩
    go_wp2
    go_ret
    exact ⟨rfl, Below.refl _ _⟩
  | false =>
    obtain ⟨l1, l2⟩ := great_le hA
    rw [hA] at gA
    have GA := Lib.hid gA
    have hS := mendAll_any w a c D k m hr hk hm (by omega) (fun r hr => by have := l2 r hr; omega) hT
    have hR := fun W (hb : Below w.heap.size w W) => refMend_any W a c D k m (hr.kept hb) hk hm (by omega) (fun r hr => by have := l2 r hr; omega)
    obtain ⟨X, F, hX⟩ : ∃ X F, mendR D k m = (X, F) := ⟨_, _, rfl⟩
    rw [hX] at hS
    simp only [hX] at hR
    have HS := Lib.hid hS
    have HR := Lib.hid hR
    clear gA hA hX hS hR l2
    go_enter Tryd.func3, Tryd.ntmps3
    go_wp2_with fail
    refine GA.out.mono ?_
    rintro e w' ⟨rfl, hw⟩
    have hw := hw.symm
    subst hw
    clear GA
    go_wp2_with fail
    refine HS.out.mono ?_
    intro e w1 h
    obtain ⟨ac, cc, rfl, hrc, hb1⟩ := MxP.rd h
    clear h HS
    go_wp2_with fail
    refine (HR.out w1 hb1).mono ?_
    intro e w2 h
    obtain ⟨ad, cd, rfl, hrd, hb2⟩ := MxP.rd h
    clear h HR
    go_wp2_with fail
    refine (rows_true w2 ac ad cc cd X (hrc.kept hb2) hrd).mono ?_
    rintro e w3 ⟨rfl, hq3⟩
    have hb3 : Below w.heap.size w w3 := (hb1.trans (hb2.mono hb1.size)).trans (hq3.below _)
    clear hrc hrd hb2 hq3
    go_wp2_with fail
    refine (shardKnown_any _).mono ?_
    rintro e w4 ⟨rfl, hb4⟩
    go_wp2
    go_ret
    exact ⟨rfl, hb3.trans (hb4.mono hb3.size)⟩
end Go.Proofs.YtmeckdgigjjjbaaDoor
