/- A nil table: the contracts. Conditions: each contract's own premises. -/
import Derived.Test.YteenbobblbehoaaFsmLaw
namespace Go.Proofs.Yteenbobblbehoaa
open Go Go.RowKit

theorem strV : StrT Try.prog 37 6 := ⟨by
  have h : (Try.prog.info? 37).map (·.size) = some 6 := by kernel_rfl
  obtain ⟨i, h1, h3⟩ := Option.map_eq_some_iff.1 h
  exact ⟨i, h1, h3⟩, ⟨_, Try.underlying37⟩⟩

set_option maxRecDepth 100000 in
set_option maxHeartbeats 1000000 in
theorem applyNil_any (w : World) (v : Value) : Calls Try.prog 17 #[.pointer none, v] w fun e w' => e = .returned (.tuple #[.slice none 0 0, .int .i64 1]) ∧ w' = w := by
  go_enter Try.func17, Try.ntmps17
  go_wp2
  go_ret2
  exact ⟨rfl, rfl⟩
set_option maxRecDepth 100000 in
set_option maxHeartbeats 1000000 in
theorem volumesNil_any (w : World) : Calls Try.prog 12 #[.pointer none] w fun e w' => e = .returned (.slice none 0 0) ∧ w' = w := by
  go_enter Try.func12, Try.ntmps12
  go_wp2
  go_ret
  exact ⟨rfl, rfl⟩
set_option maxRecDepth 100000 in
set_option maxHeartbeats 1000000 in
theorem sumNil_any (w : World) : Calls Try.prog 14 #[.pointer none] w fun e w' => e = .returned (.int .u32 0) ∧ w' = w := by
  go_enter Try.func14, Try.ntmps14
  go_wp2
  go_ret
  exact ⟨rfl, rfl⟩
set_option maxRecDepth 100000 in
set_option maxHeartbeats 1000000 in
theorem volumeNil_any (w : World) (i : Int) : Calls Try.prog 13 #[.pointer none, .int .i64 i] w fun e w' => e = .returned (.tuple #[.agg #[.int .i64 0, .int .i64 0, .int .i64 0, .slice none 0 0, .bool false, .int .i64 0], .bool false]) ∧ Below w.heap.size w w' := by
  obtain ⟨W0, hW0⟩ : ∃ W0, W0 = w.alloc (.cells #[.int .i64 0, .int .i64 0, .int .i64 0, .slice none 0 0, .bool false, .int .i64 0] 37) := ⟨_, rfl⟩
  obtain ⟨K, hK⟩ : ∃ K, K = w.heap.size := ⟨_, rfl⟩
  have hb0 : Below w.heap.size w W0 := by rw [hW0]; exact (Below.refl _ _).alloc (Nat.le_refl _) _
  have hZ : BlkV W0 K 37 #[.int .i64 0, .int .i64 0, .int .i64 0, .slice none 0 0, .bool false, .int .i64 0] := by rw [hW0, hK]; exact BlkV.new w _ _
  have HW0 := Lib.hid hW0
  have HK := Lib.hid hK
  have HB := Lib.hid hb0
  clear hW0 hK hb0
  go_enter Try.func13, Try.ntmps13
  go_wp2_with fail
  rw [← HW0.out, ← HK.out]
  refine (of_nil _ _).mono ?_
  rintro e w1 ⟨rfl, hw1⟩
  have hw1 := hw1.symm
  subst hw1
  go_wp2_with (with_reducible refine At.store 37 (.tmp 4) (.tmp 12) ?_)
  refine At.out (wpList_storeV rfl _ rfl (.tmp 4) (.tmp 12) rfl strV K _ #[.int .i64 0, .int .i64 0, .int .i64 0, .slice none 0 0, .bool false, .int .i64 0] rfl rfl hZ rfl rfl (by simp [Value.oneCell']) ?_)
  intro w6 hB6 hbel6 _
  have hb6 := hbel6 w.heap.size w HB.out (by have := HK.out; omega)
  go_wp2_with fail
  exact bodyPost_ret (v := .tuple #[.agg #[.int .i64 0, .int .i64 0, .int .i64 0, .slice none 0 0, .bool false, .int .i64 0], .bool false]) (results_cell2 rfl strV rfl rfl hB6 rfl) rfl ⟨rfl, hb6⟩

set_option maxRecDepth 100000 in
set_option maxHeartbeats 2000000 in
theorem fsmOfNothing_any (a : Option Addr) (c : Nat) (b : List UInt8) (i : Int) (w : World) (hr : Rd w a c (B8 b)) (_hi : -9223372036854775808 ≤ i ∧ i ≤ 9223372036854775807) :
    Calls Try.prog 4 #[.slice a b.length c, .int .i64 i] w fun e w' => e = .returned (.bool true) ∧ Below w.heap.size w w' := by
  have hle := hr.le
  rw [B8_length] at hle
  obtain ⟨n, hn⟩ : ∃ n, n = b.length := ⟨_, rfl⟩
  rw [← hn] at hle ⊢
  clear hn hr
  by_cases h0 : 4000 < n
  · have h0i : (4000 : Int) < (n : Int) := by omega
    go_enter Try.func4, Try.ntmps4
    go_wp2
    go_ret
    exact ⟨rfl, Below.refl _ _⟩
  have h0i : ¬ (4000 : Int) < (n : Int) := by omega
  go_enter Try.func4, Try.ntmps4
  go_wp2_with fail
  refine (applyNil_any _ _).mono ?_
  rintro e w1 ⟨rfl, hw1⟩
  have hw1 := hw1.symm
  subst hw1
  go_wp2_with fail
  refine (volumeNil_any _ _).mono ?_
  rintro e w2 ⟨rfl, hb2⟩
  have hb2' : ∀ o, Below w.heap.size w (w2.alloc o) := fun o => hb2.alloc hb2.size o
  have HB2 := Lib.hid hb2'
  clear hb2 hb2'
  go_wp2_with fail
  refine (volumesNil_any _).mono ?_
  rintro e w3 ⟨rfl, hw3⟩
  subst hw3
  go_wp2_with fail
  refine (sumNil_any _).mono ?_
  rintro e w4 ⟨rfl, hw4⟩
  subst hw4
  go_wp2_with fail
  refine (fsmKnown_any _).mono ?_
  rintro e w5 ⟨rfl, hb5⟩
  have HB5 := Lib.hid ((HB2.out _).trans (hb5.mono (HB2.out _).size))
  clear hb5
  go_wp2
  go_ret
  exact ⟨rfl, HB5.out⟩
end Go.Proofs.Yteenbobblbehoaa
