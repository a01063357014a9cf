/- A nil Net: the contracts. Conditions: none. -/
import Derived.Test.YtoagneajlfglcaaNetKnown
namespace Go.Proofs.Ytoagneajlfglcaa
open Go Go.RowKit

theorem fullNil_any (w : World) : Calls Try.prog 21 #[.pointer none] w fun e w' => e = .returned (.bool true) ∧ w' = w := by
  go_enter Try.func21, Try.ntmps21
  go_wp2
  go_ret
  exact ⟨rfl, rfl⟩
theorem hasNil_any (w : World) (i : Int) : Calls Try.prog 24 #[.pointer none, .int .i64 i] w fun e w' => e = .returned (.bool false) ∧ w' = w := by
  go_enter Try.func24, Try.ntmps24
  go_wp2
  go_ret
  exact ⟨rfl, rfl⟩
theorem lenNil_any (w : World) : Calls Try.prog 9 #[.pointer none] w fun e w' => e = .returned (.int .i64 0) ∧ w' = w := by
  go_enter Try.func9, Try.ntmps9
  go_wp2
  go_ret
  exact ⟨rfl, rfl⟩
theorem dropNil_any (w : World) (i : Int) : Calls Try.prog 19 #[.pointer none, .int .i64 i] w fun e w' => e = .returned (.int .i64 0) ∧ Below w.heap.size w w' := by
  go_enter Try.func19, Try.ntmps19
  go_wp2
  go_ret
  exact ⟨rfl, (Below.refl _ _).alloc (Nat.le_refl _) _⟩
theorem sendNil_any (w : World) (f t k : Int) (an ad : Option Addr) (nn cn nd cd : Nat) : Calls Try.prog 7 #[.pointer none, .agg #[.int .i64 f, .int .i64 t, .int .i64 k, .slice an nn cn, .slice ad nd cd]] w fun e w' => e = .returned (.bool false) ∧ Below w.heap.size w w' := by
  go_enter Try.func7, Try.ntmps7
  go_wp2_with fail
  refine (fullNil_any _).mono ?_
  rintro e w1 ⟨rfl, hw⟩
  subst hw
  go_wp2
  go_ret
  exact ⟨rfl, (Below.refl _ _).alloc (Nat.le_refl _) _⟩
set_option maxRecDepth 100000 in
set_option maxHeartbeats 1000000 in
theorem atNil_any (w : World) (i : Int) : Calls Try.prog 14 #[.pointer none, .int .i64 i] w fun e w' => e = .returned (.tuple #[.agg #[.int .i64 0, .int .i64 0, .int .i64 0, .slice none 0 0, .slice none 0 0], .bool false]) ∧ Below w.heap.size w w' := by
  obtain ⟨W0, hW0⟩ : ∃ W0, W0 = w.alloc (.cells #[.int .i64 0, .int .i64 0, .int .i64 0, .slice none 0 0, .slice none 0 0] 31) := ⟨_, rfl⟩
  obtain ⟨K, hK⟩ : ∃ K, K = w.heap.size := ⟨_, rfl⟩
  have hb0 : Below w.heap.size w W0 := by rw [hW0]; exact (Below.refl _ _).alloc (Nat.le_refl _) _
  have hZ : BlkV W0 K 31 #[.int .i64 0, .int .i64 0, .int .i64 0, .slice none 0 0, .slice none 0 0] := by rw [hW0, hK]; exact BlkV.new w _ _
  have HW0 := Lib.hid hW0
  have HK := Lib.hid hK
  have HB := Lib.hid hb0
  clear hW0 hK hb0
  go_enter Try.func14, Try.ntmps14
  go_wp2_with fail
  rw [← HW0.out, ← HK.out]
  refine (hasNil_any _ _).mono ?_
  rintro e w1 ⟨rfl, hw1⟩
  have hw1 := hw1.symm
  subst hw1
  go_wp2_with (with_reducible refine At.store 31 (.tmp 4) (.tmp 10) ?_)
  refine At.out (wpList_storeV rfl _ rfl (.tmp 4) (.tmp 10) rfl strM K _ #[.int .i64 0, .int .i64 0, .int .i64 0, .slice none 0 0, .slice none 0 0] rfl rfl hZ rfl rfl (by simp [Value.oneCell']) ?_)
  intro w6 hB6 hbel6 _
  have hb6 := hbel6 w.heap.size w HB.out (by have := HK.out; omega)
  go_wp2_with fail
  exact bodyPost_ret (v := .tuple #[.agg #[.int .i64 0, .int .i64 0, .int .i64 0, .slice none 0 0, .slice none 0 0], .bool false]) (results_cell2 rfl strM rfl rfl hB6 rfl) rfl ⟨rfl, hb6⟩
set_option maxRecDepth 100000 in
set_option maxHeartbeats 1000000 in
theorem takeNil_any (w : World) (i : Int) : Calls Try.prog 10 #[.pointer none, .int .i64 i] w fun e w' => e = .returned (.tuple #[.agg #[.int .i64 0, .int .i64 0, .int .i64 0, .slice none 0 0, .slice none 0 0], .bool false]) ∧ Below w.heap.size w w' := by
  obtain ⟨W0, hW0⟩ : ∃ W0, W0 = w.alloc (.cells #[.int .i64 0, .int .i64 0, .int .i64 0, .slice none 0 0, .slice none 0 0] 31) := ⟨_, rfl⟩
  obtain ⟨K, hK⟩ : ∃ K, K = w.heap.size := ⟨_, rfl⟩
  have hb0 : Below w.heap.size w W0 := by rw [hW0]; exact (Below.refl _ _).alloc (Nat.le_refl _) _
  have hZ : BlkV W0 K 31 #[.int .i64 0, .int .i64 0, .int .i64 0, .slice none 0 0, .slice none 0 0] := by rw [hW0, hK]; exact BlkV.new w _ _
  have HW0 := Lib.hid hW0
  have HK := Lib.hid hK
  have HB := Lib.hid hb0
  clear hW0 hK hb0
  go_enter Try.func10, Try.ntmps10
  go_wp2_with fail
  rw [← HW0.out, ← HK.out]
  refine (atNil_any _ _).mono ?_
  rintro e w1 ⟨rfl, hb1⟩
  have hZ1 := hZ.below hb1
  have hbw1 : Below w.heap.size w w1 := HB.out.trans (hb1.mono HB.out.size)
  obtain ⟨K2, hK2⟩ : ∃ K2, K2 = w1.heap.size := ⟨_, rfl⟩
  obtain ⟨W2, hW2⟩ : ∃ W2, W2 = w1.alloc (.cells #[.int .i64 0, .int .i64 0, .int .i64 0, .slice none 0 0, .slice none 0 0] 31) := ⟨_, rfl⟩
  have hb2 : Below w1.heap.size w1 W2 := by rw [hW2]; exact (Below.refl _ _).alloc (Nat.le_refl _) _
  have hT2 : BlkV W2 K2 31 #[.int .i64 0, .int .i64 0, .int .i64 0, .slice none 0 0, .slice none 0 0] := by rw [hW2, hK2]; exact BlkV.new w1 _ _
  have hZ2 := hZ1.below hb2
  have HBW := Lib.hid (hbw1.trans (hb2.mono hbw1.size))
  have HW2 := Lib.hid hW2
  have HK2 := Lib.hid hK2
  clear hW2 hK2 hb2 hZ1 hbw1 hb1 hZ
  go_wp2_with (with_reducible refine At.slot 26 ?_)
  rw [← HW2.out, ← HK2.out]
  refine At.out (wpList_loadV rfl _ rfl (.tmp 6) rfl strM K2 _ rfl hT2 rfl ?_)
  go_wp2_with (with_reducible refine At.store 31 (.tmp 4) (.tmp 26) ?_)
  refine At.out (wpList_storeV rfl _ rfl (.tmp 4) (.tmp 26) rfl strM K _ #[.int .i64 0, .int .i64 0, .int .i64 0, .slice none 0 0, .slice none 0 0] rfl rfl hZ2 rfl rfl (by simp [Value.oneCell']) ?_)
  intro w6 hB6 hbel6 _
  have hb6 := hbel6 w.heap.size w HBW.out (by have := HK.out; omega)
  go_wp2_with fail
  exact bodyPost_ret (v := .tuple #[.agg #[.int .i64 0, .int .i64 0, .int .i64 0, .slice none 0 0, .slice none 0 0], .bool false]) (results_cell2 rfl strM rfl rfl hB6 rfl) rfl ⟨rfl, hb6⟩
set_option maxRecDepth 100000 in
theorem twiceNil_any (w : World) (i : Int) : Calls Try.prog 8 #[.pointer none, .int .i64 i] w fun e w' => e = .returned (.bool false) ∧ Below w.heap.size w w' := by
  go_enter Try.func8, Try.ntmps8
  go_wp2_with fail
  refine (atNil_any _ _).mono ?_
  rintro e w1 ⟨rfl, hb1⟩
  have hb2 := fun o => hb1.alloc hb1.size o
  have HB := Lib.hid hb2
  clear hb1 hb2
  go_wp2
  go_ret
  exact ⟨rfl, HB.out _⟩
end Go.Proofs.Ytoagneajlfglcaa
