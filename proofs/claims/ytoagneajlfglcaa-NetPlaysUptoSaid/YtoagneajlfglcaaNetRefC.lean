/- The document's Clone: the contract. Conditions: its own premises. -/
import Derived.Test.YtoagneajlfglcaaNetTakeF
namespace Go.Proofs.Ytoagneajlfglcaa
open Go Go.RowKit

set_option maxRecDepth 100000 in
set_option maxHeartbeats 4000000 in
theorem refClone_o (w : World) (M : Ms) (an ad : Option Addr) (cn cd : Nat) (hn : Rd w an cn (BI M.nums)) (hd : Rd w ad cd (B8 M.data)) (ln : M.nums.length ≤ 100000000) (ld : M.data.length ≤ 100000000) :
    Calls Try.prog 11 #[msV M an cn ad cd] w (OwnO w M) := by
  obtain ⟨nn, hnn⟩ : ∃ nn, nn = M.nums.length := ⟨_, rfl⟩
  obtain ⟨nd, hnd⟩ : ∃ nd, nd = M.data.length := ⟨_, rfl⟩
  obtain ⟨K, hK⟩ : ∃ K, K = w.heap.size := ⟨_, rfl⟩
  rw [hnn.symm] at ln
  rw [hnd.symm] at ld
  have HK := Lib.hid hK
  have HNN := Lib.hid hnn
  have HND := Lib.hid hnd
  have HRN := Lib.hid hn
  have HRD := Lib.hid hd
  unfold msV
  rw [← hnn, ← hnd]
  clear hn hd hnn hnd hK
  go_enter Try.func11, Try.ntmps11
  go_upto_region 1 with (fail)
  obtain ⟨W0, hW0⟩ : ∃ W0, W0 = (w.alloc (.cells #[.int .i64 M.fr, .int .i64 M.to, .int .i64 M.kd, .slice an nn cn, .slice ad nd cd] 31)).alloc (.cells #[.int .i64 0, .int .i64 0, .int .i64 0, .slice none 0 0, .slice none 0 0] 31) := ⟨_, rfl⟩
  have hb0 : Below K w W0 := by rw [hW0, HK.out]; exact ((Below.refl _ _).alloc (Nat.le_refl _) _).alloc (by simp) _
  have hM0 : BlkV W0 K 31 #[.int .i64 M.fr, .int .i64 M.to, .int .i64 M.kd, .slice an nn cn, .slice ad nd cd] := by rw [hW0, HK.out]; exact (BlkV.new w _ _).alloc _
  have hZ0 : BlkV W0 (K + 1) 31 #[.int .i64 0, .int .i64 0, .int .i64 0, .slice none 0 0, .slice none 0 0] := by
    rw [hW0, HK.out]
    have := BlkV.new (w.alloc (.cells #[.int .i64 M.fr, .int .i64 M.to, .int .i64 M.kd, .slice an nn cn, .slice ad nd cd] 31)) 31 #[.int .i64 0, .int .i64 0, .int .i64 0, .slice none 0 0, .slice none 0 0]
    simpa using this
  have hK0 : K ≤ W0.heap.size := by have := hM0.lt; omega
  rw [← hW0, ← HK.out]
  clear hW0
  have e1 := hM0.alloc (.cells #[] 3)
  have k3 := e1.cell 3
  simp only [List.getElem?_toArray, List.getElem?_cons_succ, List.getElem?_cons_zero] at k3
  clear e1
  have hbw : Below w.heap.size w W0 := HK.out ▸ hb0
  have hbA : Below W0.heap.size W0 (W0.alloc (.cells #[] 3)) := (Below.refl _ _).alloc (Nat.le_refl _) _
  go_wp2_with (with_reducible refine At.slot 6 ?_)
  refine At.out (wpList_app rfl (.tmp 3) (.tmp 5) 28 rfl elemI rfl W0.heap.size _ 0 [] rfl (own_empty W0 _) an nn cn (BI M.nums) rfl (by rw [BI_length]; exact HNN.out) ((HRN.out.kept hbw).kept hbA) (BI_one _) (by unfold maxLen; omega) (by omega) (by simp) ?_)
  intro v1 w1 ho1 hb1 _
  rw [Nat.zero_add, List.nil_append] at ho1
  obtain ⟨a3, c3, rfl⟩ := own_slice ho1
  have hb01 : Below W0.heap.size W0 w1 := hbA.trans hb1
  have hM1 := hM0.below hb01
  have hZ1 := hZ0.below hb01
  have q1 := own_base ho1 hK0
  have hb1w : Below w.heap.size w w1 := hbw.trans (hb01.mono hbw.size)
  have f3 := hM1.frozen 3
  have g3 := hM1.cell 3
  simp only [List.getElem?_toArray, List.getElem?_cons_succ, List.getElem?_cons_zero] at g3
  clear ho1 hb1 hb01 hM0 hZ0 k3 hbA
  go_upto_region 2 with (fail)
  have hM2 := hM1.set 3 (.slice a3 nn c3)
  have hZ2 := hZ1.far (show K + 1 ≠ K by omega) 3 (.slice a3 nn c3)
  have q2 := own_setC q1 hM1 (by decide) 3 (.slice a3 nn c3)
  have hb2w : Below w.heap.size w (w1.setCell ⟨K, 3, none⟩ (.slice a3 nn c3)) := hb1w.setCell (p := ⟨K, 3, none⟩) (by have := HK.out; show w.heap.size ≤ K; omega) _
  obtain ⟨W2, hW2⟩ : ∃ W2, W2 = w1.setCell ⟨K, 3, none⟩ (.slice a3 nn c3) := ⟨_, rfl⟩
  rw [← hW2] at hM2 hZ2 q2 hb2w ⊢
  simp only [List.setIfInBounds_toArray, List.set_cons_zero, List.set_cons_succ] at hM2
  clear hW2 hM1 hZ1 q1 hb1w f3 g3 hbw
  have hK2 : K ≤ W2.heap.size := by have := hM2.lt; omega
  have e1 := hM2.alloc (.cells #[] 5)
  have k4 := e1.cell 4
  simp only [List.getElem?_toArray, List.getElem?_cons_succ, List.getElem?_cons_zero] at k4
  clear e1
  have hbB : Below W2.heap.size W2 (W2.alloc (.cells #[] 5)) := (Below.refl _ _).alloc (Nat.le_refl _) _
  go_wp2_with (with_reducible refine At.slot 11 ?_)
  refine At.out (wpList_app rfl (.tmp 8) (.tmp 10) 29 rfl elemB rfl W2.heap.size _ 0 [] rfl (own_empty W2 _) ad nd cd (B8 M.data) rfl (by rw [B8_length]; exact HND.out) ((HRD.out.kept hb2w).kept hbB) (B8_one _) (by unfold maxLen; omega) (by omega) (by simp) ?_)
  intro v3 w3 ho3 hb3 _
  rw [Nat.zero_add, List.nil_append] at ho3
  obtain ⟨a4, c4, rfl⟩ := own_slice ho3
  have hb23 : Below W2.heap.size W2 w3 := hbB.trans hb3
  have hM3 := hM2.below hb23
  have hZ3 := hZ2.below hb23
  have q3 := own_below q2 hb23
  have r3 := own_base ho3 hK2
  have hb3w : Below w.heap.size w w3 := hb2w.trans (hb23.mono hb2w.size)
  have f4 := hM3.frozen 4
  have g4 := hM3.cell 4
  simp only [List.getElem?_toArray, List.getElem?_cons_succ, List.getElem?_cons_zero] at g4
  clear ho3 hb3 hb23 hM2 hZ2 k4 q2 hb2w hbB
  go_upto_region 3 with (fail)
  have hM4 := hM3.set 4 (.slice a4 nd c4)
  have hZ4 := hZ3.far (show K + 1 ≠ K by omega) 4 (.slice a4 nd c4)
  have q4 := own_setC q3 hM3 (by decide) 4 (.slice a4 nd c4)
  have r4 := own_setC r3 hM3 (by decide) 4 (.slice a4 nd c4)
  have hb4w : Below w.heap.size w (w3.setCell ⟨K, 4, none⟩ (.slice a4 nd c4)) := hb3w.setCell (p := ⟨K, 4, none⟩) (by have := HK.out; show w.heap.size ≤ K; omega) _
  obtain ⟨W6, hW6⟩ : ∃ W6, W6 = w3.setCell ⟨K, 4, none⟩ (.slice a4 nd c4) := ⟨_, rfl⟩
  rw [← hW6] at hM4 hZ4 q4 r4 hb4w ⊢
  simp only [List.setIfInBounds_toArray, List.set_cons_zero, List.set_cons_succ] at hM4
  clear hW6 hM3 hZ3 q3 r3 hb3w f4 g4
  go_wp2_with (with_reducible refine At.slot 13 ?_)
  refine At.out (wpList_loadV rfl _ rfl (.tmp 1) rfl strM K _ rfl hM4 rfl ?_)
  go_wp2_with (with_reducible refine At.store 31 (.tmp 2) (.tmp 13) ?_)
  refine At.out (wpList_storeV rfl _ rfl (.tmp 2) (.tmp 13) rfl strM (K + 1) _ #[.int .i64 M.fr, .int .i64 M.to, .int .i64 M.kd, .slice a3 nn c3, .slice a4 nd c4] rfl rfl hZ4 rfl rfl (by simp [Value.oneCell']) ?_)
  intro w7 hB7 hbel7 hoth7
  have hb7 := hbel7 w.heap.size w hb4w (by have := HK.out; omega)
  have hg7 : ∀ k, k ≠ K + 1 → w7.heap[k]? = W6.heap[k]? := hoth7
  have r5 := own_other q4 hZ4 (by decide) hg7
  have r6 := own_other r4 hZ4 (by decide) hg7
  go_wp2_with fail
  exact bodyPost_ret (v := .agg #[.int .i64 M.fr, .int .i64 M.to, .int .i64 M.kd, .slice a3 nn c3, .slice a4 nd c4]) (results_cell1 rfl strM rfl hB7 rfl) rfl ⟨_, rfl, ⟨a3, c3, a4, c4, by rw [← HNN.out, ← HND.out], HK.out ▸ HNN.out ▸ r5, HK.out ▸ HND.out ▸ r6⟩, hb7⟩
end Go.Proofs.Ytoagneajlfglcaa
