/- slices.Delete of one message: the contract. Conditions: its own premises. -/
import Derived.Test.YtoagneajlfglcaaNetAt
namespace Go.Proofs.Ytoagneajlfglcaa
open Go Go.RowKit

/-- append where there is room, at a step of a region: the block is known whole. -/
theorem step_room {P : Program} {ops : Array Oper} {o : Oper} {a : Act} {w : World} {K : Act → World → Prop} {Q : Exit → Act → World → Prop} {E : Prop} {e : TypeId} {z : Value} {bytes sz : Nat}
    (hgd : o.guard = none) (s x : Operand) (t : TypeId)
    (ho : o.op = .call { callee := .builtin .append, args := #[s, x], argTypes := #[t, t] })
    (T : ElemT P t e sz z bytes) (G n cap : Nat) (cur : Array Value) (hs : a.eval s = .slice (some ⟨G, 0, none⟩) n cap) (hG : w.heap[G]? = some (.cells cur e (0, 0)))
    (ad : Addr) (m c : Nat) (news : List Value) (hx : a.eval x = .slice (some ad) m c) (hm : news.length = m * sz) (hr : ∀ j u, news[j]? = some u → w.cell? (ad.add j) = some u) (h1 : ∀ u ∈ news, u.oneCell' = true)
    (hroom : n + m ≤ cap) (hfit : n * sz + news.length ≤ cur.size)
    (h : K (a.put o.dst (.slice (some ⟨G, 0, none⟩) (n + m) cap)) (w.setRow G (cur.toList.take (n * sz) ++ news ++ cur.toList.drop (n * sz + news.length)).toArray)) :
    if Region.wanted o (yielded ops a.tmps) = true then Oper.wp P o a w K Q else E := by
  have hw : Region.wanted o (yielded ops a.tmps) = true := by simp [Region.wanted, hgd]
  rw [if_pos hw]
  obtain ⟨i, hi, hz, hsz, hby⟩ := T.hi
  subst hsz
  have hrun := run_append_room (P := P) w t o.type e i T.ht hi G n cap cur hG ad m c news hm hr h1 hroom hfit
  unfold Oper.wp execOp
  simp only [ho, resolve, invoke, builtin, Sem.run_bind, Sem.run_pure, Result.andThen_ok, List.map_toArray, List.map_cons, List.map_nil, hs, hx, hrun]
  exact h
def zeroM : List Value := [.int .i64 0, .int .i64 0, .int .i64 0, .slice none 0 0, .slice none 0 0]
def zerosM (n : Nat) : List Value := (Builtin.zeroCells #[.int .i64 0, .int .i64 0, .int .i64 0, .slice none 0 0, .slice none 0 0] n).toList
theorem zerosM_length (n : Nat) : (zerosM n).length = n * 5 := by unfold zerosM; rw [Array.length_toList, size_zeroCells]; rfl
theorem zerosM_one (n : Nat) : ∀ v ∈ zerosM n, v.oneCell' = true := by
  intro v hv'
  simp only [zerosM, Builtin.zeroCells, Array.toList_map, List.mem_map] at hv'
  obtain ⟨i, _, rfl⟩ := hv'
  have h5 : i % 5 < 5 := Nat.mod_lt _ (by decide)
  show (#[Value.int .i64 0, .int .i64 0, .int .i64 0, .slice none 0 0, .slice none 0 0][i % 5]!).oneCell' = true
  match hq : i % 5, h5 with
  | 0, _ => rfl
  | 1, _ => rfl
  | 2, _ => rfl
  | 3, _ => rfl
  | 4, _ => rfl
/-- 'clear' of messages. -/
theorem run_clear_msgs (w : World) (ty : TypeId) (b o n c : Nat) (hn : 0 < n) (cur : Array Value) (t : TypeId) (hg : w.heap[b]? = some (.cells cur t (0, 0))) (hfit : o + n * 5 ≤ cur.size) :
    (Builtin.clear_ #[24] ty #[.slice (some ⟨b, o, none⟩) n c]).run Try.prog w = .ok (.tuple #[]) (w.setRow b (cur.toList.take o ++ zerosM n ++ cur.toList.drop (o + n * 5)).toArray) := by
  have hv : ∀ w, (zeroValue 31).run Try.prog w = .ok (.agg #[.int .i64 0, .int .i64 0, .int .i64 0, .slice none 0 0, .slice none 0 0]) w := fun w => by kernel_rfl
  have hst := run_storeCells_at (P := Try.prog) b o t (zerosM n) 0 cur w hg (by rw [zerosM_length]; omega) (zerosM_one n)
  simp only [Nat.add_zero, zerosM_length] at hst
  unfold zerosM at hst ⊢
  obtain ⟨m, rfl⟩ : ∃ m, n = m + 1 := ⟨n - 1, by omega⟩
  simp [Builtin.clear_, run_underlying Try.underlying24, hv, Value.cells, hst]
theorem grown_setRow {w : World} {g : Nat} (cs : Array Value) : w.grownBy (w.setRow g cs) (some g) :=
  ⟨rfl, rfl, rfl, by simp, fun k _ hne => setRow_other w g k cs (fun e => hne (by rw [e]))⟩

set_option maxRecDepth 100000 in
set_option maxHeartbeats 2000000 in
theorem delete_any (w : World) (B G cap n k : Nat) (xs : List Value) (h : w.ownsRow B 31 5 (.slice (some ⟨G, 0, none⟩) n cap) n xs) (hk : k < n) (hn : n ≤ 100000000) (h1 : ∀ u ∈ xs, u.oneCell' = true) :
    Calls Try.prog 23 #[.slice (some ⟨G, 0, none⟩) n cap, .int .i64 (k : Int), .int .i64 ((k + 1 : Nat) : Int)] w fun e w' => e = .returned (.slice (some ⟨G, 0, none⟩) (n - 1) cap) ∧
      w'.ownsRow B 31 5 (.slice (some ⟨G, 0, none⟩) (n - 1) cap) (n - 1) (xs.take (k * 5) ++ xs.drop ((k + 1) * 5)) ∧ w.grownBy w' (some G) := by
  obtain ⟨cur, hG, hBG, hnc, hcm, hcs, hxs⟩ : ∃ cur : Array Value, w.heap[G]? = some (.cells cur 31 (0, 0)) ∧ B ≤ G ∧ n ≤ cap ∧ cap ≤ maxLen ∧ cur.size = cap * 5 ∧ cur.toList.take (n * 5) = xs := by
    rcases h.2 with ⟨hv, _⟩ | ⟨g, cap', cur, hv, hb, hg, a1, a2, a3, a4⟩
    · cases hv
    · cases hv
      exact ⟨cur, hg, hb, a1, a2, a3, a4⟩
  have hki : (k : Int) < (n : Int) := by omega
  have hci : (n : Int) ≤ (cap : Int) := by omega
  have hkc : (k : Int) + 1 ≤ (cap : Int) := by omega
  have hkn : (k : Int) + 1 ≤ (n : Int) := by omega
  have hkk : (k : Int) ≤ (k : Int) + 1 := by omega
  have hn8 : (n : Int) ≤ 100000000 := by omega
  have hcap : (cap : Int) ≤ 9223372036854775807 := by unfold maxLen at hcm; omega
  have hne : ((k : Int) == (k : Int) + 1) = false := by rw [beq_eq_false_iff_ne]; omega
  have HG := Lib.hid hG
  have HXS := Lib.hid hxs
  have HCS := Lib.hid hcs
  have HCM := Lib.hid hcm
  clear hG hxs hcs h hcm
  go_enter Try.func23, Try.ntmps23
  go_upto_region 5 with (fail)
  have nk1 : k ≤ cap := by omega
  have nk2 : k + 1 ≤ n := by omega
  have nk3 : k + 1 ≤ cap := by omega
  have nk4 : ((k : Int) + 1).toNat = k + 1 := by omega
  have nk5 : (0 : Int) ≤ (k : Int) + 1 := by omega
  obtain ⟨news, hnews⟩ : ∃ news, news = (cur.toList.take (n * 5)).drop ((k + 1) * 5) := ⟨_, rfl⟩
  have hsz : cur.size = cap * 5 := HCS.out
  have hnl : news.length = (n - (k + 1)) * 5 := by
    rw [hnews, List.length_drop, List.length_take, Array.length_toList, hsz]; omega
  obtain ⟨A, hA, hAc⟩ : ∃ A : Addr, (if cap = k + 1 then (some (⟨G, 0, none⟩ : Addr)) else some ⟨G, (k + 1) * 5, none⟩) = some A ∧ ∀ j u, news[j]? = some u → A.add j = ⟨G, (k + 1) * 5 + j, none⟩ := by
    by_cases hce : cap = k + 1
    · refine ⟨⟨G, 0, none⟩, if_pos hce, fun j u hu => ?_⟩
      have := (List.getElem?_eq_some_iff.1 hu).1
      omega
    · exact ⟨⟨G, (k + 1) * 5, none⟩, if_neg hce, fun j u _ => Addr.add_lit _ _ _⟩
  have hcells : ∀ j u, news[j]? = some u → w.drew.cell? (A.add j) = some u := fun j u hu => by
    rw [hAc j u hu]
    show w.cell? ⟨G, (k + 1) * 5 + j, none⟩ = some u
    rw [cell_of_row w G _ cur _ _ HG.out]
    rw [hnews, List.getElem?_drop, List.getElem?_take] at hu
    split at hu
    · simpa using hu
    · cases hu
  have hone : ∀ u ∈ news, u.oneCell' = true := fun u hu => h1 u (by rw [← HXS.out]; rw [hnews] at hu; exact List.mem_of_mem_drop hu)
  have HNL := Lib.hid hnl
  have HCE := Lib.hid hcells
  have HON := Lib.hid hone
  have HNW := Lib.hid hnews
  have HSZ := Lib.hid hsz
  clear hnl hcells hone hnews hsz h1 hAc
  obtain ⟨W1, hW1⟩ : ∃ W1, W1 = w.drew.setRow G (cur.toList.take (k * 5) ++ news ++ cur.toList.drop (k * 5 + news.length)).toArray := ⟨_, rfl⟩
  have HW1 := Lib.hid hW1
  clear hW1
  go_region_law (first
    | ((with_reducible refine StepAt 26 ?_)
       (refine At.out (step_room (by rfl) (.tmp 22) (.tmp 25) 24 (by rfl) elemM G k cap cur (by rfl) (show w.drew.heap[G]? = _ from HG.out) A (n - (k + 1)) (cap - (k + 1)) news (by rfl) HNL.out HCE.out HON.out (by omega) (by rw [HNL.out, HSZ.out]; omega) ?_))
       (rw [show k + (n - (k + 1)) = n - 1 by omega])
       (rw [← HW1.out])))
  obtain ⟨cur1, hc1⟩ : ∃ cur1, cur1 = (cur.toList.take (k * 5) ++ news ++ cur.toList.drop (k * 5 + news.length)).toArray := ⟨_, rfl⟩
  have hG1 : W1.heap[G]? = some (.cells cur1 31 (0, 0)) := by
    rw [HW1.out, hc1]
    exact setRow_heap w.drew G cur _ _ _ HG.out
  have hs1 : cur1.size = cap * 5 := by
    rw [hc1, List.size_toArray, List.length_append, List.length_append, List.length_take, List.length_drop, Array.length_toList, HSZ.out, HNL.out]; omega
  have hclr := fun ty => run_clear_msgs W1 ty G ((n - 1) * 5) 1 (cap - (n - 1)) (by omega) cur1 _ hG1 (by rw [hs1]; omega)
  obtain ⟨cur2, hc2⟩ : ∃ cur2, cur2 = (cur1.toList.take ((n - 1) * 5) ++ zerosM 1 ++ cur1.toList.drop ((n - 1) * 5 + 1 * 5)).toArray := ⟨_, rfl⟩
  obtain ⟨W2, hW2⟩ : ∃ W2, W2 = W1.setRow G cur2 := ⟨_, rfl⟩
  rw [← hc2, ← hW2] at hclr
  have hG2 : W2.heap[G]? = some (.cells cur2 31 (0, 0)) := by rw [hW2]; exact setRow_heap W1 G cur1 _ _ _ hG1
  have hs2 : cur2.size = cap * 5 := by
    rw [hc2, List.size_toArray, List.length_append, List.length_append, List.length_take, List.length_drop, Array.length_toList, hs1, zerosM_length]; omega
  have hgr : w.grownBy W2 (some G) := by
    have e1 : w.grownBy w.drew (some G) := ⟨rfl, rfl, rfl, Nat.le_refl _, fun _ _ _ => rfl⟩
    rw [hW2, HW1.out]
    exact (e1.trans (grown_setRow _)).trans (grown_setRow _)
  have htake : cur2.toList.take ((n - 1) * 5) = xs.take (k * 5) ++ xs.drop ((k + 1) * 5) := by
    rw [hc2]
    show ((cur1.toList.take ((n - 1) * 5) ++ zerosM 1) ++ _).take _ = _
    rw [List.append_assoc, List.take_append_of_le_length (by rw [List.length_take, Array.length_toList, hs1]; omega), List.take_take, Nat.min_self, hc1]
    show ((cur.toList.take (k * 5) ++ news) ++ _).take _ = _
    rw [List.take_append_of_le_length (by rw [List.length_append, List.length_take, Array.length_toList, HSZ.out, HNL.out]; omega), List.take_of_length_le (by rw [List.length_append, List.length_take, Array.length_toList, HSZ.out, HNL.out]; omega)]
    congr 1
    · rw [← HXS.out, List.take_take]; congr 1; omega
    · rw [HNW.out, HXS.out]
  have hfin : W2.ownsRow B 31 5 (.slice (some ⟨G, 0, none⟩) (n - 1) cap) (n - 1) (xs.take (k * 5) ++ xs.drop ((k + 1) * 5)) := by
    refine ⟨?_, .inr ⟨G, cap, cur2, rfl, hBG, hG2, by omega, HCM.out, hs2, htake⟩⟩
    rw [← htake, List.length_take, Array.length_toList, hs2]; omega
  have HFIN := Lib.hid hfin
  have HGR := Lib.hid hgr
  have j1 : n - 1 ≤ n := by omega
  have j2 : n ≤ cap := hnc
  have j3 : ¬ cap = n - 1 := by omega
  have j4 : n - (n - 1) = 1 := by omega
  have j5 : ((n - 1 : Nat) : Int) ≤ (n : Int) := by omega
  clear hc1 hG1 hs1 hc2 hW2 hG2 hs2 hgr htake hfin HNL HCE HON HNW HSZ HG HXS HCS HW1
  go_wp2
  go_ret
  exact ⟨rfl, HFIN.out, HGR.out⟩
end Go.Proofs.Ytoagneajlfglcaa
