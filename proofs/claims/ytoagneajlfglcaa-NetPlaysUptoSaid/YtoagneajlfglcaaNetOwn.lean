/- net's own: the contract. Conditions: its own premises. -/
import Derived.Test.YtoagneajlfglcaaNetClone
import Derived.Deep.CutRange
import Derived.Deep.RegionHeld3
namespace Go.Proofs.Ytoagneajlfglcaa
open Go Go.RowKit

theorem strM : StrT Try.prog 31 5 := ⟨by
    obtain ⟨i, h1, h2, h3, h4⟩ := info_parts (show (Try.prog.info? 31).map (fun i => (i.zero, i.size, i.bytes)) = some (some (.agg #[.int .i64 0, .int .i64 0, .int .i64 0, .slice none 0 0, .slice none 0 0]), 5, 72) by kernel_rfl)
    exact ⟨i, h1, h3⟩, ⟨_, Try.underlying31⟩⟩
def msV (M : Ms) (an : Option Addr) (cn : Nat) (ad : Option Addr) (cd : Nat) : Value := .agg #[.int .i64 M.fr, .int .i64 M.to, .int .i64 M.kd, .slice an M.nums.length cn, .slice ad M.data.length cd]
theorem TRd.same {w w' : World} {t t' : TypeId} {a : Option Addr} {c : Nat} {xs : List Value} (h : TRd w t a c xs) {g : Nat} {cs : Array Value} (hB : BlkV w g t' cs) (hne : t ≠ t') (hg : ∀ k, k ≠ g → w'.heap[k]? = w.heap[k]?) : TRd w' t a c xs := by
  by_cases hx : xs = []
  · subst hx
    exact ⟨⟨h.1.1, h.1.2.1, h.1.2.2.1, Cs.nil _ _⟩, fun b o hx => absurd rfl hx⟩
  · have hblk : ∀ b o, a = some ⟨b, o, none⟩ → w'.heap[b]? = w.heap[b]? := fun b o ha => by
      obtain ⟨cs', fr, hh⟩ := h.2 b o hx ha
      refine hg b ?_
      rintro rfl
      rw [show w.heap[b]? = _ from hB] at hh
      cases hh
      exact hne rfl
    refine ⟨⟨h.1.1, h.1.2.1, h.1.2.2.1, fun i u hu => ?_⟩, fun b o _ ha => ?_⟩
    · obtain ⟨b, o, ha, hc⟩ := h.1.cs i u hu
      exact ⟨b, o, ha, by rw [World.cell?_of_block (hblk b o ha)]; exact hc⟩
    · obtain ⟨cs, fr, hh⟩ := h.2 b o hx ha
      exact ⟨cs, fr, by rw [hblk b o ha]; exact hh⟩
theorem TRd.setCell {w : World} {t t' : TypeId} {a : Option Addr} {c : Nat} {xs : List Value} (h : TRd w t a c xs) {g : Nat} {cs : Array Value} (hB : BlkV w g t' cs) (hne : t ≠ t') (j : Nat) (u : Value) : TRd (w.setCell ⟨g, j, none⟩ u) t a c xs :=
  h.same hB hne fun k hk => Below.heap_setCell w ⟨g, j, none⟩ u k hk
/-- What own gives. -/
def OwnP (w : World) (M : Ms) (e : Ending) (w' : World) : Prop := ∃ x, e = .returned (.agg x) ∧ MsR w' x.toList M ∧ Below w.heap.size w w'

set_option maxRecDepth 100000 in
set_option maxHeartbeats 4000000 in
theorem own_any (w : World) (M : Ms) (an ad : Option Addr) (cn cd : Nat) (hn : Rd w an cn (BI M.nums)) (hd : Rd w ad cd (B8 M.data)) (ln : M.nums.length ≤ 100000000) (ld : M.data.length ≤ 100000000) :
    Calls Try.prog 22 #[msV M an cn ad cd] w (OwnP w M) := by
  obtain ⟨nn, hnn⟩ : ∃ nn, nn = M.nums.length := ⟨_, rfl⟩
  obtain ⟨nd, hnd⟩ : ∃ nd, nd = M.data.length := ⟨_, rfl⟩
  have hI : ∀ W, Below w.heap.size w W → Calls Try.prog 28 #[.slice an nn cn] W fun e w' => ∃ a c, e = .returned (.slice a nn c) ∧ TRd w' 3 a c (BI M.nums) ∧ Below W.heap.size W w' := fun W hb => by
    refine (cloneI_any W an cn nn M.nums hnn (hn.kept hb) ln).mono ?_
    rintro e w' ⟨r, rfl, ho, hb⟩
    obtain ⟨a, c, rfl, ht⟩ := TRd.ofOwn ho
    exact ⟨a, c, rfl, ht, hb⟩
  have hB : ∀ W, Below w.heap.size w W → Calls Try.prog 29 #[.slice ad nd cd] W fun e w' => ∃ a c, e = .returned (.slice a nd c) ∧ TRd w' 5 a c (B8 M.data) ∧ Below W.heap.size W w' := fun W hb => by
    refine (cloneB_any W ad cd nd M.data hnd (hd.kept hb) ld).mono ?_
    rintro e w' ⟨r, rfl, ho, hb⟩
    obtain ⟨a, c, rfl, ht⟩ := TRd.ofOwn ho
    exact ⟨a, c, rfl, ht, hb⟩
  have HI := Lib.hid hI
  have HB := Lib.hid hB
  obtain ⟨K, hK⟩ : ∃ K, K = w.heap.size := ⟨_, rfl⟩
  have HK := Lib.hid hK
  have HNN := Lib.hid hnn
  have HND := Lib.hid hnd
  unfold msV
  rw [← hnn, ← hnd]
  clear hI hB hn hd hnn hnd hK
  go_enter Try.func22, Try.ntmps22
  go_upto_region 1 with (fail)
  obtain ⟨W0, hW0⟩ : ∃ W0, W0 = (w.alloc (.cells #[.int .i64 M.fr, .int .i64 M.to, .int .i64 M.kd, .slice an nn cn, .slice ad nd cd] 31)).alloc (.cells #[.int .i64 0, .int .i64 0, .int .i64 0, .slice none 0 0, .slice none 0 0] 31) := ⟨_, rfl⟩
  have hb0 : Below K w W0 := by rw [hW0, HK.out]; exact ((Below.refl _ _).alloc (Nat.le_refl _) _).alloc (by simp) _
  have hM0 : BlkV W0 K 31 #[.int .i64 M.fr, .int .i64 M.to, .int .i64 M.kd, .slice an nn cn, .slice ad nd cd] := by rw [hW0, HK.out]; exact (BlkV.new w _ _).alloc _
  have hZ0 : BlkV W0 (K + 1) 31 #[.int .i64 0, .int .i64 0, .int .i64 0, .slice none 0 0, .slice none 0 0] := by
    rw [hW0, HK.out]
    have := BlkV.new (w.alloc (.cells #[.int .i64 M.fr, .int .i64 M.to, .int .i64 M.kd, .slice an nn cn, .slice ad nd cd] 31)) 31 #[.int .i64 0, .int .i64 0, .int .i64 0, .slice none 0 0, .slice none 0 0]
    simpa using this
  rw [← hW0, ← HK.out]
  have k3 := hM0.cell 3
  have k4 := hM0.cell 4
  simp only [List.getElem?_toArray, List.getElem?_cons_succ, List.getElem?_cons_zero] at k3 k4
  clear hW0
  go_region_law (first
    | ((with_reducible refine StepAt 5 ?_); (refine At.out ?_); go_simp; go_at_call 28; refine (HI.out _ (HK.out ▸ hb0.drew)).mono ?_; rintro e w3 ⟨a3, c3, rfl, ht3, hb3⟩
       (have hM3 := BlkV.below (w := W0.drew) hM0 hb3); (have j4 := hM3.cell 4); (simp only [List.getElem?_toArray, List.getElem?_cons_succ, List.getElem?_cons_zero] at j4))
    | ((with_reducible refine StepAt 8 ?_); (refine At.out ?_); go_simp; go_at_call 29; refine (HB.out _ (HK.out ▸ (hb0.drew.trans (hb3.mono (by have := hM0.lt; simp; omega))))).mono ?_; rintro e w4 ⟨a4, c4, rfl, ht4, hb4⟩
       (have hM4 := hM3.below hb4); (have i3 := hM4.cell 3); (have i4 := hM4.cell 4); (have f3 := hM4.frozen 3); (have f4 := hM4.frozen 4); (simp only [List.getElem?_toArray, List.getElem?_cons_succ, List.getElem?_cons_zero] at i3 i4)))
  all_goals
    have ht3' := TRd.kept ht3 hb4
    have hM5 := hM4.set 3 (.slice a3 nn c3)
    have hM6 := hM5.set 4 (.slice a4 nd c4)
    have q3 := (TRd.setCell (TRd.setCell ht3' hM4 (by decide) 3 (.slice a3 nn c3)) hM5 (by decide) 4 (.slice a4 nd c4))
    have q4 := (TRd.setCell (TRd.setCell ht4 hM4 (by decide) 3 (.slice a3 nn c3)) hM5 (by decide) 4 (.slice a4 nd c4))
    have hZ4 := (BlkV.below (w := W0.drew) hZ0 hb3).below hb4
    have hZ6 := BlkV.far (BlkV.far hZ4 (show K + 1 ≠ K by omega) 3 (.slice a3 nn c3)) (show K + 1 ≠ K by omega) 4 (.slice a4 nd c4)
    have hb5 : Below K w w4 := (hb0.drew.trans (hb3.mono (by have := hM0.lt; simp; omega))).trans (hb4.mono (by have := hM3.lt; omega))
    have hb6 : Below K w ((w4.setCell ⟨K, 3, none⟩ (.slice a3 nn c3)).setCell ⟨K, 4, none⟩ (.slice a4 nd c4)) := (hb5.setCell (p := ⟨K, 3, none⟩) (Nat.le_refl _) _).setCell (p := ⟨K, 4, none⟩) (Nat.le_refl _) _
    simp only [List.setIfInBounds_toArray, List.set_cons_zero, List.set_cons_succ] at hM6
    obtain ⟨W6, hW6⟩ : ∃ W6, W6 = (w4.setCell ⟨K, 3, none⟩ (.slice a3 nn c3)).setCell ⟨K, 4, none⟩ (.slice a4 nd c4) := ⟨_, rfl⟩
    rw [← hW6] at hM6 q3 q4 hZ6 hb6 ⊢
    clear hW6 hM5 hM4 hM3 hM0 hZ4 hZ0 i3 i4 f3 f4 j4 hb5 hb4 hb3 ht3 ht4 ht3' hb0 k3 k4
    go_wp2_with (with_reducible refine At.slot 11 ?_)
    refine At.out (wpList_loadV rfl _ rfl (.tmp 1) rfl strM K _ rfl hM6 rfl ?_)
    go_wp2_with (with_reducible refine At.store 31 (.tmp 2) (.tmp 11) ?_)
    refine At.out (wpList_storeV rfl _ rfl (.tmp 2) (.tmp 11) rfl strM (K + 1) _ #[.int .i64 M.fr, .int .i64 M.to, .int .i64 M.kd, .slice a3 nn c3, .slice a4 nd c4] rfl rfl hZ6 rfl rfl (by simp [Value.oneCell']) ?_)
    intro w7 hB7 hbel7 hoth7
    have hb7 := hbel7 K w hb6 (by omega)
    have hg7 : ∀ k, k ≠ K + 1 → w7.heap[k]? = W6.heap[k]? := hoth7
    have r3 := TRd.same q3 hZ6 (by decide) hg7
    have r4 := TRd.same q4 hZ6 (by decide) hg7
    go_wp2_with fail
    exact bodyPost_ret (v := .agg #[.int .i64 M.fr, .int .i64 M.to, .int .i64 M.kd, .slice a3 nn c3, .slice a4 nd c4]) (results_cell1 rfl strM rfl hB7 rfl) rfl ⟨_, rfl, ⟨a3, c3, a4, c4, by rw [← HNN.out, ← HND.out], r3, r4⟩, HK.out ▸ hb7⟩
end Go.Proofs.Ytoagneajlfglcaa
