/- The document's One: the contract. Conditions: its own premises. -/
import Derived.Test.YtmeckdgigjjjbaaDoorMatOne
import Derived.Test.YtmeckdgigjjjbaaDoorMatCode
namespace Go.Proofs.YtmeckdgigjjjbaaDoor
open Go Go.RowKit

set_option maxRecDepth 100000 in
set_option maxHeartbeats 2000000 in
theorem refOne_any (w : World) (n : Int) : Calls Tryd.prog 30 #[.int .i64 n] w (MxP w (oneR n)) := by
  by_cases h1 : n < 1
  · rw [show oneR n = ([], 1) from if_pos (.inl h1)]
    go_enter Tryd.func30, Tryd.ntmps30
    go_wp2
    go_ret2
    exact MxP.no 1 (Below.refl _ _)
  by_cases h2 : 64 < n
  · rw [show oneR n = ([], 1) from if_pos (.inr h2)]
    go_enter Tryd.func30, Tryd.ntmps30
    go_wp2
    go_ret2
    exact MxP.no 1 (Below.refl _ _)
  obtain ⟨k, rfl⟩ : ∃ k : Nat, n = (k : Int) := ⟨n.toNat, by omega⟩
  have hres : oneR (k : Int) = (oneL k, 0) := by unfold oneR; rw [if_neg (by omega)]; rfl
  rw [hres]
  have hk1 : (1 : Int) ≤ (k : Int) := by omega
  have hk2 : (k : Int) ≤ 64 := by omega
  obtain ⟨G, hG⟩ : ∃ G, G = w.heap.size := ⟨_, rfl⟩
  have HG := Lib.hid hG
  have hGs0 : G ≤ w.heap.size := by omega
  clear hG hres h1 h2
  go_enter Tryd.func30, Tryd.ntmps30
  go_wp2
  go_loopw [4, 5] (fun s4 s5 wr => ∃ (i : Nat) (L : Mx), i ≤ k ∧ s5 = .int .i64 i ∧ OwnLL wr G 34 5 s4 L ∧ Hid (L = (List.range i).map (unitL k)) ∧ Below G w wr) (fun _ s5 _ => k - (intOf s5).toNat)
  case atStart => exact ⟨0, [], by omega, rfl, OwnLL.nil _ _ _ _, Lib.hid rfl, Below.refl _ _⟩
  case round =>
    obtain ⟨i, L, hi, rfl, hO, HL, hb⟩ := hrel
    have hGs : G ≤ wr.heap.size := Nat.le_trans hGs0 hb.size
    have hLl : L.length = i := by rw [HL.out]; simp
    by_cases hlt : i < k
    · have hii : (i : Int) < (k : Int) := by omega
      have HLl := Lib.hid hLl
      clear hLl
      go_wp2_with (with_reducible refine At.slot 19 ?_)
      refine At.out (wpList_make8 rfl (.tmp 18) (.tmp 18) 34 rfl elemB .i64 .i64 (k : Int) (k : Int) k rfl rfl rfl rfl (by omega) ?_)
      intro w2 ho2 hb2
      have hO2 := hO.kept hb2
      obtain ⟨gb, hgb⟩ : ∃ gb, gb = wr.heap.size := ⟨_, rfl⟩
      rw [← hgb] at ho2 hb2 hGs ⊢
      have hb2' : Below G w w2 := hb.trans (hb2.mono hGs)
      have hcb := own_cell8n ho2 i (by simpa using hlt)
      have hfb := ho2.frozenAt i
      simp only [List.getElem_replicate] at hcb
      have hset := own_set8n ho2 i 1
      rw [← unitL_eq] at hset
      have hb3 := hb2'.setCell (p := ⟨gb, i, none⟩) (show G ≤ gb from hGs) (.int .u8 ((1 : UInt8).toNat : Int))
      have hb23 : Below gb wr (w2.setCell ⟨gb, i, none⟩ (.int .u8 ((1 : UInt8).toNat : Int))) := hb2.setCell (p := ⟨gb, i, none⟩) (Nat.le_refl _) _
      have hO3 := hO.kept (show Below wr.heap.size wr _ from by rw [← hgb]; exact hb23)
      clear hb23
      have HGB := Lib.hid hgb
      clear hO hO2 hb2 hgb ho2
      go_wp2_with (with_reducible refine At.slot 25 ?_)
      obtain ⟨w3, hw3⟩ : ∃ w3, w3 = w2.setCell ⟨gb, i, none⟩ (.int .u8 1) := ⟨_, rfl⟩
      have e1 : (Value.int .u8 ((1 : UInt8).toNat : Int)) = .int .u8 1 := rfl
      rw [e1, ← hw3] at hO3 hset hb3
      rw [← hw3]
      have hGs3 : G ≤ w3.heap.size := Nat.le_trans hGs0 hb3.size
      clear hw3 hb2' hcb hfb
      refine At.out ?_
      go_wp2_with (with_reducible refine At.slot 26 ?_)
      obtain ⟨vs, hv1, hv2⟩ := hO3.kept ((Below.refl w3.heap.size w3).alloc (Nat.le_refl _) (.cells #[.slice (some ⟨gb, 0, none⟩) k k] 34))
      rw [HLl.out] at hv1
      refine At.out (wpList_app rfl (.tmp 23) (.tmp 25) 22 rfl elemR rfl G _ i vs rfl hv1 _ 1 1 [.slice (some ⟨gb, 0, none⟩) k k] rfl rfl (Rd.one _ _ _) (by intro u hu; rw [List.mem_singleton.1 hu]; rfl) (by unfold maxLen; omega) (by omega) (by simp; omega) ?_)
      intro v4 w4 hv3 hb4 hg4
      have hO4 := own_app (l := unitL k i) (by rw [HLl.out]; exact hv1) hv2 (own_len (own_base (hset.alloc _) hGs) (unitL_length k i).symm) (by decide) (by rw [HLl.out]; exact hv3) hg4
      have hb5 : Below G w w4 := (hb3.alloc hGs3 _).trans hb4
      have HL' : Hid (L ++ [unitL k i] = (List.range (i + 1)).map (unitL k)) := Lib.hid (by rw [HL.out, List.range_succ]; simp)
      clear hv1 hv2 hv3 hO3 hset hg4
      go_wp2
      go_roundw
      case rel => exact ⟨i + 1, _, by omega, by go_num, hO4, HL', hb5⟩
      case measure => simp [intOf]; omega
    · obtain rfl : i = k := by omega
      have hml : L = oneL i := HL.out
      rw [hml] at hO
      clear hml hLl
      go_wp2
      go_ret2
      exact MxP.mk HG.out hO hb

end Go.Proofs.YtmeckdgigjjjbaaDoor
