/- spoil: what is the call's own is written over, and nothing else. Conditions: the contract's own premises. -/
import Derived.Test.YtlahcdkhpekefaaCom0
namespace Go.Proofs.Ytlahcdkhpekefaa
open Go Go.RowKit

theorem set_len (l : List Value) (k : Nat) (x : Value) : (l.set k x).length = l.length := by simp

set_option maxRecDepth 100000 in
set_option maxHeartbeats 1000000 in
theorem spoil_any (w : World) (base : Nat) (v : Value) (n : Nat) (xs : List Value) (ho : w.ownsRow base 5 1 v n xs) (hb0 : base ≤ w.heap.size) (hn : n ≤ 100000000) :
    Calls Try.prog 19 #[v] w fun e w' => e = .returned (.tuple #[]) ∧ Below base w w' := by
  go_enter Try.func19, Try.ntmps19
  go_wp2_with (with_reducible refine At.slot 6 ?_)
  refine At.out (wpList_app rfl (.tmp 4) (.tmp 5) 24 rfl elemB rfl base _ n _ rfl (ho.alloc _) _ 1 1 [.int .u8 99] rfl rfl (Rd.one _ _ _) (one_int _ _) (by unfold maxLen; omega) (by omega) (by simp; omega) ?_)
  intro v1 w1 ho1 hb1 _
  have hb2 : Below base w w1 := ((Below.refl base w).alloc hb0 _).trans hb1
  obtain ⟨g, cap, rfl, hg1, hg2, hg3, hg4⟩ := own_pos ho1 (by omega)
  clear ho hb1
  go_wp2
  go_loopw [3] (fun s3 wr => ∃ (k : Nat) (ys : List Value), k ≤ n + 1 ∧ s3 = .int .i64 k ∧ wr.ownsRow base 5 1 (.slice (some ⟨g, 0, none⟩) (n + 1) cap) (n + 1) ys ∧ Below base w wr) (fun s3 _ => n + 1 - (intOf s3).toNat)
  case atStart => exact ⟨0, _, by omega, rfl, ho1, hb2⟩
  case round =>
    clear ho1 hb2
    obtain ⟨k, ys, hk, rfl, ho, hb⟩ := hrel
    by_cases hlt : k < n + 1
    · have hlen : ys.length = n + 1 := by simpa using ho.1
      have hcell : ∃ u, wr.cell? ⟨g, k, none⟩ = some u := ⟨ys[k], by rw [ho.cellAt k (by omega), List.getElem?_eq_getElem (by omega)]⟩
      obtain ⟨u, hcell⟩ := hcell
      have hfr := ho.frozenAt k
      have hset := (ho.stored k (.int .u8 98)).1
      have hb' := hb.setCell (p := ⟨g, k, none⟩) hg1 (.int .u8 98)
      have hki : (k : Int) < (n : Int) + 1 := by omega
      clear hlen
      go_wp2
      go_roundw
      case rel => exact ⟨k + 1, ys.set k (.int .u8 98), by omega, by go_num, hset, hb'⟩
      case measure => simp [intOf]; omega
    · go_wp2
      go_end0
      exact ⟨rfl, hb⟩
end Go.Proofs.Ytlahcdkhpekefaa
