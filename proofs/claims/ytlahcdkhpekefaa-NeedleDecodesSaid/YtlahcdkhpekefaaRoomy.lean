/- The law's own helper roomy. Conditions: each contract's own premises. -/
import Derived.Test.YtlahcdkhpekefaaCom0
namespace Go.Proofs.Ytlahcdkhpekefaa
open Go Go.RowKit

set_option maxHeartbeats 400000 in
/-- roomy: the bytes in a list of their own, and one that is marked behind them. -/
theorem roomy_any (w : World) (a : Option Addr) (c : Nat) (l : List UInt8) (hr : Rd w a c (B8 l)) (hl : l.length ≤ 1000000) :
    Calls Try.prog 8 #[.slice a l.length c] w fun e w' => ∃ g cap, e = .returned (.slice (some ⟨g, 0, none⟩) (l.length + 1) cap) ∧
      l.length + 1 ≤ cap ∧ Rd w' (some ⟨g, 0, none⟩) cap (B8 (l ++ [171])) ∧ Below w.heap.size w w' := by
  go_enter Try.func8, Try.ntmps8
  have hml : maxLen = 9223372036854775807 := by unfold maxLen; rfl
  go_wp2_with (at_builtin; refine At.mk ?_)
  refine At.out (wpList_app rfl (.tmp 3) (.tmp 4) 24 rfl elemB rfl w.heap.size _ 0 [] rfl (own_empty w _) a l.length c (B8 l) rfl (B8_length l).symm (hr.kept ((Below.refl _ _).alloc (Nat.le_refl _) _)) (B8_one _) (by omega) (by omega) (by simp) ?_)
  intro v1 w1 ho1 hb1 _
  have hs1 : w.heap.size ≤ w1.heap.size := by have := hb1.size; simp at this; omega
  go_wp2_with (at_builtin; refine At.mk ?_)
  refine At.out (wpList_app rfl (.tmp 5) (.tmp 6) 24 rfl elemB rfl w.heap.size v1 _ _ rfl (ho1.alloc _) _ 1 1 [.int .u8 171] rfl rfl (Rd.one _ _ _) (one_int _ _) (by omega) (by omega) (by simp; omega) ?_)
  intro v2 w2 ho2 hb2 _
  have hs2 : w.heap.size ≤ w2.heap.size := by have := hb2.size; simp at this; omega
  go_wp2_with (at_builtin; refine At.mk ?_)
  refine At.out (wpList_app rfl (.tmp 7) (.tmp 8) 24 rfl elemB rfl w.heap.size v2 _ _ rfl (ho2.alloc _) _ 1 1 [.int .u8 171] rfl rfl (Rd.one _ _ _) (one_int _ _) (by omega) (by omega) (by simp; omega) ?_)
  intro v3 w3 ho3 hb3 _
  obtain ⟨g, cap, rfl, hg1, hg2, hg3, hg4⟩ := own_pos ho3 (by omega)
  go_wp2
  go_ret
  have ht := own_take ho3 (l.length + 1) (by omega)
  refine ⟨g, cap, rfl, by omega, ?_, ?_⟩
  · have e : (([] ++ B8 l ++ [Value.int .u8 171]) ++ [Value.int .u8 171]).take (l.length + 1) = B8 (l ++ [171]) := by
      rw [List.nil_append, B8_append, List.append_assoc, List.take_append, B8_length, List.take_of_length_le (by rw [B8_length]; omega)]
      simp [B8]
    rw [e] at ht
    obtain ⟨a', c', hv, hrd⟩ := Rd.ofOwn ht
    simp only [Value.slice.injEq, true_and] at hv
    obtain ⟨rfl, rfl⟩ := hv
    exact hrd
  · exact (((((Below.refl _ _).alloc (Nat.le_refl _) _).trans hb1).alloc hs1 _).trans hb2 |>.alloc hs2 _).trans hb3
end Go.Proofs.Ytlahcdkhpekefaa
