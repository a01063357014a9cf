/- fsm.New: the contract. Conditions: its own premises. -/
import Derived.Test.YteenbobblbehoaaFsmMem
namespace Go.Proofs.Yteenbobblbehoaa
open Go Go.RowKit

theorem TabI.new {w : World} {F : Nat → Prop} {t : Nat} (h : BlkV w t 58 (tblC t (.slice none 0 0))) (hF : F t) : TabI w F t [] :=
  ⟨⟨none, 0, [], h, World.ownsRow_nil _ _ _ _, fun k hk => by simp [Value.ownBlock] at hk, rfl, List.nodup_nil, fun i p V hp => by simp at hp⟩, hF⟩

set_option maxRecDepth 100000 in
set_option maxHeartbeats 2000000 in
theorem new_any (w : World) (F : Nat → Prop) (hF : F w.heap.size) : Calls Try.prog 10 #[] w fun e w' => e = .returned (ptrV w.heap.size) ∧ TabI w' F w.heap.size [] ∧ Below w.heap.size w w' ∧ w.heap.size < w'.heap.size := by
  have hmf : ∀ (fn : Fn) (first cap : Array Value) (w : World), (Instr.makeFunc fn first cap).run Try.prog w = .ok (.func fn first cap) w := fun _ _ _ _ => rfl
  obtain ⟨t, ht⟩ : ∃ t, t = w.heap.size := ⟨_, rfl⟩
  have HT := Lib.hid ht
  rw [← ht] at hF ⊢
  have hB0 : BlkV (w.alloc (.cells #[.slice none 0 0, .nilFunc, .nilFunc, .nilFunc, .nilFunc, .nilFunc, .nilFunc, .nilFunc] 58)) t 58 #[.slice none 0 0, .nilFunc, .nilFunc, .nilFunc, .nilFunc, .nilFunc, .nilFunc, .nilFunc] := by rw [ht]; exact BlkV.new w _ _
  clear ht
  go_enter Try.func10, Try.ntmps10
  go_wp2_with (with_reducible refine At.store 56 (.tmp 19) (.tmp 17) ?_)
  rw [← HT.out]
  refine At.out (wpList_storeOff (t := 58) rfl _ rfl _ (.tmp 19) (.tmp 17) rfl t 1 #[.slice none 0 0, .nilFunc, .nilFunc, .nilFunc, .nilFunc, .nilFunc, .nilFunc, .nilFunc] #[.nilFunc, fnV t 22, fnV t 23, fnV t 24, fnV t 25, fnV t 26, fnV t 27] rfl rfl (by kernel_rfl) hB0 (by simp) (by simp [fnV, Value.oneCell']) ?_)
  intro w1 hB1 ho1
  have hb1 : Below t w w1 := by
    have h0 : Below t w (w.alloc (.cells #[.slice none 0 0, .nilFunc, .nilFunc, .nilFunc, .nilFunc, .nilFunc, .nilFunc, .nilFunc] 58)) := (Below.refl _ _).alloc (by have := HT.out; omega) _
    exact h0.trans (ho1.toBelow (by have := HT.out; simp; omega) (fun x hx => by have hx : x = t := hx; omega))
  have hsz : t < w1.heap.size := hB1.lt
  go_wp2
  go_ret
  exact ⟨rfl, TabI.new hB1 hF, hb1, hsz⟩
end Go.Proofs.Yteenbobblbehoaa
