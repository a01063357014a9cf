/- The document's blend: the contract. Conditions: its own premises. -/
import Derived.Test.YtmeckdgigjjjbaaDoorShardL
import Derived.StillTailTactics
namespace Go.Proofs.YtmeckdgigjjjbaaDoor
open Go Go.RowKit

theorem mix_step {R B0 B1 : List UInt8} {x n : Nat} {y z : UInt8} (hx : x < n) (hR : R.length = n) (hB0 : B0.length = n) (hB1 : B1.length = n) (h1 : R.take x = B1.take x) (h2 : R.drop x = B0.drop x) (hy : R[x]? = some y) (hz : B1[x]? = some z) :
    (R.set x z).take (x + 1) = B1.take (x + 1) ∧ (R.set x z).drop (x + 1) = B0.drop (x + 1) ∧ B0[x]? = some y := by
  refine ⟨?_, ?_, ?_⟩
  · rw [List.take_succ_eq_append_getElem (by simp; omega), List.take_succ_eq_append_getElem (by omega), List.take_set_of_le (Nat.le_refl x), h1]
    rw [List.getElem?_eq_getElem (by omega)] at hz
    simp only [Option.some.injEq] at hz
    rw [List.getElem_set_self, hz]
  · rw [List.drop_set_of_lt (by omega), ← List.drop_drop, h2, List.drop_drop]
  · have := congrArg (fun l => l[0]?) h2
    simp only [List.getElem?_drop, Nat.add_zero] at this
    rw [← this, hy]

set_option maxRecDepth 100000 in
set_option maxHeartbeats 4000000 in
theorem blend_any (w : World) (ac : Option Addr) (cc : Nat) (c : List UInt8) (a2 : Option Addr) (c2 : Nat) (D : Mx) (h1 : Rd w ac cc (B8 c)) (h2 : RdLL w a2 c2 D) (hcl : c.length = D.length) (hD1 : 1 ≤ D.length) (hD2 : D.length ≤ 1000) (hDr : ∀ r ∈ D, r.length = wid D) (hn : wid D ≤ 1000000) :
    Calls Tryd.prog 23 #[.slice ac c.length cc, .slice a2 D.length c2] w fun e w' => ∃ v, e = .returned v ∧ w'.ownsRow w.heap.size 5 1 v (wid D) (B8 (blendL c D)) ∧ Below w.heap.size w w' := by
  have hw0 := wid_at (D := D) (by omega)
  obtain ⟨b1, o1, ad1, cd1, rfl, hc1, hr1⟩ := h2.cell 0 (by omega)
  rw [← hw0] at hc1
  simp only [Nat.add_zero] at hc1
  obtain ⟨n, hnn⟩ : ∃ n, n = wid D := ⟨_, rfl⟩
  have hbl : blendL c D = blendK c D n D.length := by unfold blendL; rw [hnn]
  rw [← hnn] at hc1 hn hDr
  rw [← hnn, hbl]
  have HDr := Lib.hid hDr
  have HCl := Lib.hid hcl
  have hDi : (1 : Int) ≤ (D.length : Int) := by omega
  have hlt1 : b1 < w.heap.size := World.block_lt_of_cell? w _ hc1
  obtain ⟨G, hG⟩ : ∃ G, G = w.heap.size := ⟨_, rfl⟩
  have hGs0 : G ≤ w.heap.size := by omega
  have HG := Lib.hid hG
  rw [← hG]
  rw [hcl]
  clear hr1 hw0 hnn hDr hbl hG
  go_enter Tryd.func23, Tryd.ntmps23
  go_wp2_with (with_reducible refine At.slot 12 ?_)
  refine At.out (wpList_make8 rfl (.tmp 11) (.tmp 11) 34 rfl elemB .i64 .i64 (n : Int) (n : Int) n rfl rfl rfl rfl (by omega) ?_)
  intro w2 ho2 hb2
  rw [← HG.out] at ho2 hb2 ⊢
  rw [← blendK_zero c D n] at ho2
  clear hc1
  go_wp2
  go_loopw [6] (fun s6 wr => ∃ (j : Nat), j ≤ D.length ∧ s6 = .int .i64 j ∧ wr.ownsRow G 5 1 (.slice (some ⟨G, 0, none⟩) n n) n (B8 (blendK c D n j)) ∧ Below G w wr) (fun s6 _ => D.length - (intOf s6).toNat)
  case atStart => exact ⟨0, by omega, rfl, ho2, hb2⟩
  case round =>
    clear ho2 hb2
    obtain ⟨j, hj, rfl, hor, hb⟩ := hrel
    by_cases hltj : j < D.length
    · have hji : (j : Int) < (D.length : Int) := by omega
      go_wp2
      obtain ⟨wo, hwo⟩ : ∃ wo : World, wo = wr := ⟨_, rfl⟩
      rw [← hwo] at hor hb ⊢
      clear hwo
      go_loopw [7] (fun s7 wr => ∃ (x : Nat) (R : List UInt8), x ≤ n ∧ s7 = .int .i64 x ∧ Hid (R.length = n ∧ R.take x = (blendK c D n (j + 1)).take x ∧ R.drop x = (blendK c D n j).drop x) ∧ wr.ownsRow G 5 1 (.slice (some ⟨G, 0, none⟩) n n) n (B8 R) ∧ Below G w wr) (fun s7 _ => n - (intOf s7).toNat)
      case atStart => exact ⟨0, blendK c D n j, by omega, rfl, Lib.hid ⟨blendK_length _ _ _ _, rfl, rfl⟩, hor, hb⟩
      case round =>
        clear hor hb
        obtain ⟨x, R, hx, rfl, HR, hor, hb⟩ := hrel
        by_cases hltx : x < n
        · have hxi : (x : Int) < (n : Int) := by omega
          obtain ⟨b3, o3, rfl, hc3⟩ := (h1.kept (HG.out ▸ hb : Below w.heap.size w wr)).cs.b8 j (by have := HCl.out; omega)
          obtain ⟨b4, o4, ad4, cd4, he4, hc4, hr4⟩ := (h2.kept (HG.out ▸ hb : Below w.heap.size w wr)).cell j hltj
          simp only [Option.some.injEq, Addr.mk.injEq, and_true] at he4
          obtain ⟨rfl, rfl⟩ := he4
          have hdl := HDr.out (D[j]) (List.getElem_mem _)
          obtain ⟨b5, o5, rfl, hc5⟩ := hr4.cs.b8 x (by omega)
          rw [hdl] at hc4
          obtain ⟨p, hp⟩ : ∃ p, p = c[j]'(by have := HCl.out; omega) := ⟨_, rfl⟩
          obtain ⟨q, hq⟩ : ∃ q, q = (D[j])[x]'(by omega) := ⟨_, rfl⟩
          rw [← hp] at hc3
          rw [← hq] at hc5
          have hRl := HR.out.1
          obtain ⟨y, hy⟩ : ∃ y, y = R[x]'(by omega) := ⟨_, rfl⟩
          have hcR := own_cell8n hor x (by omega)
          have hfr := hor.frozenAt x
          rw [← hy] at hcR
          obtain ⟨z, hz⟩ : ∃ z, z = y ^^^ gm p q := ⟨_, rfl⟩
          have hxor := u8_bin_xor y (gm p q)
          rw [← hz] at hxor
          have hms := mix_step (R := R) (B0 := blendK c D n j) (B1 := blendK c D n (j + 1)) (x := x) (y := y) (z := z) hltx hRl (blendK_length _ _ _ _) (blendK_length _ _ _ _) HR.out.2.1 HR.out.2.2 (by rw [hy]; exact List.getElem?_eq_getElem _)
          have hB0x : (blendK c D n j)[x]? = some y := by
            have := congrArg (fun l => l[0]?) HR.out.2.2
            simp only [List.getElem?_drop, Nat.add_zero] at this
            rw [← this, hy]
            exact List.getElem?_eq_getElem _
          have hB1x : (blendK c D n (j + 1))[x]? = some z := by
            rw [List.getElem?_eq_getElem (by rw [blendK_length]; exact hltx)] at hB0x ⊢
            simp only [Option.some.injEq] at hB0x ⊢
            rw [blendK_get] at hB0x ⊢
            show XS j _ ^^^ gm (c.getD j 0) (ent D j x) = z
            rw [hB0x, hz, List.getD_eq_getElem?_getD, List.getElem?_eq_getElem (by have := HCl.out; omega), ent_get2 hltj (by omega), hp, hq]
            rfl
          obtain ⟨m1, m2, _⟩ := hms hB1x
          have HM : Hid ((R.set x z).length = n ∧ (R.set x z).take (x + 1) = (blendK c D n (j + 1)).take (x + 1) ∧ (R.set x z).drop (x + 1) = (blendK c D n j).drop (x + 1)) := Lib.hid ⟨by rw [List.length_set]; exact hRl, m1, m2⟩
          have hset := own_set8n hor x z
          have hb' := hb.setCell (p := ⟨G, x, none⟩) (Nat.le_refl _) (.int .u8 (z.toNat : Int))
          have hgl : G < wr.heap.size := World.block_lt_of_cell? wr _ hcR
          have hmul := refMul_any p q wr.drew
          have HMul := Lib.hid hmul
          clear hdl hp hq hRl hy hz hms hB0x hB1x m1 m2 hr4 hor hmul
          go_wp2
          refine wp_region_still_tail 20 (by kernel_rfl) (by kernel_rfl) ?_
          simp only [List.take_succ_cons, List.take_zero, List.drop_succ_cons, List.drop_zero]
          repeat (first | still_step | still_call HMul.out)
          refine wpStill_nil ?_
          change wpList _ _ _ _ _ wr.drew
          go_wp2
          go_roundw
          case rel => exact ⟨x + 1, R.set x z, by omega, by go_num, HM, hset.drew, hb'.drew⟩
          case measure => simp [intOf]; omega
        · obtain rfl : x = n := by omega
          have hRr : R = blendK c D x (j + 1) := by
            obtain ⟨r1, r2, _⟩ := HR.out
            rw [List.take_of_length_le (by omega), List.take_of_length_le (by rw [blendK_length]; exact Nat.le_refl _)] at r2
            exact r2
          rw [hRr] at hor
          clear hRr
          go_wp2
          go_roundw
          case rel => exact ⟨j + 1, by omega, by go_num, hor, hb⟩
          case measure => simp [intOf]; omega
    · obtain rfl : j = D.length := by omega
      go_wp2
      go_ret
      exact ⟨_, rfl, hor, hb⟩
end Go.Proofs.YtmeckdgigjjjbaaDoor
