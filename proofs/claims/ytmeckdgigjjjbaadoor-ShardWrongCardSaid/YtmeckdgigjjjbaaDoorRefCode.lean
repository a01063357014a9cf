/- The document's Inv and Code: the contracts. Conditions: each contract's own premises. -/
import Derived.Test.YtmeckdgigjjjbaaDoorRefOne
namespace Go.Proofs.YtmeckdgigjjjbaaDoor
open Go Go.RowKit

theorem gm_unique {a b : UInt8} (ha : a ≠ 0) (h : gm a b = 1) : b = ginv a := by
  have h1 : gm (ginv a) (gm a b) = ginv a := by rw [h, gm_one]
  rw [gm_assoc, gm_comm (ginv a) a, gm_ginv a ha, one_gm] at h1
  exact h1

set_option maxRecDepth 100000 in
set_option maxHeartbeats 1000000 in
theorem refInv_any (w : World) (a : UInt8) (ha : a ≠ 0) : Calls Tryd.prog 31 #[.int .u8 a.toNat] w fun e w' => e = .returned (.int .u8 (ginv a).toNat) ∧ w' = w := by
  obtain ⟨g, hg⟩ : ∃ g, g = ginv a := ⟨_, rfl⟩
  rw [← hg]
  have hga : gm a g = 1 := by rw [hg]; exact gm_ginv a ha
  have hgl := u8_lt g
  have hg0 : g.toNat ≠ 0 := by
    intro e
    have : g = 0 := UInt8.toNat_inj.1 e
    rw [this, gm_zero] at hga
    exact absurd hga (by decide)
  have hun : ∀ b, gm a b = 1 → b = g := fun b hb => by rw [hg]; exact gm_unique ha hb
  have HGA := Lib.hid hga
  have HUn := Lib.hid hun
  clear hg hga hun ha
  go_enter Tryd.func31, Tryd.ntmps31
  go_wp2
  go_loop [3] (fun i => ∃ k : Nat, 1 ≤ k ∧ k ≤ g.toNat ∧ i = .int .i64 k) (fun i => 256 - (intOf i).toNat)
  case atStart => exact ⟨1, by omega, by omega, rfl⟩
  case round =>
    obtain ⟨k, hk1, hk, rfl⟩ := hrel
    have hki : (k : Int) < 256 := by omega
    obtain ⟨b, hbn⟩ : ∃ b : UInt8, b.toNat = k := ⟨UInt8.ofNat k, by rw [UInt8.toNat_ofNat', Nat.mod_eq_of_lt (by omega)]⟩
    subst hbn
    have hmod : (b.toNat : Int) % 256 = (b.toNat : Int) := by omega
    have hmul := refMul_any a b
    by_cases he : b.toNat = g.toNat
    · have hbg : b = g := UInt8.toNat_inj.1 he
      subst hbg
      rw [HGA.out] at hmul
      have HM := Lib.hid hmul
      clear he hmul
      go_wp2_with fail
      refine (HM.out _).mono ?_
      rintro e w1 ⟨rfl, hw⟩
      have hw := hw.symm
      subst hw
      go_wp2
      go_ret
      exact ⟨rfl, rfl⟩
    · have hne : gm a b ≠ 1 := fun h => he (by rw [HUn.out b h])
      obtain ⟨q, hq⟩ : ∃ q, q = gm a b := ⟨_, rfl⟩
      rw [← hq] at hmul hne
      have hqi : ((q.toNat : Int) == 1) = false := by
        rw [beq_eq_false_iff_ne]; intro e; apply hne; apply UInt8.toNat_inj.1
        have : (1 : UInt8).toNat = 1 := rfl
        omega
      have HM := Lib.hid hmul
      clear hne hq hmul
      go_wp2_with fail
      refine (HM.out _).mono ?_
      rintro e w1 ⟨rfl, hw⟩
      have hw := hw.symm
      subst hw
      go_wp2
      go_round
      case rel => exact ⟨b.toNat + 1, by omega, by omega, by go_num⟩
      case measure => simp [intOf]; omega

set_option maxRecDepth 100000 in
set_option maxHeartbeats 2000000 in
theorem refCode_no (w : World) (k m : Int) (h : k < 1 ∨ m < 0 ∨ 14 < k ∨ 14 - k < m) :
    Calls Tryd.prog 21 #[.int .i64 k, .int .i64 m] w (MxP w ([], 1)) := by
  by_cases h1 : k < 1
  · go_enter Tryd.func21, Tryd.ntmps21
    go_wp2
    go_ret2
    exact MxP.no 1 (Below.refl _ _)
  by_cases h2 : m < 0
  · go_enter Tryd.func21, Tryd.ntmps21
    go_wp2
    go_ret2
    exact MxP.no 1 (Below.refl _ _)
  by_cases h3 : 14 < k
  · go_enter Tryd.func21, Tryd.ntmps21
    go_wp2
    go_ret2
    exact MxP.no 1 (Below.refl _ _)
  by_cases h8 : 14 < m
  · go_enter Tryd.func21, Tryd.ntmps21
    go_wp2
    go_ret2
    exact MxP.no 1 (Below.refl _ _)
  have h4 : 14 < k + m := by omega
  have h5 : 1 ≤ k := by omega
  have h6 : k ≤ 14 := by omega
  have h7 : 0 ≤ m := by omega
  have h9 : m ≤ 14 := by omega
  clear h h1 h2 h3 h8
  go_enter Tryd.func21, Tryd.ntmps21
  go_wp2
  go_ret2
  exact MxP.no 1 (Below.refl _ _)

theorem codeRow_take (k i j : Nat) (hj : j < k) : (codeRow k i).take (j + 1) = (codeRow k i).take j ++ [ginv (UInt8.ofNat ((k + i) ^^^ j))] := by
  rw [List.take_succ_eq_append_getElem (by rw [codeRow_length]; exact hj)]
  simp [codeRow]

set_option maxRecDepth 100000 in
set_option maxHeartbeats 4000000 in
theorem refCode_yes (w : World) (k m : Nat) (hk1 : 1 ≤ k) (hk2 : k ≤ 14) (hm : k + m ≤ 14) :
    Calls Tryd.prog 21 #[.int .i64 (k : Int), .int .i64 (m : Int)] w (MxP w (codeL k m, 0)) := by
  have hone := refOne_any w (k : Int)
  rw [show oneR (k : Int) = (oneL k, 0) by unfold oneR; rw [if_neg (by omega)]; rfl] at hone
  have i1 : (1 : Int) ≤ (k : Int) := by omega
  have i2 : (k : Int) ≤ 14 := by omega
  have i3 : (k : Int) + (m : Int) ≤ 14 := by omega
  have i4 : (m : Int) ≤ 14 := by omega
  have HO := Lib.hid hone
  clear hone
  obtain ⟨G, hG⟩ : ∃ G, G = w.heap.size := ⟨_, rfl⟩
  have hGs0 : G ≤ w.heap.size := by omega
  have HG := Lib.hid hG
  clear hG
  go_enter Tryd.func21, Tryd.ntmps21
  go_wp2_with fail
  refine HO.out.mono ?_
  clear HO
  rintro e w1 ⟨v1, rfl, hO1, hb1⟩
  rw [← HG.out] at hO1 hb1
  go_wp2
  go_loopw [6, 8] (fun s6 s33 wr => ∃ (i : Nat) (L : Mx), i ≤ m ∧ s33 = .int .i64 i ∧ OwnLL wr G 34 5 s6 L ∧ Hid (L = oneL k ++ (List.range i).map (codeRow k)) ∧ Below G w wr) (fun _ s33 _ => m - (intOf s33).toNat)
  case atStart => exact ⟨0, oneL k, by omega, rfl, hO1, Lib.hid (by simp), hb1⟩
  case round =>
    clear hO1 hb1
    obtain ⟨i, L, hi, rfl, hO, HL, hb⟩ := hrel
    have hGs : G ≤ wr.heap.size := Nat.le_trans hGs0 hb.size
    have hLl : L.length = k + i := by rw [HL.out]; simp [oneL]
    have HLl := Lib.hid hLl
    clear hLl
    by_cases hlt : i < m
    · have hii : (i : Int) < (m : Int) := by omega
      go_wp2
      obtain ⟨wo, hwo⟩ : ∃ wo : World, wo = wr := ⟨_, rfl⟩
      rw [← hwo] at hO hb hGs ⊢
      clear hwo
      go_loopw [9, 10] (fun s9 s40 wr => ∃ (j : Nat), j ≤ k ∧ s40 = .int .i64 j ∧ wr.ownsRow wo.heap.size 5 1 s9 j (B8 ((codeRow k i).take j)) ∧ Below wo.heap.size wo wr) (fun _ s40 _ => k - (intOf s40).toNat)
      case atStart => exact ⟨0, by omega, rfl, World.ownsRow_nil _ _ _ _, Below.refl _ _⟩
      case round =>
        obtain ⟨j, hj, rfl, hor, hb3⟩ := hrel
        have hgs := hb3.size
        by_cases hltj : j < k
        · obtain ⟨q, hq⟩ : ∃ q, q = (k + i) ^^^ j := ⟨_, rfl⟩
          have hq16 : q < 16 := by rw [hq]; exact xor_lt16 (by omega) (by omega)
          have hq0 : q ≠ 0 := by rw [hq]; exact xor_pos (by omega)
          obtain ⟨y, hy⟩ : ∃ y : UInt8, y = UInt8.ofNat q := ⟨_, rfl⟩
          have hy0 : y ≠ 0 := by rw [hy]; exact ofNat_pos hq0 (by omega)
          have hyn : y.toNat = q := by rw [hy, UInt8.toNat_ofNat', Nat.mod_eq_of_lt (by omega)]
          have hxor : bits BinOp.xor IntKind.i64 ((k : Int) + (i : Int)) (j : Int) = (y.toNat : Int) := by
            rw [hyn, show (k : Int) + (i : Int) = ((k + i : Nat) : Int) by omega, i64_xor_nat _ _ (by omega) (by omega), ← hq]
          have hmod : (y.toNat : Int) % 256 = (y.toNat : Int) := by have := u8_lt y; omega
          have ht := codeRow_take k i j hltj
          rw [← hq, ← hy] at ht
          have HT := Lib.hid ht
          have hinv := fun W => refInv_any W y hy0
          have HInv := Lib.hid hinv
          have hji : (j : Int) < (k : Int) := by omega
          have hki : (k : Int) + (i : Int) ≤ 14 := by omega
          clear hq hq16 hq0 hy hyn hy0 hinv ht
          go_wp2_with fail
          refine (HInv.out _).mono ?_
          rintro e w3 ⟨rfl, hw⟩
          have hw := hw.symm
          subst hw
          go_wp2_with (with_reducible refine At.slot 55 ?_)
          refine At.out (wpList_app rfl (.tmp 46) (.tmp 54) 34 rfl elemB rfl wo.heap.size _ j _ rfl (hor.alloc _) _ 1 1 [.int .u8 ((ginv y).toNat : Int)] rfl rfl (Rd.one _ _ _) (one_int _ _) (by unfold maxLen; omega) (by omega) (by simp; omega) ?_)
          intro v4 w4 ho4 hb4 _
          have ho5 : w4.ownsRow wo.heap.size 5 1 v4 (j + 1) (B8 ((codeRow k i).take (j + 1))) := by rw [HT.out, B8_append]; exact ho4
          have hb5 : Below wo.heap.size wo w4 := (hb3.alloc hgs _).trans hb4
          clear ho4 hb4 hor
          go_wp2
          go_roundw
          case rel => exact ⟨j + 1, by omega, by go_num, ho5, hb5⟩
          case measure => simp [intOf]; omega
        · obtain rfl : j = k := by omega
          rw [List.take_of_length_le (by rw [codeRow_length]; exact Nat.le_refl _)] at hor
          have hOr := hO.kept hb3
          have hbw : Below G w wr := hb.trans (hb3.mono hGs)
          have hGs2 : G ≤ wr.heap.size := Nat.le_trans hGs0 hbw.size
          have hor' := own_base hor hGs
          obtain ⟨ar, cr, rfl, _⟩ := Rd.ofOwn hor'
          clear hO hb3 hor
          go_wp2_with (with_reducible refine At.slot 59 ?_)
          obtain ⟨vs, hv1, hv2⟩ := hOr.kept ((Below.refl wr.heap.size wr).alloc (Nat.le_refl _) (.cells #[.slice ar j cr] 34))
          refine At.out (wpList_app rfl (.tmp 56) (.tmp 58) 22 rfl elemR rfl G _ (j + i) vs rfl (own_len hv1 HLl.out) _ 1 1 [.slice ar j cr] rfl rfl (Rd.one _ _ _) (by intro u hu; rw [List.mem_singleton.1 hu]; exact own_one hor') (by unfold maxLen; omega) (by omega) (by simp; omega) ?_)
          intro v4 w4 hv3 hb4 hg4
          have hO4 := own_app (l := codeRow j i) hv1 hv2 (own_len (hor'.alloc _) (codeRow_length j i).symm) (by decide) (by rw [HLl.out]; exact hv3) hg4
          have hb5 : Below G w w4 := (hbw.alloc hGs2 _).trans hb4
          have HL' : Hid (L ++ [codeRow j i] = oneL j ++ (List.range (i + 1)).map (codeRow j)) := Lib.hid (by rw [codeL_succ, HL.out])
          clear hv1 hv2 hv3 hOr hor' hg4 hb4
          go_wp2
          go_roundw
          case rel => exact ⟨i + 1, _, by omega, by go_num, hO4, HL', hb5⟩
          case measure => simp [intOf]; omega
    · obtain rfl : i = m := by omega
      have hml : L = codeL k i := HL.out
      rw [hml] at hO
      clear hml
      go_wp2
      go_ret2
      exact MxP.mk HG.out hO hb
/-- The document's Code. -/
theorem refCode_any (w : World) (k m : Int) : Calls Tryd.prog 21 #[.int .i64 k, .int .i64 m] w (MxP w (codeR k m)) := by
  unfold codeR codeBad
  by_cases h : k < 1 ∨ m < 0 ∨ 14 < k ∨ 14 - k < m
  · rw [if_pos (decide_eq_true h)]; exact refCode_no w k m h
  · rw [if_neg (by simpa using h)]
    have := refCode_yes w k.toNat m.toNat (by omega) (by omega) (by omega)
    rw [Int.toNat_of_nonneg (by omega), Int.toNat_of_nonneg (by omega)] at this
    exact this
end Go.Proofs.YtmeckdgigjjjbaaDoor
