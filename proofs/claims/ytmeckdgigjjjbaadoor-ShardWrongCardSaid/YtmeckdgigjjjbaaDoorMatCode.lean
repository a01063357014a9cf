/- matrix's Code: the contract. Conditions: its own premises. -/
import Derived.Test.YtmeckdgigjjjbaaDoorMatOne
namespace Go.Proofs.YtmeckdgigjjjbaaDoor
open Go Go.RowKit

/-- A row of sums. -/
def codeRow (k i : Nat) : List UInt8 := (List.range k).map fun j => ginv (UInt8.ofNat ((k + i) ^^^ j))
/-- The code's matrix. -/
def codeL (k m : Nat) : Mx := oneL k ++ (List.range m).map (codeRow k)
def codeBad (k m : Int) : Bool := decide (k < 1 ∨ m < 0 ∨ 14 < k ∨ 14 - k < m)
def codeR (k m : Int) : Mx × Nat := if codeBad k m = true then ([], 1) else (codeL k.toNat m.toNat, 0)
theorem codeRow_length (k i : Nat) : (codeRow k i).length = k := by simp [codeRow]
theorem codeL_succ (k i : Nat) : oneL k ++ (List.range (i + 1)).map (codeRow k) = (oneL k ++ (List.range i).map (codeRow k)) ++ [codeRow k i] := by
  rw [List.range_succ, List.map_append, List.append_assoc]; rfl
theorem xor_lt16 {a b : Nat} (ha : a < 16) (hb : b < 16) : a ^^^ b < 16 := Nat.xor_lt_two_pow (n := 4) ha hb
theorem xor_pos {a b : Nat} (h : a ≠ b) : a ^^^ b ≠ 0 := by
  intro e; apply h
  have := congrArg (· ^^^ b) e
  simp only [Nat.xor_assoc, Nat.xor_self, Nat.xor_zero, Nat.zero_xor] at this
  exact this
theorem ofNat_pos {q : Nat} (h : q ≠ 0) (hq : q < 256) : UInt8.ofNat q ≠ 0 := by
  intro e
  have := congrArg UInt8.toNat e
  rw [UInt8.toNat_ofNat', Nat.mod_eq_of_lt hq] at this
  exact h this

set_option maxRecDepth 100000 in
set_option maxHeartbeats 2000000 in
theorem code_no (w : World) (k m : Int) (hk : -9223372036854775808 ≤ k ∧ k ≤ 9223372036854775807) (hm : -9223372036854775808 ≤ m ∧ m ≤ 9223372036854775807) (h : k < 1 ∨ m < 0 ∨ 14 < k ∨ 14 - k < m) :
    Calls Tryd.prog 25 #[.int .i64 k, .int .i64 m] w (MxP w ([], 1)) := by
  by_cases h1 : k < 1
  · go_enter Tryd.func25, Tryd.ntmps25
    go_wp2
    go_ret2
    exact MxP.no 1 (Below.refl _ _)
  by_cases h2 : m < 0
  · go_enter Tryd.func25, Tryd.ntmps25
    go_wp2
    go_ret2
    exact MxP.no 1 (Below.refl _ _)
  by_cases h3 : 14 < k
  · go_enter Tryd.func25, Tryd.ntmps25
    go_wp2
    go_ret2
    exact MxP.no 1 (Below.refl _ _)
  have h4 : 14 - k < m := by omega
  have h5 : 1 ≤ k := by omega
  have h6 : k ≤ 14 := by omega
  have h7 : 0 ≤ m := by omega
  clear h h1 h2 h3 hk hm
  go_enter Tryd.func25, Tryd.ntmps25
  go_wp2
  go_ret2
  exact MxP.no 1 (Below.refl _ _)

set_option maxRecDepth 100000 in
set_option maxHeartbeats 4000000 in
theorem code_yes (w : World) (k m : Nat) (hk1 : 1 ≤ k) (hk2 : k ≤ 14) (hm : k + m ≤ 14) :
    Calls Tryd.prog 25 #[.int .i64 (k : Int), .int .i64 (m : Int)] w (MxP w (codeL k m, 0)) := by
  have hone := one_any w (k : Int)
  rw [show oneR (k : Int) = (oneL k, 0) by unfold oneR; rw [if_neg (by omega)]; rfl] at hone
  have i1 : (1 : Int) ≤ (k : Int) := by omega
  have i2 : (k : Int) ≤ 14 := by omega
  have i3 : (m : Int) ≤ 14 - (k : Int) := by omega
  have i4 : (m : Int) ≤ 14 := by omega
  have HO := Lib.hid hone
  clear hone
  obtain ⟨G, hG⟩ : ∃ G, G = w.heap.size := ⟨_, rfl⟩
  have hGs0 : G ≤ w.heap.size := by omega
  have HG := Lib.hid hG
  clear hG
  go_enter Tryd.func25, Tryd.ntmps25
  go_wp2_with fail
  refine HO.out.mono ?_
  clear HO
  rintro e w1 ⟨v1, rfl, hO1, hb1⟩
  rw [← HG.out] at hO1 hb1
  go_wp2
  go_loopw [6, 33] (fun s6 s33 wr => ∃ (i : Nat) (L : Mx), i ≤ m ∧ s33 = .int .i64 i ∧ OwnLL wr G 34 5 s6 L ∧ Hid (L = oneL k ++ (List.range i).map (codeRow k)) ∧ Below G w wr) (fun _ s33 _ => m - (intOf s33).toNat)
  case atStart => exact ⟨0, oneL k, by omega, rfl, hO1, Lib.hid (by simp), hb1⟩
  case round =>
    clear hO1 hb1
    obtain ⟨i, L, hi, rfl, hO, HL, hb⟩ := hrel
    have hGs : G ≤ wr.heap.size := Nat.le_trans hGs0 hb.size
    have hLl : L.length = k + i := by rw [HL.out]; simp [oneL]
    have HLl := Lib.hid hLl
    clear hLl
    by_cases hlt : i < m
    · have hii : (i : Int) < (m : Int) := by omega
      go_wp2_with (with_reducible refine At.slot 37 ?_)
      refine At.out (wpList_make8 rfl (.tmp 36) (.tmp 36) 34 rfl elemB .i64 .i64 (k : Int) (k : Int) k rfl rfl rfl rfl (by omega) ?_)
      intro w2 ho2 hb2
      obtain ⟨wo, hwo⟩ : ∃ wo : World, wo = wr := ⟨_, rfl⟩
      obtain ⟨gb, hgb⟩ : ∃ gb, gb = wr.heap.size := ⟨_, rfl⟩
      rw [← hgb] at ho2 hb2 hGs ⊢
      rw [← hwo] at hO hb hb2
      have HWO := Lib.hid (show gb = wo.heap.size by rw [hwo]; exact hgb)
      clear hwo hgb
      go_wp2
      go_loopw [40] (fun s40 wr => ∃ (j : Nat) (R : List UInt8), j ≤ k ∧ s40 = .int .i64 j ∧ R.length = k ∧ Hid (R.take j = (codeRow k i).take j) ∧ wr.ownsRow gb 5 1 (.slice (some ⟨gb, 0, none⟩) k k) k (B8 R) ∧ Below gb wo wr) (fun s40 _ => k - (intOf s40).toNat)
      case atStart => exact ⟨0, List.replicate k 0, by omega, rfl, by simp, Lib.hid rfl, ho2, hb2⟩
      case round =>
        clear ho2 hb2
        obtain ⟨j, R, hj, rfl, hR, HT, hor, hb3⟩ := hrel
        have HRl := Lib.hid hR
        by_cases hltj : j < k
        · obtain ⟨q, hq⟩ : ∃ q, q = (k + i) ^^^ j := ⟨_, rfl⟩
          have hq16 : q < 16 := by rw [hq]; exact xor_lt16 (by omega) (by omega)
          have hq0 : q ≠ 0 := by rw [hq]; exact xor_pos (by omega)
          obtain ⟨y, hy⟩ : ∃ y : UInt8, y = UInt8.ofNat q := ⟨_, rfl⟩
          have hy0 : y ≠ 0 := by rw [hy]; exact ofNat_pos hq0 (by omega)
          have hyn : y.toNat = q := by rw [hy, UInt8.toNat_ofNat', Nat.mod_eq_of_lt (by omega)]
          have hxor : bits BinOp.xor IntKind.i64 ((k : Int) + (i : Int)) (j : Int) = (y.toNat : Int) := by
            rw [hyn, show (k : Int) + (i : Int) = ((k + i : Nat) : Int) by omega, i64_xor_nat _ _ (by omega) (by omega), ← hq]
          have hmod : (y.toNat : Int) % 256 = (y.toNat : Int) := by have := u8_lt y; omega
          obtain ⟨u, hold⟩ : ∃ u, wr.cell? ⟨gb, j, none⟩ = some u := ⟨_, own_cell8n hor j (by omega)⟩
          have hfr := hor.frozenAt j
          have hset := own_set8n hor j (ginv y)
          have hb4 := hb3.setCell (p := ⟨gb, j, none⟩) (Nat.le_refl _) (.int .u8 ((ginv y).toNat : Int))
          have HT' : Hid ((R.set j (ginv y)).take (j + 1) = (codeRow k i).take (j + 1)) := Lib.hid (by
            rw [List.take_succ_eq_append_getElem (by simp; omega), List.take_succ_eq_append_getElem (by rw [codeRow_length]; omega), List.take_set_of_le (Nat.le_refl j), HT.out]
            simp [codeRow, hy, hq])
          have hinv := inv_some y hy0
          have HInv := Lib.hid hinv
          have hji : (j : Int) < (k : Int) := by omega
          have hki : (k : Int) + (i : Int) ≤ 14 := by omega
          have hgr : gb < wr.heap.size := World.block_lt_of_cell? wr _ hold
          clear hq hq16 hq0 hy hyn hy0 hinv hor hb3 hR
          go_wp2_with fail
          refine (HInv.out _).mono ?_
          rintro e w3 ⟨rfl, hw⟩
          have hw := hw.symm
          subst hw
          go_wp2
          go_roundw
          case rel => exact ⟨j + 1, R.set j (ginv y), by omega, by go_num, by rw [List.length_set]; exact HRl.out, HT', hset, hb4⟩
          case measure => simp [intOf]; omega
        · obtain rfl : j = k := by omega
          have hRr : R = codeRow j i := by
            have := HT.out
            rw [List.take_of_length_le (by omega), List.take_of_length_le (by rw [codeRow_length]; omega)] at this
            exact this
          rw [hRr] at hor
          have hOr := hO.kept (show Below wo.heap.size wo wr from HWO.out ▸ hb3)
          have hbw : Below G w wr := hb.trans (hb3.mono hGs)
          have hGs2 : G ≤ wr.heap.size := Nat.le_trans hGs0 hbw.size
          clear hRr hO hb3 hR HRl HT
          go_wp2_with (with_reducible refine At.slot 60 ?_)
          obtain ⟨vs, hv1, hv2⟩ := hOr.kept ((Below.refl wr.heap.size wr).alloc (Nat.le_refl _) (.cells #[.slice (some ⟨gb, 0, none⟩) j j] 34))
          refine At.out (wpList_app rfl (.tmp 57) (.tmp 59) 22 rfl elemR rfl G _ (j + i) vs rfl (own_len hv1 HLl.out) _ 1 1 [.slice (some ⟨gb, 0, none⟩) j j] rfl rfl (Rd.one _ _ _) (by intro u hu; rw [List.mem_singleton.1 hu]; rfl) (by unfold maxLen; omega) (by omega) (by simp; omega) ?_)
          intro v4 w4 hv3 hb4 hg4
          have hO4 := own_app (l := codeRow j i) hv1 hv2 (own_len (own_base (hor.alloc _) hGs) (codeRow_length j i).symm) (by decide) (by rw [HLl.out]; exact hv3) hg4
          have hb5 : Below G w w4 := (hbw.alloc hGs2 _).trans hb4
          have HL' : Hid (L ++ [codeRow j i] = oneL j ++ (List.range (i + 1)).map (codeRow j)) := Lib.hid (by rw [codeL_succ, HL.out])
          clear hv1 hv2 hv3 hOr hor hg4 hb4
          go_wp2
          go_roundw
          case rel => exact ⟨i + 1, _, by omega, by go_num, hO4, HL', hb5⟩
          case measure => simp [intOf]; omega
    · obtain rfl : i = m := by omega
      have hml : L = codeL k i := HL.out
      rw [hml] at hO
      clear hml
      go_wp2
      go_ret2
      exact MxP.mk HG.out hO hb
/-- Code. -/
theorem code_any (w : World) (k m : Int) (hk : -9223372036854775808 ≤ k ∧ k ≤ 9223372036854775807) (hm : -9223372036854775808 ≤ m ∧ m ≤ 9223372036854775807) :
    Calls Tryd.prog 25 #[.int .i64 k, .int .i64 m] w (MxP w (codeR k m)) := by
  unfold codeR codeBad
  by_cases h : k < 1 ∨ m < 0 ∨ 14 < k ∨ 14 - k < m
  · rw [if_pos (decide_eq_true h)]; exact code_no w k m hk hm h
  · rw [if_neg (by simpa using h)]
    have := code_yes w k.toNat m.toNat (by omega) (by omega) (by omega)
    rw [Int.toNat_of_nonneg (by omega), Int.toNat_of_nonneg (by omega)] at this
    exact this
end Go.Proofs.YtmeckdgigjjjbaaDoor
