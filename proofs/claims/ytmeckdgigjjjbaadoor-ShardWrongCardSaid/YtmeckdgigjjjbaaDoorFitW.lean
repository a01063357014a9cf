/- shard's fit: the contract. Conditions: its own premises. -/
import Derived.Test.YtmeckdgigjjjbaaDoorMendW
import Derived.Test.YtmeckdgigjjjbaaDoorBEq
namespace Go.Proofs.YtmeckdgigjjjbaaDoor
open Go Go.RowKit

open Classical in
/-- Do the rows of a set stand as they are brought back by the first k of it? -/
noncomputable def fitB (k m : Nat) (L : Mx) (th : Nat → Bool) : Bool := decide (∀ i, i < k + m → th i = true → (mendF k m L (firstK th k (k + m))).getD i [] = L.getD i [])
theorem fitB_iff (k m : Nat) (L : Mx) (th : Nat → Bool) : fitB k m L th = true ↔ ∀ i, i < k + m → th i = true → (mendF k m L (firstK th k (k + m))).getD i [] = L.getD i [] := by unfold fitB; exact decide_eq_true_iff

set_option maxRecDepth 100000 in
set_option maxHeartbeats 4000000 in
theorem fit_any (w W : World) (g b k m : Nat) (ac : Option Addr) (cc : Nat) (hw : WorkI W w.heap.size g b k m ac cc) (hbW : Below w.heap.size w W) (hk : 1 ≤ k) (hkm : k + m ≤ 14) (T : Nat) (hT : T < 4294967296) (hcnt : k ≤ (setL T.testBit (k + m)).length)
    (hTab : TabAt 0 Lib.deBruijn64tab W) (a : Option Addr) (c : Nat) (L : Mx) (hr : RdLL w a c L) (hL : L.length = k + m) (s : Nat) (hs1 : s ≤ 1000000) (hs : ∀ r, r < k + m → T.testBit r = true → (L.getD r []).length = s) :
    Calls Tryd.prog 27 #[.pointer (some ⟨g, 0, none⟩), .slice a (k + m) c, .int .u32 T] W fun e W' => e = .returned (.bool (fitB k m L T.testBit)) ∧ WorkI W' w.heap.size g b k m ac cc ∧ Below w.heap.size w W' := by
  have hmend := mend_any w W g b k m ac cc hw hbW hk hkm T hT hcnt hTab a c L hr hL s hs1 hs
  obtain ⟨M, hM⟩ : ∃ M, M = mendF k m L (firstK T.testBit k (k + m)) := ⟨_, rfl⟩
  have hMl : M.length = k + m := by rw [hM]; unfold mendF; rw [timesL_length, codeL_length]
  have hres := fitB_iff k m L T.testBit
  obtain ⟨r, hrr⟩ : ∃ r, r = fitB k m L T.testBit := ⟨_, rfl⟩
  rw [← hrr, ← hM] at hres
  rw [← hM] at hmend
  rw [← hrr]
  have HRES := Lib.hid hres
  have HMEND := Lib.hid hmend
  have HR := Lib.hid hr
  have HML := Lib.hid hMl
  obtain ⟨B, hB⟩ : ∃ B, B = w.heap.size := ⟨_, rfl⟩
  rw [← hB] at hbW ⊢
  have HB := Lib.hid hB
  clear hres hmend hr hMl hrr hM hs hcnt hTab hw hB
  go_enter Tryd.func27, Tryd.ntmps27
  go_wp2_with fail
  refine HMEND.out.mono ?_
  rintro e w1 ⟨v, rfl, ho, hw1, hb1⟩
  obtain ⟨a1, c1, rfl, hr1⟩ := ho.rd
  rw [HML.out]
  rw [← HB.out] at hw1 hb1
  have HW1 := Lib.hid hw1
  have HR1 := Lib.hid hr1
  clear ho hw1 hr1
  go_wp2
  go_loopw [14] (fun s14 wr => ∃ (i : Nat), i ≤ k + m ∧ s14 = .int .i64 i ∧ Hid (∀ j, j < i → T.testBit j = true → M.getD j [] = L.getD j []) ∧ wr = w1) (fun s14 _ => k + m - (intOf s14).toNat)
  case atStart => exact ⟨0, by omega, rfl, Lib.hid (fun j h => by omega), rfl⟩
  case round =>
    obtain ⟨i, hi, rfl, HI, rfl⟩ := hrel
    by_cases hlt : i < k + m
    · have hii : (i : Int) < (k : Int) + (m : Int) := by omega
      obtain ⟨b3, o3, ad3, cd3, rfl, hc3, hr3⟩ := RdLL.row HR1.out i (by rw [HML.out]; exact hlt)
      obtain ⟨b4, o4, ad4, cd4, rfl, hc4, hr4⟩ := RdLL.row HR.out i (by omega)
      have hc4' := (hb1.cell (p := ⟨b4, o4 + i, none⟩) (by rw [HB.out]; exact World.block_lt_of_cell? w _ hc4)).trans hc4
      have hr4' := hr4.kept (HB.out ▸ hb1)
      have hhas := has_any T i hT (by omega) wr
      have hne : ∀ x, decide (M.getD i [] = L.getD i []) = x → Calls Tryd.prog 41 #[.slice ad3 (M.getD i []).length cd3, .slice ad4 (L.getD i []).length cd4] wr fun e w' => e = .returned (.bool x) ∧ wr = w' := fun x hx => bytesEqual_any wr ad3 ad4 cd3 cd4 (M.getD i []) (L.getD i []) hr3 hr4' x hx
      obtain ⟨l3, hl3⟩ : ∃ l3, l3 = (M.getD i []).length := ⟨_, rfl⟩
      obtain ⟨l4, hl4⟩ : ∃ l4, l4 = (L.getD i []).length := ⟨_, rfl⟩
      rw [← hl3] at hc3 hne
      rw [← hl4] at hc4' hne
      cases hth : T.testBit i with
      | false =>
        rw [hth] at hhas
        have HI2 : Hid (∀ j, j < i + 1 → T.testBit j = true → M.getD j [] = L.getD j []) := Lib.hid (fun j hj hjt => by
          by_cases e : j = i
          · subst e; rw [hth] at hjt; cases hjt
          · exact HI.out j (by omega) hjt)
        have HH := Lib.hid hhas
        clear hhas hth hne hr3 hr4 hr4' hc4 hl3 hl4
        go_wp2_with fail
        refine HH.out.mono ?_
        rintro e w2 ⟨rfl, hw2⟩
        have hw2 := hw2.symm
        subst hw2
        go_wp2
        go_roundw
        case rel => exact ⟨i + 1, by omega, by go_num, HI2, trivial⟩
        case measure => simp [intOf]; omega
      | true =>
        rw [hth] at hhas
        by_cases heq : M.getD i [] = L.getD i []
        · have hbe := hne true (decide_eq_true heq)
          have HI2 : Hid (∀ j, j < i + 1 → T.testBit j = true → M.getD j [] = L.getD j []) := Lib.hid (fun j hj hjt => by
            by_cases e : j = i
            · subst e; exact heq
            · exact HI.out j (by omega) hjt)
          have HH := Lib.hid hhas
          have HE := Lib.hid hbe
          clear hhas hth hne hr3 hr4 hr4' hc4 hl3 hl4 heq hbe
          go_wp2_with fail
          refine HH.out.mono ?_
          rintro e w2 ⟨rfl, hw2⟩
          have hw2 := hw2.symm
          subst hw2
          go_wp2_with fail
          refine HE.out.mono ?_
          rintro e w2 ⟨rfl, rfl⟩
          go_wp2
          go_roundw
          case rel => exact ⟨i + 1, by omega, by go_num, HI2, trivial⟩
          case measure => simp [intOf]; omega
        · have hbe := hne false (decide_eq_false heq)
          have hf : Hid (r = false) := Lib.hid (by
            cases hr' : r with
            | false => rfl
            | true => exact absurd (HRES.out.1 hr' i hlt hth) heq)
          have HH := Lib.hid hhas
          have HE := Lib.hid hbe
          clear hhas hth hne hr3 hr4 hr4' hc4 hl3 hl4 heq hbe
          go_wp2_with fail
          refine HH.out.mono ?_
          rintro e w2 ⟨rfl, hw2⟩
          have hw2 := hw2.symm
          subst hw2
          go_wp2_with fail
          refine HE.out.mono ?_
          rintro e w2 ⟨rfl, rfl⟩
          go_wp2
          go_ret
          exact ⟨ret_bool hf.out.symm, HW1.out, hb1⟩
    · obtain rfl : k + m = i := by omega
      have hf : Hid (r = true) := Lib.hid (HRES.out.2 HI.out)
      have hnl : ¬ (k : Int) + (m : Int) < (k : Int) + (m : Int) := by omega
      go_wp2
      go_ret
      exact ⟨ret_bool hf.out.symm, HW1.out, hb1⟩
end Go.Proofs.YtmeckdgigjjjbaaDoor
