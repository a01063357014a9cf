/- The law's own great and known. Conditions: each contract's own premises. -/
import Derived.Test.YtmeckdgigjjjbaaDoorTimes
import Derived.Test.YtmeckdgigjjjbaaDoorRowsL
namespace Go.Proofs.YtmeckdgigjjjbaaDoor
open Go Go.RowKit

/-- What the reach says of rows that came in. -/
def Reach (A : Mx) : Prop := A.length ≤ 140737488351232 ∧ ∀ r ∈ A, r.length ≤ 140737488351232
theorem greatK_get (A : Mx) (k : Nat) (hk : k < A.length) : greatK A (k + 1) = greatK A k + 1 + (A[k]).length := by
  show greatK A k + 1 + (A.getD k []).length = _
  rw [List.getD_eq_getElem?_getD, List.getElem?_eq_getElem hk]; rfl

set_option maxRecDepth 100000 in
set_option maxHeartbeats 1000000 in
theorem great_any (w : World) (a : Option Addr) (c : Nat) (A : Mx) (hr : RdLL w a c A) (hz : Reach A) :
    Calls Tryd.prog 8 #[.slice a A.length c] w fun e w' => e = .returned (.bool (great 1500 A)) ∧ w' = w := by
  obtain ⟨hz1, hz2⟩ := hz
  have HZ := Lib.hid hz2
  clear hz2
  obtain ⟨r, hres⟩ : ∃ r, r = great 1500 A := ⟨_, rfl⟩
  rw [← hres]
  have HR := Lib.hid hres
  clear hres
  go_enter Tryd.func8, Tryd.ntmps8
  go_wp2
  go_loop [3, 4] (fun s3 s4 => ∃ k n : Nat, k ≤ A.length ∧ s4 = .int .i64 k ∧ s3 = .int .i64 n ∧ Hid (n = greatK A k) ∧ n ≤ 140737488354000) (fun _ s4 => A.length - (intOf s4).toNat)
  case atStart => exact ⟨0, 0, by omega, rfl, rfl, Lib.hid rfl, by omega⟩
  case round =>
    obtain ⟨k, n, hk, rfl, rfl, HN, hn⟩ := hrel
    by_cases hlt : k < A.length
    · have hki : (k : Int) < (A.length : Int) := by omega
      by_cases hle : n ≤ 1500
      · obtain ⟨b1, o1, ad1, cd1, rfl, hc1, hr1⟩ := hr.cell k hlt
        have hlr := HZ.out (A[k]) (List.getElem_mem _)
        obtain ⟨l, hl⟩ : ∃ l, l = (A[k]).length := ⟨_, rfl⟩
        rw [← hl] at hc1 hlr
        have HN' : Hid (n + 1 + l = greatK A (k + 1)) := Lib.hid (by rw [greatK_get A k hlt, ← HN.out, hl])
        have hli : (n : Int) ≤ 1500 := by omega
        clear hl hr1
        go_wp2
        go_round
        case rel => exact ⟨k + 1, n + 1 + l, by omega, by go_num, by go_num, HN', by omega⟩
        case measure => simp [intOf]; omega
      · have hli : (1500 : Int) < (n : Int) := by omega
        have hf : Hid (r = true) := Lib.hid (by
          rw [HR.out]; unfold great
          exact decide_eq_true (Nat.lt_of_lt_of_le (by have := HN.out; omega) (greatK_mono A (Nat.le_of_lt hlt))))
        go_wp2
        go_ret
        refine ⟨ret_bool ?_, rfl⟩
        rw [hf.out]
        try (simp; try omega)
    · obtain rfl : k = A.length := by omega
      have hf : Hid (r = decide (1500 < n)) := Lib.hid (by rw [HR.out]; unfold great; rw [← HN.out])
      go_wp2
      go_ret
      refine ⟨ret_bool ?_, rfl⟩
      rw [hf.out]
      try (simp; try omega)

theorem great_le {A : Mx} (h : great 1500 A = false) : A.length ≤ 1500 ∧ ∀ r ∈ A, r.length ≤ 1500 := by
  have h1 : greatK A A.length ≤ 1500 := by have := of_decide_eq_false h; omega
  have h2 : ∀ k, k ≤ A.length → k ≤ greatK A k := by
    intro k
    induction k with
    | zero => intro _; exact Nat.zero_le _
    | succ k ih => intro hk; have := ih (by omega); show _ ≤ greatK A k + 1 + _; omega
  refine ⟨Nat.le_trans (h2 _ (Nat.le_refl _)) h1, fun r hr => ?_⟩
  obtain ⟨j, hj, rfl⟩ := List.mem_iff_getElem.1 hr
  have h3 := greatK_get A j hj
  have h4 := greatK_mono A (show j + 1 ≤ A.length from hj)
  omega


theorem shardKnown_rd (w : World) (a0 a1 aR : Option Addr) (c0 c1 cR : Nat) (h0 : Rd w a0 c0 (B8 [1])) (h1 : Rd w a1 c1 (B8 [2])) (hR : Rd w aR cR [.slice a0 1 c0, .slice a1 1 c1]) : RdLL w aR cR [[1], [2]] := by
  refine ⟨_, hR, rfl, ?_⟩
  intro i l hl
  match i with
  | 0 => cases hl; exact ⟨a0, c0, rfl, h0⟩
  | 1 => cases hl; exact ⟨a1, c1, rfl, h1⟩
  | i + 2 => simp at hl

set_option maxRecDepth 100000 in
set_option maxHeartbeats 1000000 in
theorem shardKnown_any (w : World) : Calls Tryd.prog 12 #[] w fun e w' => e = .returned (.bool true) ∧ Below w.heap.size w w' := by
  have hsum : sumsR [[1], [2]] 1 = ([[123]], 0) := by decide +kernel
  have HSum := Lib.hid hsum
  clear hsum
  go_enter Tryd.func12, Tryd.ntmps12
  go_wp2_with fail
  obtain ⟨W, hW⟩ : ∃ W, W = ((w.alloc (.cells #[.int .u8 1] 5)).alloc (.cells #[.int .u8 2] 5)).alloc (.cells #[.slice (some ⟨w.heap.size, 0, none⟩) 1 1, .slice (some ⟨w.heap.size + 1, 0, none⟩) 1 1] 34) := ⟨_, rfl⟩
  have hb0 : Below w.heap.size w W := by rw [hW]; exact (((Below.refl _ _).alloc (Nat.le_refl _) _).alloc (by simp) _).alloc (by simp; omega) _
  have r0 : Rd W (some ⟨w.heap.size, 0, none⟩) 1 (B8 [1]) := by
    rw [hW]
    exact ((Rd.one w (.int .u8 1) 5).kept ((Below.refl _ _).alloc (Nat.le_refl _) _)).kept ((Below.refl _ _).alloc (Nat.le_refl _) _)
  have r1 : Rd W (some ⟨w.heap.size + 1, 0, none⟩) 1 (B8 [2]) := by
    rw [hW]
    have := (Rd.one (w.alloc (.cells #[.int .u8 1] 5)) (.int .u8 2) 5).kept ((Below.refl _ _).alloc (Nat.le_refl _) (.cells #[.slice (some ⟨w.heap.size, 0, none⟩) 1 1, .slice (some ⟨w.heap.size + 1, 0, none⟩) 1 1] 34))
    rw [show (w.alloc (.cells #[.int .u8 1] 5)).heap.size = w.heap.size + 1 by simp] at this
    exact this
  have rR : Rd W (some ⟨w.heap.size + 1 + 1, 0, none⟩) 2 [.slice (some ⟨w.heap.size, 0, none⟩) 1 1, .slice (some ⟨w.heap.size + 1, 0, none⟩) 1 1] := by
    rw [hW]
    have := Rd.lit ((w.alloc (.cells #[.int .u8 1] 5)).alloc (.cells #[.int .u8 2] 5)) #[.slice (some ⟨w.heap.size, 0, none⟩) 1 1, .slice (some ⟨w.heap.size + 1, 0, none⟩) 1 1] 34 (0, 0) (show (2 : Nat) ≤ maxLen by unfold maxLen; decide)
    rw [show ((w.alloc (.cells #[.int .u8 1] 5)).alloc (.cells #[.int .u8 2] 5)).heap.size = w.heap.size + 1 + 1 by simp] at this
    exact this
  have hrd := shardKnown_rd W _ _ _ 1 1 2 r0 r1 rR
  have hs := sums_any W (some ⟨w.heap.size + 1 + 1, 0, none⟩) 2 [[1], [2]] 1 hrd (by decide) (by decide) (by decide)
  rw [HSum.out] at hs
  rw [← hW]
  clear hW r0 r1 rR hrd HSum
  refine hs.mono ?_
  clear hs
  intro e w1 h
  obtain ⟨a1, c1, rfl, hr1, hb1⟩ := MxP.rd h
  obtain ⟨b2, o2, ad2, cd2, he, hc2, hrd2⟩ := hr1.cell 0 (by decide)
  subst he
  have hc2 : w1.cell? ⟨b2, o2, none⟩ = some (.slice ad2 1 cd2) := hc2
  have hrd2 : Rd w1 ad2 cd2 (B8 [123]) := hrd2
  rw [show (([[123]], 0) : Mx × Nat).1.length = 1 from rfl]
  have hbw1 : Below w.heap.size w w1 := hb0.trans (hb1.mono hb0.size)
  have hst : ∀ o, Below w1.heap.size w1 (w1.alloc o) := fun o => (Below.refl _ _).alloc (Nat.le_refl _) o
  clear h hr1 hb0 hb1
  go_wp2_with fail
  refine (same_any _ _ _ _ 1 [123] [123] (hrd2.kept (hst _)) (Rd.one w1 (.int .u8 123) 5)).mono ?_
  rintro e w3 ⟨rfl, hq3⟩
  go_wp2
  go_ret
  exact ⟨rfl, hbw1.trans (((hst _).trans (hq3.below _)).mono hbw1.size)⟩
end Go.Proofs.YtmeckdgigjjjbaaDoor
