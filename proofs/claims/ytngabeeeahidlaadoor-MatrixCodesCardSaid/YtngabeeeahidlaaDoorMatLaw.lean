/- The law's own great and known. Conditions: each contract's own premises. -/
import Derived.Test.YtngabeeeahidlaaDoorMatCode
import Derived.Test.YtngabeeeahidlaaDoorRowsL
namespace Go.Proofs.YtngabeeeahidlaaDoor
open Go Go.RowKit

/-- What the reach says of rows that came in. -/
def Reach (A : Mx) : Prop := A.length ≤ 140737488351232 ∧ ∀ r ∈ A, r.length ≤ 140737488351232
theorem greatK_get (A : Mx) (k : Nat) (hk : k < A.length) : greatK A (k + 1) = greatK A k + 1 + (A[k]).length := by
  show greatK A k + 1 + (A.getD k []).length = _
  rw [List.getD_eq_getElem?_getD, List.getElem?_eq_getElem hk]; rfl

set_option maxRecDepth 100000 in
set_option maxHeartbeats 1000000 in
theorem great_any (w : World) (a : Option Addr) (c : Nat) (A : Mx) (hr : RdLL w a c A) (hz : Reach A) :
    Calls Tryd.prog 10 #[.slice a A.length c] w fun e w' => e = .returned (.bool (great 1200 A)) ∧ w' = w := by
  obtain ⟨hz1, hz2⟩ := hz
  have HZ := Lib.hid hz2
  clear hz2
  obtain ⟨r, hres⟩ : ∃ r, r = great 1200 A := ⟨_, rfl⟩
  rw [← hres]
  have HR := Lib.hid hres
  clear hres
  go_enter Tryd.func10, Tryd.ntmps10
  go_wp2
  go_loop [3, 4] (fun s3 s4 => ∃ k n : Nat, k ≤ A.length ∧ s4 = .int .i64 k ∧ s3 = .int .i64 n ∧ Hid (n = greatK A k) ∧ n ≤ 140737488353000) (fun _ s4 => A.length - (intOf s4).toNat)
  case atStart => exact ⟨0, 0, by omega, rfl, rfl, Lib.hid rfl, by omega⟩
  case round =>
    obtain ⟨k, n, hk, rfl, rfl, HN, hn⟩ := hrel
    by_cases hlt : k < A.length
    · have hki : (k : Int) < (A.length : Int) := by omega
      by_cases hle : n ≤ 1200
      · obtain ⟨b1, o1, ad1, cd1, rfl, hc1, hr1⟩ := hr.cell k hlt
        have hlr := HZ.out (A[k]) (List.getElem_mem _)
        obtain ⟨l, hl⟩ : ∃ l, l = (A[k]).length := ⟨_, rfl⟩
        rw [← hl] at hc1 hlr
        have HN' : Hid (n + 1 + l = greatK A (k + 1)) := Lib.hid (by rw [greatK_get A k hlt, ← HN.out, hl])
        have hli : (n : Int) ≤ 1200 := by omega
        clear hl hr1
        go_wp2
        go_round
        case rel => exact ⟨k + 1, n + 1 + l, by omega, by go_num, by go_num, HN', by omega⟩
        case measure => simp [intOf]; omega
      · have hli : (1200 : Int) < (n : Int) := by omega
        have hf : Hid (r = true) := Lib.hid (by
          rw [HR.out]; unfold great
          exact decide_eq_true (Nat.lt_of_lt_of_le (by have := HN.out; omega) (greatK_mono A (Nat.le_of_lt hlt))))
        go_wp2
        go_ret
        refine ⟨ret_bool ?_, rfl⟩
        rw [hf.out]
        try (simp; try omega)
    · obtain rfl : k = A.length := by omega
      have hf : Hid (r = decide (1200 < n)) := Lib.hid (by rw [HR.out]; unfold great; rw [← HN.out])
      go_wp2
      go_ret
      refine ⟨ret_bool ?_, rfl⟩
      rw [hf.out]
      try (simp; try omega)

theorem great_le {A : Mx} (h : great 1200 A = false) : A.length ≤ 1200 ∧ ∀ r ∈ A, r.length ≤ 1200 := by
  have h1 : greatK A A.length ≤ 1200 := by have := of_decide_eq_false h; omega
  have h2 : ∀ k, k ≤ A.length → k ≤ greatK A k := by
    intro k
    induction k with
    | zero => intro _; exact Nat.zero_le _
    | succ k ih => intro hk; have := ih (by omega); show _ ≤ greatK A k + 1 + _; omega
  refine ⟨Nat.le_trans (h2 _ (Nat.le_refl _)) h1, fun r hr => ?_⟩
  obtain ⟨j, hj, rfl⟩ := List.mem_iff_getElem.1 hr
  have h3 := greatK_get A j hj
  have h4 := greatK_mono A (show j + 1 ≤ A.length from hj)
  omega

set_option maxRecDepth 100000 in
set_option maxHeartbeats 1000000 in
theorem matKnown_any (w : World) : Calls Tryd.prog 8 #[] w fun e w' => e = .returned (.bool true) ∧ Below w.heap.size w w' := by
  have hc := code_any w 2 1 (by decide) (by decide)
  have hcode : codeR 2 1 = ([[1, 0], [0, 1], [142, 244]], 0) := by decide +kernel
  rw [hcode] at hc
  have HC := Lib.hid hc
  clear hc hcode
  go_enter Tryd.func8, Tryd.ntmps8
  go_wp2_with fail
  refine HC.out.mono ?_
  intro e w1 h
  obtain ⟨a1, c1, rfl, hr1, hb1⟩ := MxP.rd h
  obtain ⟨b2, o2, ad2, cd2, he, hc2, hrd2⟩ := hr1.cell 2 (by decide)
  subst he
  have hc2 : w1.cell? ⟨b2, o2 + 2, none⟩ = some (.slice ad2 2 cd2) := hc2
  have hrd2 : Rd w1 ad2 cd2 (B8 [142, 244]) := hrd2
  have hl3 : (([[1, 0], [0, 1], [142, 244]] : Mx), 0).1.length = 3 := rfl
  rw [hl3]
  have hst : ∀ o, Below w1.heap.size w1 (w1.alloc o) := fun o => (Below.refl _ _).alloc (Nat.le_refl _) o
  clear h hr1 HC
  go_wp2_with fail
  have rr2 := Rd.lit w1 #[.int .u8 142, .int .u8 244] 5 (0, 0) (by unfold maxLen; decide)
  refine (same_any _ _ _ _ 2 [142, 244] [142, 244] (hrd2.kept (hst _)) rr2).mono ?_
  rintro e w3 ⟨rfl, hq3⟩
  go_wp2
  go_ret
  exact ⟨rfl, hb1.trans (((hst _).trans (hq3.below _)).mono hb1.size)⟩
end Go.Proofs.YtngabeeeahidlaaDoor
