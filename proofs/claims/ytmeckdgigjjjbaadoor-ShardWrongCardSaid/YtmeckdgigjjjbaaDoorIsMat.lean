/- matrix's isMatrix: the contract. Conditions: its own premises. -/
import Derived.Test.YtmeckdgigjjjbaaDoorMxP
namespace Go.Proofs.YtmeckdgigjjjbaaDoor
open Go Go.RowKit

theorem isM_rows {A : Mx} (h1 : 1 ≤ A.length) (h2 : A.length ≤ 64) (h : ∀ j (hj : j < A.length), (A[j]).length = wid A ∧ 1 ≤ (A[j]).length ∧ (A[j]).length ≤ 64) : isMat A = true := by
  refine decide_eq_true ⟨h1, h2, fun r hr => ?_⟩
  obtain ⟨j, hj, rfl⟩ := List.mem_iff_getElem.1 hr
  exact h j hj
theorem isM_not {A : Mx} (h : ¬ IsM A) : isMat A = false := decide_eq_false h
theorem wid_get {A : Mx} (h : 0 < A.length) : wid A = (A[0]).length := by
  cases A with
  | nil => simp at h
  | cons r A => rfl

set_option maxRecDepth 100000 in
set_option maxHeartbeats 1000000 in
theorem isMatrix_any (w : World) (a : Option Addr) (c : Nat) (A : Mx) (hr : RdLL w a c A) :
    Calls Tryd.prog 46 #[.slice a A.length c] w fun e w' => e = .returned (.bool (isMat A)) ∧ w' = w := by
  have hl := hr.le
  obtain ⟨r, hres⟩ : ∃ r, r = isMat A := ⟨_, rfl⟩
  rw [← hres]
  have HR := Lib.hid hres
  clear hres
  by_cases h1 : A.length < 1
  · have hf : r = false := by rw [HR.out]; exact isM_not (fun h => by have := h.1; omega)
    have hi : (A.length : Int) < 1 := by omega
    subst hf
    clear HR
    go_enter Tryd.func46, Tryd.ntmps46
    go_wp2
    go_ret
    exact ⟨rfl, rfl⟩
  by_cases h2 : 64 < A.length
  · have hf : r = false := by rw [HR.out]; exact isM_not (fun h => by have := h.2.1; omega)
    have hi : (64 : Int) < (A.length : Int) := by omega
    have hi2 : (1 : Int) ≤ (A.length : Int) := by omega
    subst hf
    clear HR
    go_enter Tryd.func46, Tryd.ntmps46
    go_wp2
    go_ret
    exact ⟨rfl, rfl⟩
  have hi1 : (1 : Int) ≤ (A.length : Int) := by omega
  have hi2 : (A.length : Int) ≤ 64 := by omega
  have hw0 := wid_get (A := A) (by omega)
  obtain ⟨b0, o0, ad0, cd0, rfl, hc0, hr0⟩ := hr.cell 0 (by omega)
  obtain ⟨n0, hn0⟩ : ∃ n, n = (A[0]'(by omega)).length := ⟨_, rfl⟩
  have hle0 := hr0.le
  rw [B8_length] at hle0
  simp only [← hn0] at hc0 hle0 hw0
  simp only [Nat.add_zero] at hc0
  have HW := Lib.hid hw0
  have HN0 := Lib.hid hn0
  clear hw0 hn0 hr0
  go_enter Tryd.func46, Tryd.ntmps46
  go_wp2
  go_loop [4, 15] (fun _ i => ∃ k : Nat, k ≤ A.length ∧ i = .int .i64 k ∧ Hid (∀ j (hj : j < A.length), j < k → (A[j]).length = wid A ∧ 1 ≤ (A[j]).length ∧ (A[j]).length ≤ 64)) (fun _ i => A.length - (intOf i).toNat)
  case atStart => exact ⟨0, by omega, rfl, Lib.hid (fun j hj h => by omega)⟩
  case round =>
    obtain ⟨k, hk, rfl, HK⟩ := hrel
    by_cases hlt : k < A.length
    · obtain ⟨b1, o1, ad1, cd1, he, hc1, hr1⟩ := hr.cell k hlt
      simp only [Option.some.injEq, Addr.mk.injEq, and_true] at he
      obtain ⟨rfl, rfl⟩ := he
      obtain ⟨n, hn⟩ : ∃ n, n = (A[k]).length := ⟨_, rfl⟩
      have hle := hr1.le
      rw [B8_length] at hle
      rw [← hn] at hc1 hle
      have HN := Lib.hid hn
      have hki : (k : Int) < (A.length : Int) := by omega
      clear hn hr1
      by_cases e1 : n = n0
      · have g1 : ((n : Int) != (n0 : Int)) = false := by rw [e1]; simp
        have E1 := Lib.hid e1
        clear e1
        by_cases e2 : n < 1
        · have hf : Hid (r = false) := Lib.hid (by rw [HR.out]; exact isM_not (fun h => by have := h.2.2 (A[k]) (List.getElem_mem _); have := HN.out; omega))
          have g2 : (n : Int) < 1 := by omega
          go_wp2
          go_ret
          exact ⟨ret_bool hf.out.symm, rfl⟩
        · by_cases e3 : 64 < n
          · have hf : Hid (r = false) := Lib.hid (by rw [HR.out]; exact isM_not (fun h => by have := h.2.2 (A[k]) (List.getElem_mem _); have := HN.out; omega))
            have g2 : (1 : Int) ≤ (n : Int) := by omega
            have g3 : (64 : Int) < (n : Int) := by omega
            go_wp2
            go_ret
            exact ⟨ret_bool hf.out.symm, rfl⟩
          · have g2 : (1 : Int) ≤ (n : Int) := by omega
            have g3 : (n : Int) ≤ 64 := by omega
            have HK' : Hid (∀ j (hj : j < A.length), j < k + 1 → (A[j]).length = wid A ∧ 1 ≤ (A[j]).length ∧ (A[j]).length ≤ 64) := Lib.hid (fun j hj h => by
              by_cases hjk : j = k
              · subst hjk; have := HN.out; have := HW.out; have := E1.out; omega
              · exact HK.out j hj (by omega))
            go_wp2
            go_round
            case rel => exact ⟨k + 1, by omega, by go_num, HK'⟩
            case measure => simp [intOf]; omega
      · have hf : Hid (r = false) := Lib.hid (by rw [HR.out]; exact isM_not (fun h => by have := h.2.2 (A[k]) (List.getElem_mem _); have := HN.out; have := HW.out; omega))
        have g1 : ((n : Int) != (n0 : Int)) = true := by rw [bne_iff_ne]; omega
        clear e1
        go_wp2
        go_ret
        exact ⟨ret_bool hf.out.symm, rfl⟩
    · have hf : Hid (r = true) := Lib.hid (by rw [HR.out]; exact isM_rows (by omega) (by omega) (fun j hj => HK.out j hj (by omega)))
      go_wp2
      go_ret
      exact ⟨ret_bool hf.out.symm, rfl⟩

theorem Rd.ownS {w : World} {base : Nat} {e : TypeId} {a : Option Addr} {n c : Nat} {xs : List Value} (h : w.ownsRow base e 1 (.slice a n c) n xs) : Rd w a c xs := by
  obtain ⟨a', c', hv, hr⟩ := Rd.ofOwn h
  cases hv
  exact hr
end Go.Proofs.YtmeckdgigjjjbaaDoor
