/- garnerref7's Is: the contract. Conditions: its own premises. -/
import Derived.Test.YtmeckdgigjjjbaaDoorRefOne
import Derived.Test.YtmeckdgigjjjbaaDoorIsMat
namespace Go.Proofs.YtmeckdgigjjjbaaDoor
open Go Go.RowKit

set_option maxRecDepth 100000 in
set_option maxHeartbeats 2000000 in
theorem refIs_any (w : World) (a : Option Addr) (c : Nat) (A : Mx) (hr : RdLL w a c A) :
    Calls Tryd.prog 32 #[.slice a A.length c] w fun e w' => e = .returned (.bool (isMat A)) ∧ Qt w w' := by
  have hl := hr.le
  obtain ⟨r, hres⟩ : ∃ r, r = isMat A := ⟨_, rfl⟩
  rw [← hres]
  have HR := Lib.hid hres
  clear hres
  by_cases h1 : A.length < 1
  · have hf : r = false := by rw [HR.out]; exact isM_not (fun h => by have := h.1; omega)
    have hi : (A.length : Int) < 1 := by omega
    subst hf
    clear HR
    go_enter Tryd.func32, Tryd.ntmps32
    go_wp2
    go_ret
    exact ⟨rfl, Qt.refl _⟩
  by_cases h2 : 64 < A.length
  · have hf : r = false := by rw [HR.out]; exact isM_not (fun h => by have := h.2.1; omega)
    have hi : (64 : Int) < (A.length : Int) := by omega
    have hi2 : (1 : Int) ≤ (A.length : Int) := by omega
    subst hf
    clear HR
    go_enter Tryd.func32, Tryd.ntmps32
    go_wp2
    go_ret
    exact ⟨rfl, Qt.refl _⟩
  have hi1 : (1 : Int) ≤ (A.length : Int) := by omega
  have hi0 : (0 : Int) < (A.length : Int) := by omega
  have hi2 : (A.length : Int) ≤ 64 := by omega
  have hw0 := wid_get (A := A) (by omega)
  obtain ⟨b0, o0, ad0, cd0, rfl, hc0, hr0⟩ := hr.cell 0 (by omega)
  obtain ⟨n0, hn0⟩ : ∃ n, n = (A[0]'(by omega)).length := ⟨_, rfl⟩
  have hle0 := hr0.le
  rw [B8_length] at hle0
  simp only [← hn0] at hc0 hle0 hw0
  simp only [Nat.add_zero] at hc0
  have HW := Lib.hid hw0
  have HN0 := Lib.hid hn0
  clear hw0 hn0 hr0
  by_cases e2 : n0 < 1
  · have hf : Hid (r = false) := Lib.hid (by rw [HR.out]; exact isM_not (fun h => by have := h.wid1; have := HW.out; omega))
    have g2 : (n0 : Int) < 1 := by omega
    go_enter Tryd.func32, Tryd.ntmps32
    go_wp2
    go_ret
    exact ⟨ret_bool hf.out.symm, Qt.refl _⟩
  by_cases e3 : 64 < n0
  · have hf : Hid (r = false) := Lib.hid (by rw [HR.out]; exact isM_not (fun h => by have := h.wid1; have := HW.out; omega))
    have g2 : (1 : Int) ≤ (n0 : Int) := by omega
    have g3 : (64 : Int) < (n0 : Int) := by omega
    go_enter Tryd.func32, Tryd.ntmps32
    go_wp2
    go_ret
    exact ⟨ret_bool hf.out.symm, Qt.refl _⟩
  have g2 : (1 : Int) ≤ (n0 : Int) := by omega
  have g3 : (n0 : Int) ≤ 64 := by omega
  go_enter Tryd.func32, Tryd.ntmps32
  go_wp2
  go_loopw [3] (fun i wr => ∃ k q : Nat, 1 ≤ k ∧ k ≤ A.length ∧ i = .int .i64 k ∧ wr = w.drewN q ∧ Hid (∀ j (hj : j < A.length), j < k → (A[j]).length = n0)) (fun i _ => A.length - (intOf i).toNat)
  case atStart => exact ⟨1, 0, by omega, by omega, rfl, rfl, Lib.hid (fun j hj h => by have h0 : j = 0 := (by omega); subst h0; exact HN0.out.symm)⟩
  case round =>
    obtain ⟨k, q, hk1, hk, rfl, rfl, HK⟩ := hrel
    by_cases hlt : k < A.length
    · obtain ⟨b1, o1, ad1, cd1, he, hc1, hr1⟩ := hr.cell k hlt
      simp only [Option.some.injEq, Addr.mk.injEq, and_true] at he
      obtain ⟨rfl, rfl⟩ := he
      obtain ⟨n, hn⟩ : ∃ n, n = (A[k]).length := ⟨_, rfl⟩
      have hle := hr1.le
      rw [B8_length] at hle
      rw [← hn] at hc1 hle
      have HN := Lib.hid hn
      have hki : (k : Int) < (A.length : Int) := by omega
      clear hn hr1
      by_cases e1 : n = n0
      · have g1 : ((n : Int) != (n0 : Int)) = false := by rw [e1]; simp
        have HK' : Hid (∀ j (hj : j < A.length), j < k + 1 → (A[j]).length = n0) := Lib.hid (fun j hj h => by
          by_cases hjk : j = k
          · subst hjk; have := HN.out; omega
          · exact HK.out j hj (by omega))
        clear e1
        go_wp2
        go_quiet (fail)
        go_wp2
        go_roundw
        case rel => exact ⟨k + 1, _, by omega, by omega, by go_num, rfl, HK'⟩
        case measure => simp [intOf]; omega
      · have hf : Hid (r = false) := Lib.hid (by rw [HR.out]; exact isM_not (fun h => by have := h.2.2 (A[k]) (List.getElem_mem _); have := HN.out; have := HW.out; omega))
        have g1 : ((n : Int) != (n0 : Int)) = true := by rw [bne_iff_ne]; omega
        clear e1
        go_wp2
        go_quiet (fail)
        go_wp2
        go_ret
        exact ⟨ret_bool hf.out.symm, _, World.drewN_drewN _ _ _⟩
    · have hf : Hid (r = true) := Lib.hid (by rw [HR.out]; exact isM_rows (by omega) (by omega) (fun j hj => by have := HK.out j hj (by omega); have := HW.out; omega))
      go_wp2
      go_ret
      exact ⟨ret_bool hf.out.symm, q, rfl⟩

end Go.Proofs.YtmeckdgigjjjbaaDoor
