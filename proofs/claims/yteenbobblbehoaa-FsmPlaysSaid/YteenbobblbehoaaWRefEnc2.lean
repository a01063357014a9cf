/- The document's Encode of a message, the whole. Conditions: each contract's own premises. -/
import Derived.Test.YteenbobblbehoaaWRefEnc
namespace Go.Proofs.Yteenbobblbehoaa
open Go Go.RowKit

set_option maxRecDepth 100000 in
set_option maxHeartbeats 8000000 in
theorem refWEncode_no (fr to kd : Int) (an : Option Addr) (nn cn : Nat) (ad : Option Addr) (nd cd : Nat) (w : World) (f : Int) (hn : nn ≤ 9223372036854775807) (hd : nd ≤ 9223372036854775807)
    (hf : wBad fr to kd nn = true ∧ f = 1 ∨ wBad fr to kd nn = false ∧ 1047552 < nd ∧ f = 5) :
    Calls Try.prog 57 #[msgV fr to kd an nn cn ad nd cd] w fun e w' => e = .returned (.tuple #[.slice none 0 0, .int .i64 f]) ∧ Below w.heap.size w w' := by
  have hstart : ∀ o, Below w.heap.size w (w.alloc o) := fun o => (Below.refl _ _).alloc (Nat.le_refl _) o
  unfold msgV
  by_cases q0 : fr < 0
  · obtain rfl : f = 1 := by
      rcases hf with h | h
      · exact h.2
      · exfalso
        have := h.1
        simp only [wBad, smallB, Bool.or_eq_false_iff, Bool.not_eq_false', Bool.and_eq_true, decide_eq_true_eq, decide_eq_false_iff_not] at this
        omega
    clear hf
    go_enter Try.func57, Try.ntmps57
    go_wp2
    go_ret2
    exact ⟨rfl, hstart _⟩
  · replace q0 : 0 ≤ fr := by omega
    by_cases q1 : 2147483647 < fr
    · obtain rfl : f = 1 := by
        rcases hf with h | h
        · exact h.2
        · exfalso
          have := h.1
          simp only [wBad, smallB, Bool.or_eq_false_iff, Bool.not_eq_false', Bool.and_eq_true, decide_eq_true_eq, decide_eq_false_iff_not] at this
          omega
      clear hf
      go_enter Try.func57, Try.ntmps57
      go_wp2
      go_ret2
      exact ⟨rfl, hstart _⟩
    · replace q1 : fr ≤ 2147483647 := by omega
      by_cases q2 : to < 0
      · obtain rfl : f = 1 := by
          rcases hf with h | h
          · exact h.2
          · exfalso
            have := h.1
            simp only [wBad, smallB, Bool.or_eq_false_iff, Bool.not_eq_false', Bool.and_eq_true, decide_eq_true_eq, decide_eq_false_iff_not] at this
            omega
        clear hf
        go_enter Try.func57, Try.ntmps57
        go_wp2
        go_ret2
        exact ⟨rfl, hstart _⟩
      · replace q2 : 0 ≤ to := by omega
        by_cases q3 : 2147483647 < to
        · obtain rfl : f = 1 := by
            rcases hf with h | h
            · exact h.2
            · exfalso
              have := h.1
              simp only [wBad, smallB, Bool.or_eq_false_iff, Bool.not_eq_false', Bool.and_eq_true, decide_eq_true_eq, decide_eq_false_iff_not] at this
              omega
          clear hf
          go_enter Try.func57, Try.ntmps57
          go_wp2
          go_ret2
          exact ⟨rfl, hstart _⟩
        · replace q3 : to ≤ 2147483647 := by omega
          by_cases q4 : kd < 0
          · obtain rfl : f = 1 := by
              rcases hf with h | h
              · exact h.2
              · exfalso
                have := h.1
                simp only [wBad, smallB, Bool.or_eq_false_iff, Bool.not_eq_false', Bool.and_eq_true, decide_eq_true_eq, decide_eq_false_iff_not] at this
                omega
            clear hf
            go_enter Try.func57, Try.ntmps57
            go_wp2
            go_ret2
            exact ⟨rfl, hstart _⟩
          · replace q4 : 0 ≤ kd := by omega
            by_cases q5 : 2147483647 < kd
            · obtain rfl : f = 1 := by
                rcases hf with h | h
                · exact h.2
                · exfalso
                  have := h.1
                  simp only [wBad, smallB, Bool.or_eq_false_iff, Bool.not_eq_false', Bool.and_eq_true, decide_eq_true_eq, decide_eq_false_iff_not] at this
                  omega
              clear hf
              go_enter Try.func57, Try.ntmps57
              go_wp2
              go_ret2
              exact ⟨rfl, hstart _⟩
            · replace q5 : kd ≤ 2147483647 := by omega
              by_cases q6 : (64 : Int) < (nn : Int)
              · obtain rfl : f = 1 := by
                  rcases hf with h | h
                  · exact h.2
                  · exfalso
                    have := h.1
                    simp only [wBad, smallB, Bool.or_eq_false_iff, Bool.not_eq_false', Bool.and_eq_true, decide_eq_true_eq, decide_eq_false_iff_not] at this
                    omega
                clear hf
                go_enter Try.func57, Try.ntmps57
                go_wp2
                go_ret2
                exact ⟨rfl, hstart _⟩
              · replace q6 : (nn : Int) ≤ 64 := by omega
                obtain ⟨q7, rfl⟩ : (1047552 : Int) < (nd : Int) ∧ f = 5 := by
                  rcases hf with h | h
                  · exfalso
                    have := h.1
                    simp only [wBad, smallB, Bool.or_eq_true, Bool.not_eq_true', Bool.and_eq_false_iff, decide_eq_true_eq, decide_eq_false_iff_not] at this
                    omega
                  · exact ⟨by omega, h.2.2⟩
                clear hf
                go_enter Try.func57, Try.ntmps57
                go_wp2
                go_ret2
                exact ⟨rfl, hstart _⟩

set_option maxRecDepth 100000 in
set_option maxHeartbeats 8000000 in
theorem refWEncode_yes (v0 v1 v2 : UInt64) (h0 : v0.toNat ≤ 2147483647) (h1 : v1.toNat ≤ 2147483647) (h2 : v2.toNat ≤ 2147483647) (an : Option Addr) (cn : Nat) (nums : List Int) (ad : Option Addr) (cd : Nat) (data : List UInt8) (w : World)
    (hrn : Rd w an cn (BI nums)) (hbn : ∀ n ∈ nums, -9223372036854775808 ≤ n ∧ n ≤ 9223372036854775807) (hnn : nums.length ≤ 64) (hrd : Rd w ad cd (B8 data)) (hdl : data.length ≤ 1047552) :
    Calls Try.prog 57 #[msgV v0.toNat v1.toNat v2.toNat an nums.length cn ad data.length cd] w (WEP w (bodyL v0.toNat v1.toNat v2.toNat nums data)) := by
  have hbody := fun w' (hb : Below w.heap.size w w') => refBody_any v0 v1 v2 h0 h1 h2 an cn nums ad cd data w' (hrn.kept hb) hbn hnn (hrd.kept hb) hdl
  have hXl : (bodyL v0.toNat v1.toNat v2.toNat nums data).length ≤ 1048576 := by
    have a0 := uv_len v0.toNat
    have a1 := uv_len v1.toNat
    have a2 := uv_len v2.toNat
    have a3 := uv_len nums.length
    have a4 := uv_len data.length
    have a5 := numsL_len nums
    unfold bodyL
    simp only [List.length_append]
    omega
  unfold msgV
  obtain ⟨X, hX⟩ : ∃ X, X = bodyL v0.toNat v1.toNat v2.toNat nums data := ⟨_, rfl⟩
  rw [← hX] at hXl ⊢
  unfold msgV at hbody
  simp only [← hX] at hbody
  have HB := Lib.hid hbody
  have HXl := Lib.hid hXl
  have p0 : (0 : Int) ≤ (v0.toNat : Int) := by omega
  have p1 : (0 : Int) ≤ (v1.toNat : Int) := by omega
  have p2 : (0 : Int) ≤ (v2.toNat : Int) := by omega
  have q0 : (v0.toNat : Int) ≤ 2147483647 := by omega
  have q1 : (v1.toNat : Int) ≤ 2147483647 := by omega
  have q2 : (v2.toNat : Int) ≤ 2147483647 := by omega
  have q3 : (nums.length : Int) ≤ 64 := by omega
  have q4 : (data.length : Int) ≤ 1047552 := by omega
  clear hbody hXl hX hbn hrn hrd h0 h1 h2 hnn hdl
  go_enter Try.func57, Try.ntmps57
  go_wp2_with fail
  refine (HB.out _ ((Below.refl _ _).alloc (Nat.le_refl _) _)).mono ?_
  rintro e w1 ⟨r1, rfl, ho1, hb1⟩
  have hb1' : Below w.heap.size w w1 := ((Below.refl _ _).alloc (Nat.le_refl _) _).trans (hb1.mono (by simp))
  obtain ⟨a1, c1, rfl, hrd1⟩ := Rd.ofOwn ho1
  clear ho1 hb1
  go_wp2_with fail
  refine (refEncode_any w1 a1 c1 X hrd1 HXl.out).mono ?_
  rintro e w2 ⟨r2, rfl, ho2, hb2⟩
  have hz := hb1'.size
  go_wp2
  go_ret2
  exact ⟨r2, rfl, own_base ho2 hz, hb1'.trans (hb2.mono hz)⟩
end Go.Proofs.Yteenbobblbehoaa
