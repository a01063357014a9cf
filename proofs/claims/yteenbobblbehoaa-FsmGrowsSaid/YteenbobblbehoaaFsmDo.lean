/- fsm's Command; a command made and applied: the contracts. Conditions: each contract's own premises. -/
import Derived.Test.YteenbobblbehoaaFsmApply
namespace Go.Proofs.Yteenbobblbehoaa
open Go Go.RowKit

/-- A command's bytes. -/
def cmdL (kd : Int) (nums : List Int) : List UInt8 × Nat := if kd < 1 ∨ 6 < kd then ([], 1) else if 64 < nums.length then ([], 1) else (encL (bodyL 0 0 kd.toNat nums []), 0)
/-- What a command that is made and applied does. -/
def doL (L : List Vl) (kd : Int) (nums : List Int) : (List Int × Nat) × List Vl :=
  if kd < 1 ∨ 6 < kd then (([], 1), L) else if 64 < nums.length then (([], 1), L) else if mayB kd nums.length = true then opL L kd nums else (([], 3), L)
theorem wEnc_cmd {kd : Int} {nums : List Int} (h : ¬ (kd < 1 ∨ 6 < kd)) : wEnc 0 0 kd nums [] = if 64 < nums.length then ([], 1) else (encL (bodyL 0 0 kd.toNat nums []), 0) := by
  unfold wEnc wBad
  have h0 : smallB 0 = true := by decide
  have hk : smallB kd = true := by simp [smallB]; omega
  rw [h0, hk]
  by_cases hl : 64 < nums.length
  · simp [hl]
  · simp [hl]

set_option maxRecDepth 100000 in
set_option maxHeartbeats 4000000 in
theorem command_any (w : World) (kd : Int) (an : Option Addr) (cn : Nat) (nums : List Int) (hrn : Rd w an cn (BI nums)) (hbn : ∀ n ∈ nums, -9223372036854775808 ≤ n ∧ n ≤ 9223372036854775807) :
    Calls Try.prog 28 #[.int .i64 kd, .slice an nums.length cn] w (WAP w (cmdL kd nums)) := by
  have he := wEncode_any 0 0 kd an cn nums none 0 [] w hrn hbn (Rd.none _)
  have HE := Lib.hid he
  clear he hrn hbn
  obtain ⟨m, hm⟩ : ∃ m, m = nums.length := ⟨_, rfl⟩
  unfold msgV at HE
  have hz : ([] : List UInt8).length = 0 := rfl
  rw [hz, ← hm] at HE
  rw [← hm]
  by_cases h1 : kd < 1
  · have hX : cmdL kd nums = ([], 1) := by unfold cmdL; rw [if_pos (.inl h1)]
    rw [hX]
    clear hX hm hz
    go_enter Try.func28, Try.ntmps28
    go_wp2
    go_ret2
    exact ⟨none, 0, rfl, Rd.none _, Below.refl _ _⟩
  by_cases h2 : 6 < kd
  · have hX : cmdL kd nums = ([], 1) := by unfold cmdL; rw [if_pos (.inr h2)]
    rw [hX]
    have h7 : 7 ≤ kd := by omega
    clear hX hm hz
    go_enter Try.func28, Try.ntmps28
    go_wp2
    go_ret2
    exact ⟨none, 0, rfl, Rd.none _, Below.refl _ _⟩
  have h7 : ¬ 7 ≤ kd := by omega
  have hn12 : ¬ (kd < 1 ∨ 6 < kd) := by omega
  have hw := wEnc_cmd (nums := nums) hn12
  have hX : cmdL kd nums = if 64 < nums.length then ([], 1) else (encL (bodyL 0 0 kd.toNat nums []), 0) := by unfold cmdL; rw [if_neg hn12]
  rw [hX]
  rw [hw] at HE
  clear hX hw hn12 h2 hz
  by_cases h3 : 64 < nums.length
  · rw [if_pos h3] at HE ⊢
    clear h3 hm
    go_enter Try.func28, Try.ntmps28
    go_wp2_with fail
    refine HE.out.mono ?_
    rintro e w1 ⟨a1, c1, rfl, hr1, hb1⟩
    have HB := Lib.hid hb1
    clear hr1 hb1
    go_wp2
    go_ret2
    exact ⟨none, 0, rfl, Rd.none _, HB.out⟩
  · rw [if_neg h3] at HE ⊢
    obtain ⟨R, hR⟩ : ∃ R, R = encL (bodyL 0 0 kd.toNat nums []) := ⟨_, rfl⟩
    rw [← hR] at HE ⊢
    clear h3 hm hR
    go_enter Try.func28, Try.ntmps28
    go_wp2_with fail
    refine HE.out.mono ?_
    rintro e w1 ⟨a1, c1, rfl, hr1, hb1⟩
    have HB := Lib.hid hb1
    have HR1 := Lib.hid hr1
    clear hr1 hb1
    go_wp2
    go_ret2
    exact ⟨a1, c1, rfl, HR1.out, HB.out⟩

theorem applyL_cmd (L : List Vl) {kd : Int} {nums : List Int} (h : ¬ (kd < 1 ∨ 6 < kd)) (hl : ¬ 64 < nums.length) (hbn : ∀ n ∈ nums, -9223372036854775808 ≤ n ∧ n ≤ 9223372036854775807) :
    applyL L (encL (bodyL 0 0 kd.toNat nums [])) = if mayB kd nums.length = true then opL L kd nums else (([], 3), L) := by
  have hb := wDec_back 0 0 kd nums [] [] (by decide) (by decide) (by simp [smallB]; omega) hbn (by omega) (by simp)
  rw [List.append_nil] at hb
  have hb : wDec (encL (bodyL 0 0 kd.toNat nums [])) = ((0, 0, kd, nums, []), 8 + (bodyL 0 0 kd.toNat nums []).length, 0) := hb
  unfold applyL
  rw [hb]
  by_cases hm : mayB kd nums.length = true
  · rw [if_pos hm, if_neg]
    unfold applyBad
    rintro (h | h | h | h | h | h)
    · exact h rfl
    · exact h (encL_length _).symm
    · exact h rfl
    · exact h rfl
    · simp at h
    · rw [hm] at h; cases h
  · rw [if_neg hm, if_pos]
    unfold applyBad
    right; right; right; right; right
    simpa using hm

set_option maxRecDepth 100000 in
set_option maxHeartbeats 4000000 in
theorem do_any (w : World) (F : Nat → Prop) (t : Nat) (L : List Vl) (hT : TabI w F t L) (hok : OkL L) (kd : Int) (an : Option Addr) (cn : Nat) (nums : List Int) (hrn : Rd w an cn (BI nums)) (hbn : ∀ n ∈ nums, -9223372036854775808 ≤ n ∧ n ≤ 9223372036854775807) :
    Calls Try.prog 11 #[ptrV t, .int .i64 kd, .slice an nums.length cn] w (AnsP w F t (doL L kd nums)) := by
  have hc := command_any w kd an cn nums hrn hbn
  have HT := Lib.hid hT
  obtain ⟨m, hm⟩ : ∃ m, m = nums.length := ⟨_, rfl⟩
  rw [← hm] at hc ⊢
  unfold cmdL at hc
  unfold doL
  by_cases h1 : kd < 1 ∨ 6 < kd
  · rw [if_pos h1] at hc ⊢
    have HC := Lib.hid hc
    clear hc h1 hm hrn hbn hT hok
    unfold ptrV
    go_enter Try.func11, Try.ntmps11
    go_wp2_with fail
    refine HC.out.mono ?_
    rintro e w1 ⟨a1, c1, rfl, hr1, hb1⟩
    have HB := Lib.hid hb1
    clear hr1 hb1
    go_wp2
    go_ret2
    exact AnsP.no 1 HT.out HB.out
  rw [if_neg h1] at hc ⊢
  by_cases h2 : 64 < nums.length
  · rw [if_pos h2] at hc ⊢
    have HC := Lib.hid hc
    clear hc h1 h2 hm hrn hbn hT hok
    unfold ptrV
    go_enter Try.func11, Try.ntmps11
    go_wp2_with fail
    refine HC.out.mono ?_
    rintro e w1 ⟨a1, c1, rfl, hr1, hb1⟩
    have HB := Lib.hid hb1
    clear hr1 hb1
    go_wp2
    go_ret2
    exact AnsP.no 1 HT.out HB.out
  rw [if_neg h2] at hc ⊢
  rw [← applyL_cmd L h1 h2 hbn]
  obtain ⟨R, hR⟩ : ∃ R, R = encL (bodyL 0 0 kd.toNat nums []) := ⟨_, rfl⟩
  rw [← hR] at hc ⊢
  have hap := fun W (hb : Below w.heap.size w W) a c (hr : Rd W a c (B8 R)) => apply_any W F t L (hT.kept hb) hok a c R hr
  obtain ⟨Y, hY⟩ : ∃ Y, Y = applyL L R := ⟨_, rfl⟩
  rw [← hY] at hap ⊢
  have HC := Lib.hid hc
  have HA := Lib.hid hap
  clear hc hap h1 h2 hm hrn hbn hT hok hR hY
  unfold ptrV at HA ⊢
  go_enter Try.func11, Try.ntmps11
  go_wp2_with fail
  refine HC.out.mono ?_
  rintro e w1 ⟨a1, c1, rfl, hr1, hb1⟩
  have h5 := HA.out w1 hb1 a1 c1 hr1
  have H5 := Lib.hid h5
  have HB := Lib.hid hb1
  clear h5 hr1 hb1
  dsimp only
  go_wp2_with fail
  refine H5.out.mono ?_
  intro e w2 h6
  obtain ⟨a3, n3, c3, k3, rfl, h7⟩ := AnsP.slice h6
  have H7 := Lib.hid h7
  clear h6 h7
  go_wp2
  go_ret2
  exact AnsP.lift HB.out H7.out
end Go.Proofs.Yteenbobblbehoaa
