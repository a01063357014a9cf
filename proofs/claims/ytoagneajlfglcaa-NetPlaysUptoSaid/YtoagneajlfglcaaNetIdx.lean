/- Drop's own test, and slices.IndexFunc with it: the contracts. Conditions: each contract's own premises. -/
import Derived.Test.YtoagneajlfglcaaNetRefDr
namespace Go.Proofs.Ytoagneajlfglcaa
open Go Go.RowKit

/-- The closure's value: the node lies in the box b. -/
def delV (b : Nat) : Value := .func (.func 27) #[] #[.pointer (some ⟨b, 0, none⟩)]

set_option maxRecDepth 100000 in
set_option maxHeartbeats 2000000 in
theorem delFn_any (w : World) (b : Nat) (z fr tz : Int) (x2 x3 x4 : Value) (h : w.cell? ⟨b, 0, none⟩ = some (.int .i64 z)) (hb : b < w.heap.size) :
    Calls Try.prog 27 #[.agg #[.int .i64 fr, .int .i64 tz, x2, x3, x4], .pointer (some ⟨b, 0, none⟩)] w fun e w' => e = .returned (.bool (!((fr != z) && (tz != z)))) ∧ Below w.heap.size w w' := by
  obtain ⟨W0, hW0⟩ : ∃ W0, W0 = w.alloc (.cells #[.int .i64 fr, .int .i64 tz, x2, x3, x4] 31) := ⟨_, rfl⟩
  have hb0 : Below w.heap.size w W0 := by rw [hW0]; exact (Below.refl _ _).alloc (Nat.le_refl _) _
  have hZ : BlkV W0 w.heap.size 31 #[.int .i64 fr, .int .i64 tz, x2, x3, x4] := by rw [hW0]; exact BlkV.new w _ _
  obtain ⟨K, hK⟩ : ∃ K, K = w.heap.size := ⟨_, rfl⟩
  have k0 := hZ.cell 0
  have k1 := hZ.cell 1
  simp only [List.getElem?_toArray, List.getElem?_cons_succ, List.getElem?_cons_zero] at k0 k1
  have hz := (hb0.cell (p := ⟨b, 0, none⟩) hb).trans h
  rw [← hK] at k0 k1
  have HW0 := Lib.hid hW0
  have HK := Lib.hid hK
  have HB0 := Lib.hid hb0
  clear hW0 hK hb0 hZ h
  by_cases e1 : fr = z
  · have b1 : (fr == z) = true := by simpa using e1
    have hr : (!((fr != z) && (tz != z))) = true := by simp [e1]
    rw [hr]
    clear e1 hr
    go_enter Try.func27, Try.ntmps27
    go_upto_region 1 with (fail)
    rw [← HW0.out, ← HK.out]
    go_wp2
    go_ret
    exact ⟨rfl, HB0.out⟩
  · have b1 : (fr == z) = false := by simpa using e1
    by_cases e2 : tz = z
    · have b2 : (tz == z) = true := by simpa using e2
      have hr : (!((fr != z) && (tz != z))) = true := by simp [e2]
      rw [hr]
      clear e1 e2 hr
      go_enter Try.func27, Try.ntmps27
      go_upto_region 1 with (fail)
      rw [← HW0.out, ← HK.out]
      go_wp2
      go_ret
      exact ⟨rfl, HB0.out⟩
    · have b2 : (tz == z) = false := by simpa using e2
      have hr : (!((fr != z) && (tz != z))) = false := by simp [e1, e2]
      rw [hr]
      clear e1 e2 hr
      go_enter Try.func27, Try.ntmps27
      go_upto_region 1 with (fail)
      rw [← HW0.out, ← HK.out]
      go_wp2
      go_ret
      exact ⟨rfl, HB0.out⟩

/-- The first message that goes; all of them, if none does. -/
def firstGone (z : Int) : List Ms → Nat
  | [] => 0
  | M :: L => if stays z M = true then firstGone z L + 1 else 0
theorem firstGone_le (z : Int) : ∀ L : List Ms, firstGone z L ≤ L.length
  | [] => Nat.le_refl _
  | M :: L => by
    unfold firstGone
    have := firstGone_le z L
    split <;> simp <;> omega
theorem firstGone_lt {z : Int} : ∀ {L : List Ms} {k : Nat} {M : Ms}, k < firstGone z L → L[k]? = some M → stays z M = true
  | N :: L, 0, M, h, hM => by
    unfold firstGone at h
    split at h
    · simp at hM; subst hM; assumption
    · omega
  | N :: L, k + 1, M, h, hM => by
    unfold firstGone at h
    split at h
    · exact firstGone_lt (L := L) (k := k) (by omega) (by simpa using hM)
    · omega
theorem firstGone_at {z : Int} : ∀ {L : List Ms} {M : Ms}, L[firstGone z L]? = some M → stays z M = false
  | [], M, h => by simp at h
  | N :: L, M, h => by
    unfold firstGone at h
    split at h
    · exact firstGone_at (by simpa using h)
    · simp at h; subst h; simp_all

set_option maxRecDepth 100000 in
set_option maxHeartbeats 4000000 in
theorem indexFn_any (w : World) (L : List Ms) (a : Option Addr) (n c : Nat) (xs : List Value) (hn : n = L.length) (hL : n ≤ 4096) (h2 : w.ownsRow 0 31 5 (.slice a n c) n xs) (h3 : RowR w xs L) (b : Nat) (z : Int) (h : w.cell? ⟨b, 0, none⟩ = some (.int .i64 z)) (hb : b < w.heap.size) :
    Calls Try.prog 30 #[.slice a n c, delV b] w fun e w' => e = .returned (.int .i64 (if firstGone z L < n then (firstGone z L : Int) else -1)) ∧ Below w.heap.size w w' := by
  have hxl : xs.length = n * 5 := by have := h2.1; omega
  have hmsg : ∀ (k : Nat) (W : World) (hk : k < n), Below w.heap.size w W → ∃ G M an cn ad cd, a = some ⟨G, 0, none⟩ ∧ L[k]? = some M ∧ ∀ j, j < 5 → W.cell? ⟨G, k * 5 + j, none⟩ = [Value.int .i64 M.fr, .int .i64 M.to, .int .i64 M.kd, .slice an M.nums.length cn, .slice ad M.data.length cd][j]? := by
    intro k W hk hb
    have hkl : k < L.length := by omega
    obtain ⟨an, cn, ad, cd, hx, t1, t2⟩ := h3.get k hkl
    obtain ⟨G, cap, he, q1, q2, _⟩ := own_pos h2 (by omega)
    cases he
    refine ⟨G, L[k], an, cn, ad, cd, rfl, List.getElem?_eq_getElem hkl, fun j hj => ?_⟩
    rw [hb.cell (p := ⟨G, k * 5 + j, none⟩) q2, ← hx, List.getElem?_take, if_pos hj, List.getElem?_drop]
    have hlt : k * 5 + j < xs.length := by omega
    have := h2.cells (g := G) rfl (k * 5 + j) xs[k * 5 + j] (List.getElem?_eq_getElem hlt)
    rw [Addr.add_lit, Nat.zero_add] at this
    rw [this, List.getElem?_eq_getElem hlt]
  have hdel := fun (W : World) (fr tz : Int) (x2 x3 x4 : Value) (hW : Below w.heap.size w W) => delFn_any W b z fr tz x2 x3 x4 ((hW.cell (p := ⟨b, 0, none⟩) hb).trans h) (Nat.lt_of_lt_of_le hb hW.size)
  obtain ⟨r, hr⟩ : ∃ r : Int, r = (if firstGone z L < n then (firstGone z L : Int) else -1) := ⟨_, rfl⟩
  rw [← hr]
  have hle := firstGone_le z L
  rw [← hn] at hle
  obtain ⟨q, hq⟩ : ∃ q, q = firstGone z L := ⟨_, rfl⟩
  rw [← hq] at hr hle
  have HMSG := Lib.hid hmsg
  have HDEL := Lib.hid hdel
  have HR := Lib.hid hr
  have HQ := Lib.hid hq
  have HN := Lib.hid hn
  clear hmsg hdel hr hq h2 h3 h hn hxl hb
  unfold delV
  go_enter Try.func30, Try.ntmps30
  go_wp2
  go_loopw [8] (fun s8 wr => ∃ k : Nat, k ≤ q ∧ s8 = .int .i64 k ∧ Hid (Below w.heap.size w wr)) (fun s8 _ => n - (intOf s8).toNat)
  case atStart => exact ⟨0, by omega, rfl, Below.refl _ _⟩
  case round =>
    obtain ⟨k, hk, rfl, hb⟩ := hrel
    by_cases hlt : k < n
    · have hki : (k : Int) < (n : Int) := by omega
      obtain ⟨G, M, an, cn, ad, cd, rfl, hM, hcell⟩ := HMSG.out k wr hlt hb.out
      have q0 := hcell 0 (by omega)
      have q1 := hcell 1 (by omega)
      have q2 := hcell 2 (by omega)
      have q3 := hcell 3 (by omega)
      have q4 := hcell 4 (by omega)
      simp only [List.getElem?_cons_succ, List.getElem?_cons_zero, Nat.add_zero] at q0 q1 q2 q3 q4
      have HM := Lib.hid hM
      clear hcell hM
      go_wp2_with fail
      refine (HDEL.out wr _ _ _ _ _ hb.out).mono ?_
      rintro e w1 ⟨rfl, hb1⟩
      obtain ⟨s, hs⟩ : ∃ s, s = ((M.fr != z) && (M.to != z)) := ⟨_, rfl⟩
      rw [← hs]
      have hs' : stays z M = s := by rw [hs]; rfl
      have HBW := Lib.hid (hb.out.trans (hb1.mono hb.out.size))
      have HS := Lib.hid hs'
      clear hs hs' hb1 hb q0 q1 q2 q3 q4
      cases s with
      | true =>
        have hkq : k + 1 ≤ q := by
          by_cases e : k = q
          · have h1 := HM.out
            rw [e, HQ.out] at h1
            have := firstGone_at h1
            rw [HS.out] at this
            cases this
          · omega
        go_wp2
        go_roundw
        case rel => exact ⟨k + 1, hkq, by go_num, HBW⟩
        case measure => simp [intOf]; omega
      | false =>
        have hkq : k = q := by
          by_cases e : k < q
          · have h1 := e
            rw [HQ.out] at h1
            have := firstGone_lt h1 HM.out
            rw [HS.out] at this
            cases this
          · omega
        have HKQ := Lib.hid hkq
        clear hkq
        go_wp2
        go_ret
        refine ⟨ret_int ?_, HBW.out⟩
        rw [HR.out, if_pos (by have := HKQ.out; omega), HKQ.out]
    · have hki : ¬ (k : Int) < (n : Int) := by omega
      go_wp2
      go_ret
      refine ⟨ret_int ?_, hb.out⟩
      rw [HR.out, if_neg (by omega)]
end Go.Proofs.Ytoagneajlfglcaa
