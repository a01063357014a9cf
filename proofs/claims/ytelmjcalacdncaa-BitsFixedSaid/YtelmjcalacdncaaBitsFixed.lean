/- BitsFixed: for all numbers and bytes the law returns true. Conditions: none. -/
import Derived.Test.YtelmjcalacdncaaKnown1
import Derived.Test.YtelmjcalacdncaaPut
namespace Go.Proofs.Ytelmjcalacdncaa
open Go Go.RowKit

theorem getF_short (l : List UInt8) (n : Nat) (h : l.length < n) : getF l n = (0, 2) := by unfold getF; rw [if_pos h]

set_option maxRecDepth 100000 in
set_option maxHeartbeats 1000000 in
theorem bitsFixed_walk (x : UInt32) (y : UInt64) (a : Option Addr) (c : Nat) (l : List UInt8) (w : World) (hr : Rd w a c (B8 l)) :
    Calls Try.prog 10 #[.int .u32 x.toNat, .int .u64 y.toNat, .slice a l.length c] w fun e w' => e = .returned (.bool true) ∧ Below w.heap.size w w' := by
  have hl := hr.le
  rw [B8_length] at hl
  by_cases hbig : 3000 < l.length
  · go_enter Try.func10, Try.ntmps10
    go_wp2
    go_ret
    exact ⟨rfl, Below.refl _ _⟩
  have hbd : decide ((3000 : Int) < (l.length : Int)) = false := by simp; omega
  obtain ⟨P, hP⟩ : ∃ P, P = putL 4 x.toNat := ⟨_, rfl⟩
  obtain ⟨Q, hQ⟩ : ∃ Q, Q = putL 8 y.toNat := ⟨_, rfl⟩
  have hp1 : getF (P ++ l) 4 = (x.toNat, 0) := by rw [hP]; exact getF_putL 4 _ _ (u32_lt x)
  have hq1 : getF (Q ++ l) 8 = (y.toNat, 0) := by rw [hQ]; exact getF_putL 8 _ _ (u64_lt y)
  have hPl : P.length = 4 := by rw [hP, putL_length]
  have hQl : Q.length = 8 := by rw [hQ, putL_length]
  have hp2 : getF (P.take 3) 4 = (0, 2) := getF_short _ _ (by rw [List.length_take]; omega)
  have hq2 : getF (Q.take 7) 8 = (0, 2) := getF_short _ _ (by rw [List.length_take]; omega)
  have HP := Lib.hid hP; clear hP
  have HQ := Lib.hid hQ; clear hQ
  have HP1 := Lib.hid hp1; clear hp1
  have HQ1 := Lib.hid hq1; clear hq1
  have HP2 := Lib.hid hp2; clear hp2
  have HQ2 := Lib.hid hq2; clear hq2
  have HPL := Lib.hid hPl; clear hPl
  have HQL := Lib.hid hQl; clear hQl
  go_enter Try.func10, Try.ntmps10
  go_wp2_with fail
  refine (put32_any x _).mono ?_
  rintro e w1 ⟨r1, rfl, ho1, hb1⟩
  rw [← HP.out] at ho1
  obtain ⟨g1, c1, rfl, hg1, _, hc1, _⟩ := own_pos ho1 (by omega)
  have rd1 := own_rd ho1
  have hr1 := hr.kept hb1
  clear ho1 hr
  go_wp2_with fail
  refine (put64_any y _).mono ?_
  rintro e w2 ⟨r2, rfl, ho2, hb2⟩
  rw [← HQ.out] at ho2
  obtain ⟨g2, c2, rfl, hg2, _, hc2, _⟩ := own_pos ho2 (by omega)
  have rd2 := own_rd ho2
  have rp2 := rd1.kept hb2
  have hr2 := hr1.kept hb2
  have hbb2 := hb1.trans (hb2.mono hb1.size)
  clear ho2 rd1 hr1 hb1 hb2 hg1 hg2
  go_wp2_with fail
  refine (refPut32_any x _).mono ?_
  rintro e w3 ⟨r3, rfl, ho3, hb3⟩
  rw [← HP.out] at ho3
  obtain ⟨a3, c3, rfl, rd3⟩ := Rd.ofOwn ho3
  have rp3 := rp2.kept hb3
  have rq3 := rd2.kept hb3
  have hr3 := hr2.kept hb3
  have hbb3 := hbb2.trans (hb3.mono hbb2.size)
  clear ho3 rp2 rd2 hr2 hb3 hbb2
  go_wp2_with fail
  rw [← HPL.out]
  refine (same_true _ _ _ _ _ P rp3 rd3).mono ?_
  rintro e w4 ⟨rfl, hq⟩
  rw [HPL.out]
  have rp4 := rp3.kept (hq.below _)
  have rq4 := rq3.kept (hq.below _)
  have hr4 := hr3.kept (hq.below _)
  have hbb4 := hbb3.trans (hq.below _)
  clear rp3 rq3 hr3 hbb3 rd3 hq
  go_wp2_with fail
  refine (refPut64_any y _).mono ?_
  rintro e w5 ⟨r5, rfl, ho5, hb5⟩
  rw [← HQ.out] at ho5
  obtain ⟨a5, c5, rfl, rd5⟩ := Rd.ofOwn ho5
  have rp5 := rp4.kept hb5
  have rq5 := rq4.kept hb5
  have hr5 := hr4.kept hb5
  have hbb5 := hbb4.trans (hb5.mono hbb4.size)
  clear ho5 rp4 rq4 hr4 hb5 hbb4
  go_wp2_with fail
  rw [← HQL.out]
  refine (same_true _ _ _ _ _ Q rq5 rd5).mono ?_
  rintro e w6 ⟨rfl, hq⟩
  rw [HQL.out]
  have rp6 := rp5.kept (hq.below _)
  have rq6 := rq5.kept (hq.below _)
  have hr6 := hr5.kept (hq.below _)
  have hbb6 := hbb5.trans (hq.below _)
  clear rp5 rq5 hr5 hbb5 rd5 hq
  go_wp2_with (with_reducible refine At.slot 39 ?_)
  refine At.out (wpList_app rfl (.tmp 37) (.tmp 38) 22 rfl elemB rfl w6.heap.size _ 0 [] rfl (own_empty w6 _) _ 4 c1 (B8 P) rfl (by rw [B8_length, HPL.out]) (rp6.kept ((Below.refl _ _).alloc (Nat.le_refl _) _)) (B8_one _) (by unfold maxLen; omega) (by omega) (by simp) ?_)
  intro v7 w7 ho7 hb7 _
  have hb7' := ((Below.refl w6.heap.size w6).alloc (Nat.le_refl _) _).trans hb7
  have hr7 := hr6.kept hb7'
  have hs7 := hb7'.size
  simp only [Nat.zero_add, List.nil_append] at ho7
  clear hb7
  go_wp2_with (with_reducible refine At.slot 41 ?_)
  refine At.out (wpList_app rfl (.tmp 39) (.tmp 40) 22 rfl elemB rfl w6.heap.size _ 4 _ rfl ho7 a l.length c (B8 l) rfl (B8_length l).symm hr7 (B8_one _) (by unfold maxLen; omega) (by omega) hs7 ?_)
  intro v8 w8 ho8 hb8 _
  have hb8' := hb7'.trans hb8
  rw [← B8_append, ← HPL.out, ← List.length_append] at ho8
  obtain ⟨a8, c8, rfl, rd8⟩ := Rd.ofOwn ho8
  have rp8 := rp6.kept hb8'
  have rq8 := rq6.kept hb8'
  have hr8 := hr6.kept hb8'
  have hbb8 := hbb6.trans (hb8'.mono hbb6.size)
  clear rp6 rq6 hr6 hr7 hs7 hb8 hb8' hb7' ho7 ho8 hbb6
  go_wp2_with fail
  rw [show P.length + l.length = (P ++ l).length by simp]
  refine (get32_any _ _ _ _ rd8).mono ?_
  rintro e w9 ⟨rfl, rfl⟩
  rw [HP1.out]
  unfold getV
  clear rd8
  go_wp2_with (with_reducible refine At.slot 48 ?_)
  refine At.out (wpList_app rfl (.tmp 46) (.tmp 47) 22 rfl elemB rfl w9.heap.size _ 0 [] rfl (own_empty w9 _) _ 8 c2 (B8 Q) rfl (by rw [B8_length, HQL.out]) (rq8.kept ((Below.refl _ _).alloc (Nat.le_refl _) _)) (B8_one _) (by unfold maxLen; omega) (by omega) (by simp) ?_)
  intro v7 w7 ho7 hb7 _
  have hb7' := ((Below.refl w9.heap.size w9).alloc (Nat.le_refl _) _).trans hb7
  have hr7 := hr8.kept hb7'
  have hs7 := hb7'.size
  simp only [Nat.zero_add, List.nil_append] at ho7
  clear hb7
  go_wp2_with (with_reducible refine At.slot 50 ?_)
  refine At.out (wpList_app rfl (.tmp 48) (.tmp 49) 22 rfl elemB rfl w9.heap.size _ 8 _ rfl ho7 a l.length c (B8 l) rfl (B8_length l).symm hr7 (B8_one _) (by unfold maxLen; omega) (by omega) hs7 ?_)
  intro v10 w10 ho10 hb10 _
  have hb10' := hb7'.trans hb10
  rw [← B8_append, ← HQL.out, ← List.length_append] at ho10
  obtain ⟨a10, c10, rfl, rd10⟩ := Rd.ofOwn ho10
  have rp10 := rp8.kept hb10'
  have rq10 := rq8.kept hb10'
  have hbb10 := hbb8.trans (hb10'.mono hbb8.size)
  clear rp8 rq8 hr8 hr7 hs7 hb10 hb10' hb7' ho7 ho10 hbb8
  go_wp2_with fail
  rw [show Q.length + l.length = (Q ++ l).length by simp]
  refine (get64_any _ _ _ _ rd10).mono ?_
  rintro e w11 ⟨rfl, rfl⟩
  rw [HQ1.out]
  unfold getV
  clear rd10
  have hc1' : (3 : Int) ≤ (c1 : Int) := by omega
  have hc2' : (7 : Int) ≤ (c2 : Int) := by omega
  have rp3 := rp10.take 3
  have e3 : (B8 P).take 3 = B8 (P.take 3) := by simp [B8, List.map_take]
  rw [e3] at rp3
  have rq7 := rq10.take 7
  have e7 : (B8 Q).take 7 = B8 (Q.take 7) := by simp [B8, List.map_take]
  rw [e7] at rq7
  clear e3 e7 rp10 rq10
  go_wp2_with fail
  have hl3 : (3 : Nat) = (P.take 3).length := by rw [List.length_take, HPL.out]; rfl
  have h32 := get32_any w11 _ _ _ rp3
  rw [← hl3] at h32
  clear hl3
  refine h32.mono ?_
  rintro e w12 ⟨rfl, rfl⟩
  rw [HP2.out]
  unfold getV
  clear h32
  go_wp2_with fail
  have hl7 : (7 : Nat) = (Q.take 7).length := by rw [List.length_take, HQL.out]; rfl
  have h64 := get64_any w12 _ _ _ rq7
  rw [← hl7] at h64
  clear hl7
  refine h64.mono ?_
  rintro e w13 ⟨rfl, rfl⟩
  rw [HQ2.out]
  unfold getV
  clear h64 rp3 rq7
  go_wp2_with fail
  refine (known_any _).mono ?_
  rintro e w14 ⟨rfl, hb14⟩
  go_wp2
  go_ret
  exact ⟨rfl, hbb10.trans (hb14.mono hbb10.size)⟩
end Go.Proofs.Ytelmjcalacdncaa
