/- The law's applies: the contract. fsm's Volumes: the nodes that come are the call's own. The law's volumes, of one each: the contract. FsmPlays: for every script the law returns true. An argument of steps, opened, and its reach. Conditions: each law's own premises. -/
import Derived.Test.YteenbobblbehoaaRfSums
import Derived.Test.YteenbobblbehoaaStanding
import Derived.Test.YteenbobblbehoaaRfTab
import Derived.Deep.Cut
import Derived.Deep.CutRange
import Derived.Deep.Slices
import Derived.Deep.Matrix
import Derived.ProofKit
import Derived.OpenShut
import Derived.SizedLaws
namespace Go.Proofs.Yteenbobblbehoaa
open Go Go.RowKit

set_option maxHeartbeats 400000 in
/-- roomy: what it gives is the call's own. -/
theorem roomyO_any (w : World) (a : Option Addr) (c : Nat) (l : List UInt8) (hr : Rd w a c (B8 l)) (hl : l.length ≤ 1000000) :
    Calls Try.prog 38 #[.slice a l.length c] w fun e w' => ∃ g cap, e = .returned (.slice (some ⟨g, 0, none⟩) (l.length + 1) cap) ∧
      l.length + 1 ≤ cap ∧ w'.ownsRow w.heap.size 5 1 (.slice (some ⟨g, 0, none⟩) (l.length + 1) cap) (l.length + 1) (B8 (l ++ [171])) ∧ Below w.heap.size w w' := by
  go_enter Try.func38, Try.ntmps38
  have hml : maxLen = 9223372036854775807 := by unfold maxLen; rfl
  go_wp2_with (at_builtin; refine At.mk ?_)
  refine At.out (wpList_app rfl (.tmp 3) (.tmp 4) 31 rfl elemB rfl w.heap.size _ 0 [] rfl (own_empty w _) a l.length c (B8 l) rfl (B8_length l).symm (hr.kept ((Below.refl _ _).alloc (Nat.le_refl _) _)) (B8_one _) (by omega) (by omega) (by simp) ?_)
  intro v1 w1 ho1 hb1 _
  have hs1 : w.heap.size ≤ w1.heap.size := by have := hb1.size; simp at this; omega
  go_wp2_with (at_builtin; refine At.mk ?_)
  refine At.out (wpList_app rfl (.tmp 5) (.tmp 6) 31 rfl elemB rfl w.heap.size v1 _ _ rfl (ho1.alloc _) _ 1 1 [.int .u8 171] rfl rfl (Rd.one _ _ _) (one_int _ _) (by omega) (by omega) (by simp; omega) ?_)
  intro v2 w2 ho2 hb2 _
  have hs2 : w.heap.size ≤ w2.heap.size := by have := hb2.size; simp at this; omega
  go_wp2_with (at_builtin; refine At.mk ?_)
  refine At.out (wpList_app rfl (.tmp 7) (.tmp 8) 31 rfl elemB rfl w.heap.size v2 _ _ rfl (ho2.alloc _) _ 1 1 [.int .u8 171] rfl rfl (Rd.one _ _ _) (one_int _ _) (by omega) (by omega) (by simp; omega) ?_)
  intro v3 w3 ho3 hb3 _
  obtain ⟨g, cap, rfl, hg1, hg2, hg3, hg4⟩ := own_pos ho3 (by omega)
  go_wp2
  go_ret
  have ht := own_take ho3 (l.length + 1) (by omega)
  refine ⟨g, cap, rfl, by omega, ?_, ?_⟩
  · have e : (([] ++ B8 l ++ [Value.int .u8 171]) ++ [Value.int .u8 171]).take (l.length + 1) = B8 (l ++ [171]) := by
      rw [List.nil_append, B8_append, List.append_assoc, List.take_append, B8_length, List.take_of_length_le (by rw [B8_length]; omega)]
      simp [B8]
    rw [e] at ht
    exact ht
  · exact (((((Below.refl _ _).alloc (Nat.le_refl _) _).trans hb1).alloc hs1 _).trans hb2 |>.alloc hs2 _).trans hb3

/-- What reads lies in no table. -/
def Clear (wx : World) (Fn Fw : Nat → Prop) (a : Option Addr) (xs : List Value) : Prop := ∀ b o, xs ≠ [] → a = some ⟨b, o, none⟩ → ¬ Fn b ∧ ¬ Fw b ∧ b < wx.heap.size

set_option maxRecDepth 100000 in
set_option maxHeartbeats 8000000 in
theorem applies_any (w wr : World) (Fn Fw : Nat → Prop) (t g : Nat) (L : List Vl) (hT : Tabs w wr Fn Fw (fun _ => False) t g L L) (hok : OkA L) (kd : Int) (an : Option Addr) (cn : Nat) (nums : List Int) (ar : Option Addr) (cr : Nat) (raw : List UInt8)
    (hrn : Rd w an cn (BI nums)) (hbn : ∀ n ∈ nums, -9223372036854775808 ≤ n ∧ n ≤ 9223372036854775807) (hrr : Rd w ar cr (B8 raw)) (hrl : raw.length ≤ 4000) :
    Calls Try.prog 18 #[ptrV t, .pointer (some ⟨g, 0, none⟩), .agg #[.int .i64 kd, .slice an nums.length cn, .slice ar raw.length cr]] wr fun e w' => e = .returned (.bool true) ∧ ∃ L' Fn' Fw', Tabs w w' Fn' Fw' (fun _ => False) t g L' L' ∧ OkA L' := by
  obtain ⟨K5, hK5⟩ : ∃ K5, K5 = wr.heap.size := ⟨_, rfl⟩
  obtain ⟨nn, hnn⟩ : ∃ nn, nn = nums.length := ⟨_, rfl⟩
  obtain ⟨m, hm⟩ : ∃ m, m = raw.length := ⟨_, rfl⟩
  obtain ⟨W1, hW1⟩ : ∃ W1, W1 = wr.alloc (.cells #[.int .i64 kd, .slice an nn cn, .slice ar m cr] 33) := ⟨_, rfl⟩
  have hbA : Below wr.heap.size wr W1 := by rw [hW1]; exact (Below.refl _ _).alloc (Nat.le_refl _) _
  have hP5 : BlkV W1 K5 33 #[.int .i64 kd, .slice an nn cn, .slice ar m cr] := by rw [hW1, hK5]; exact BlkV.new wr _ _
  have HT1 := Lib.hid (hT.still hbA)
  have HOK := Lib.hid hok
  have HRN := Lib.hid hrn
  have HBN := Lib.hid hbn
  have HRR := Lib.hid hrr
  have HM := Lib.hid hm
  have HNN := Lib.hid hnn
  have HW1 := Lib.hid hW1
  have HK5 := Lib.hid hK5
  have HP5 := Lib.hid hP5
  have k0 := hP5.cell 0
  have k1 := hP5.cell 1
  have k2 := hP5.cell 2
  have kz := hP5.lt
  simp only [List.getElem?_toArray, List.getElem?_cons_succ, List.getElem?_cons_zero] at k0 k1 k2
  rw [← hnn, ← hm]
  clear hT hok hrn hbn hrr hW1 hK5 hP5 hbA hnn hm
  unfold ptrV
  go_enter Try.func18, Try.ntmps18
  go_upto_region 1 with (fail)
  rw [← HW1.out, ← HK5.out]
  go_upto_region 2 with (fail)
  go_upto_if 23 with (fail)
  go_cut [7] from 23 to 51 (fun s7 wx => ∃ (ab : Option Addr) (cb : Nat) (l : List UInt8), s7 = .slice ab l.length cb ∧ Hid (l.length ≤ 100000) ∧ Hid (Tabs w wx Fn Fw (fun _ => False) t g L L) ∧ Hid (Rd wx ab cb (B8 l)) ∧ Hid (Clear wx Fn Fw ab (B8 l)))
  case first =>
    by_cases hm0 : m = 0
    · have e0 : ((m : Int) == 0) = true := by rw [hm0]; rfl
      have hcm := command_any W1 kd an cn nums (HRN.out.kept HT1.out.bel) HBN.out
      have hrc := fun (W : World) (hb : Below w.heap.size w W) => rCommand_any W kd an cn nums (HRN.out.kept hb) HBN.out
      obtain ⟨X, hX⟩ : ∃ X, X = cmdL kd nums := ⟨_, rfl⟩
      have hXl : X.1.length ≤ 100000 := by rw [hX]; exact cmdL_len
      rw [← hX, ← HNN.out] at hcm
      simp only [← hX, ← HNN.out] at hrc
      have HCM := Lib.hid hcm
      have HRC := Lib.hid hrc
      have HXL := Lib.hid hXl
      clear hcm hrc hXl hX hm0
      go_wp2_with fail
      refine HCM.out.mono ?_
      rintro e w2 ⟨a2, c2, rfl, hr2, hb2⟩
      have hT2 := HT1.out.still hb2
      have hP2 := HP5.out.below hb2
      have i0 := hP2.cell 0
      have i1 := hP2.cell 1
      have iz := hP2.lt
      simp only [List.getElem?_toArray, List.getElem?_cons_succ, List.getElem?_cons_zero] at i0 i1
      have HT2 := Lib.hid hT2
      have HR2 := Lib.hid hr2
      clear hT2 hP2 hr2 hb2 k0 k1 k2
      go_wp2_with fail
      refine (HRC.out w2 HT2.out.bel).mono ?_
      rintro e w3 ⟨a3, c3, rfl, ho3, hb3⟩
      have hT3 := HT2.out.still hb3
      obtain ⟨a3', c3', he3, hr3⟩ := Rd.ofOwn ho3
      cases he3
      have hsm := same_any w3 a2 a3 c2 c3 X.1 X.1 (HR2.out.kept hb3) hr3
      have hcl : Clear w3 Fn Fw a3 (B8 X.1) := by
        intro b o hx ha
        have hne : 0 < X.1.length := by
          rcases Nat.eq_zero_or_pos X.1.length with h0 | h0
          · exact absurd (by rw [List.length_eq_zero_iff.1 h0]; rfl) hx
          · exact h0
        obtain ⟨G, cap, he, q1, q2, _⟩ := own_pos ho3 hne
        cases he
        cases ha
        exact ⟨fun h => by have := HT2.out.nl b h; omega, fun h => by have := HT2.out.r.lt b h; omega, q2⟩
      have hxx : (X.1 == X.1) = true := by simp
      rw [hxx] at hsm
      have hex : ((X.2 : Int) != (X.2 : Int)) = false := by simp
      have HSM := Lib.hid hsm
      have HCL := Lib.hid hcl
      have HT3 := Lib.hid hT3
      have HR3 := Lib.hid hr3
      clear hsm hcl hT3 hr3 ho3 hb3 hxx i0 i1
      go_wp2_with fail
      refine HSM.out.mono ?_
      rintro e w4 ⟨rfl, hq4⟩
      have hb4 := hq4.below w3.heap.size
      have hT4 := HT3.out.still hb4
      have hr4 := HR3.out.kept hb4
      have hcl4 : Clear w4 Fn Fw a3 (B8 X.1) := fun b o hx ha => ⟨(HCL.out b o hx ha).1, (HCL.out b o hx ha).2.1, by have := (HCL.out b o hx ha).2.2; have := hb4.size; omega⟩
      have HT4 := Lib.hid hT4
      have HR4 := Lib.hid hr4
      have HCL4 := Lib.hid hcl4
      clear hT4 hr4 hcl4 hb4 hq4 HSM HCL HT3 HR3
      by_cases hx0 : X.2 = 0
      · have e1 : ((X.2 : Int) != 0) = false := by rw [hx0]; rfl
        clear hx0
        go_wp2_with fail
        go_meet
        exact ⟨a3, c3, X.1, rfl, HXL.out, HT4.out, HR4.out, HCL4.out⟩
      · have e1 : ((X.2 : Int) != 0) = true := by rw [bne_iff_ne]; omega
        clear hx0
        go_wp2
        go_ret
        exact ⟨rfl, L, Fn, Fw, HT4.out, HOK.out⟩
    · have e0 : ((m : Int) == 0) = false := by rw [beq_eq_false_iff_ne]; omega
      have hr1 := HRR.out.kept HT1.out.bel
      have hcl : Clear W1 Fn Fw ar (B8 raw) := by
        intro b o hx ha
        have hb : b < w.heap.size := by
          have hr0 := HRR.out
          have hpos : 0 < raw.length := by have := HM.out; omega
          obtain ⟨b', o', he, u⟩ := hr0.cs.b8 0 hpos
          rw [ha] at he
          cases he
          unfold World.cell? at u
          by_cases hb' : b < w.heap.size
          · exact hb'
          · rw [Array.getElem?_eq_none (by simpa using hb')] at u
            simp at u
        exact ⟨fun h => by have := HT1.out.hn b h; omega, fun h => by have := HT1.out.hw b h; omega, by have := HT1.out.bel.size; omega⟩
      have HR1 := Lib.hid hr1
      have HCL := Lib.hid hcl
      have HRL := Lib.hid (show raw.length ≤ 100000 by omega)
      clear hr1 hcl hm0
      go_wp2_with fail
      go_meet
      exact ⟨ar, cr, raw, by rw [HM.out], HRL.out, HT1.out, HR1.out, HCL.out⟩
  case rest =>
  obtain ⟨ab, cb, l, rfl, hll, hT2, hR2, hC2⟩ := hcut
  obtain ⟨W2, hW2⟩ : ∃ W2, W2 = wc := ⟨_, rfl⟩
  subst hW2
  obtain ⟨n, hn⟩ : ∃ n, n = l.length := ⟨_, rfl⟩
  have hro := roomyO_any W2 ab cb l hR2.out (by have := hll.out; omega)
  have hn6 : n ≤ 100000 := by rw [hn]; exact hll.out
  rw [← hn] at hro ⊢
  have HRO := Lib.hid hro
  have HN := Lib.hid hn
  clear hro hn k0 k1 k2
  go_wp2_with fail
  refine HRO.out.mono ?_
  rintro e w3 ⟨G, cap, rfl, hcap, ho3, hb3⟩
  have hT3 := hT2.out.still hb3
  have hGn : ¬ Fn G := fun h => by have := hT2.out.nl G h; have := (ho3.lt G rfl).1; omega
  have hGw : ¬ Fw G := fun h => by have := hT2.out.r.lt G h; have := (ho3.lt G rfl).1; omega
  have hR3 := hR2.out.kept hb3
  have hC3 : Clear w3 Fn Fw ab (B8 l) := fun b o hx ha => ⟨(hC2.out b o hx ha).1, (hC2.out b o hx ha).2.1, by have := (hC2.out b o hx ha).2.2; have := hb3.size; omega⟩
  obtain ⟨a3', c3', he3, hr3⟩ := Rd.ofOwn ho3
  cases he3
  have hap := apply_any w3 Fn t L hT3.n HOK.out.1 (some ⟨G, 0, none⟩) cap l hr3.pre
  unfold ptrV at hap
  rw [← HN.out] at hap
  obtain ⟨X, hX⟩ : ∃ X, X = applyL L l := ⟨_, rfl⟩
  rw [← hX] at hap
  have HX := Lib.hid hX
  have HAP := Lib.hid hap
  have HT3 := Lib.hid hT3
  have HR3 := Lib.hid hR3
  have HC3 := Lib.hid hC3
  have HO3 := Lib.hid ho3
  have hcap2 : (n : Int) ≤ (cap : Int) := by omega
  have hcap3 : n ≤ cap := by omega
  clear hX hap hT3 hR3 hC3 ho3 hr3 hb3 hT2 hR2 hC2 HRO
  go_wp2_with fail
  refine HAP.out.mono ?_
  rintro e w4 ⟨a4, c4, rfl, ho4, ht4, hof4⟩
  have hT4 := HT3.out.opN ht4 hof4
  have hO4 := own_off HO3.out hof4 fun k hk => by cases hk; exact hGn
  have hR4 := HR3.out.offB hof4 fun b o hx ha => (HC3.out b o hx ha).1
  have hra := rApply_any w4 Fw g L hT4.r HOK.out.1 HOK.out.2.1 HOK.out.2.2 ab cb l hR4
  rw [← HN.out, ← HX.out] at hra
  have HRA := Lib.hid hra
  have HT4 := Lib.hid hT4
  have HO4 := Lib.hid hO4
  have HR4 := Lib.hid hR4
  have HA4 := Lib.hid ho4
  have hGs : G < w3.heap.size := (HO3.out.lt G rfl).2
  clear hra hT4 hO4 hR4 ho4 ht4 hof4 HAP
  go_wp2_with fail
  refine HRA.out.mono ?_
  rintro e w5 ⟨a5, c5, rfl, hr5, ht5, hof5⟩
  have hT5 := HT4.out.opW ht5 hof5
  have hO5 := own_off HO4.out hof5 fun k hk => by cases hk; exact hGw
  have hG4 : G < w4.heap.size := (HO4.out.lt G rfl).2
  have hA5 := own_off HA4.out hof5 fun k hk h => by
    obtain ⟨g9, c9, he, q1, q2, _⟩ : ∃ g9 c9, Value.slice a4 X.1.1.length c4 = .slice (some ⟨g9, 0, none⟩) X.1.1.length c9 ∧ w3.heap.size ≤ g9 ∧ g9 < w4.heap.size ∧ True := by
      rcases HA4.out.2 with ⟨hv, _⟩ | ⟨g9, cap9, cur, hv, q1, hh, _⟩
      · simp only [Value.slice.injEq] at hv
        rw [hv.1] at hk
        simp [Value.ownBlock] at hk
      · exact ⟨g9, cap9, hv, q1, (Array.getElem?_eq_some_iff.1 hh).1, trivial⟩
    cases he
    cases hk
    exact HT4.out.dw g9 (.inr ⟨q1, q2, 0, rfl⟩) h
  have hR5 := HR4.out.offB hof5 fun b o hx ha => (HC3.out b o hx ha).2.1
  obtain ⟨a5', c5', he5, hra5⟩ := Rd.ofOwn hA5
  cases he5
  have hin := ints_any w5 a4 a5 c4 c5 X.1.1 X.1.1 hra5 hr5
  rw [decide_eq_true rfl] at hin
  obtain ⟨q, hq⟩ : ∃ q, q = X.1.1.length := ⟨_, rfl⟩
  obtain ⟨z, hz⟩ : ∃ z, z = X.1.2 := ⟨_, rfl⟩
  rw [← hq] at hin hA5
  rw [← hz, ← hq]
  have HIN := Lib.hid hin
  have HT5 := Lib.hid hT5
  have HO5 := Lib.hid hO5
  have HA5 := Lib.hid hA5
  have HR5 := Lib.hid hR5
  have hzz : ((z : Int) == (z : Int)) = true := by simp
  have hq8 : q ≤ 9223372036854775807 := by have := hra5.le; rw [BI_length, ← hq] at this; exact this
  have HD4 : Hid (∀ k, (Value.slice a4 q c4).ownBlock = some k → (False ∨ (w3.heap.size ≤ k ∧ k < w4.heap.size ∧ ∃ o, a4 = some ⟨k, o, none⟩))) := Lib.hid fun k hk => by
    rcases HA4.out.2 with ⟨hv, _⟩ | ⟨g9, cap9, cur, hv, q1, hh, _⟩
    · simp only [Value.slice.injEq] at hv
      rw [hv.1] at hk
      simp [Value.ownBlock] at hk
    · simp only [Value.slice.injEq] at hv
      rw [hv.1] at hk ⊢
      cases hk
      exact .inr ⟨q1, (Array.getElem?_eq_some_iff.1 hh).1, 0, rfl⟩
  clear hin hT5 hO5 hA5 hR5 hra5 hr5 ht5 hof5 HRA HA4 HT4 HO4 HR4 hq hz
  go_wp2_with fail
  refine HIN.out.mono ?_
  rintro e w6 ⟨rfl, hq6⟩
  have hb6 := hq6.below w5.heap.size
  have hO6 := own_below HO5.out hb6
  obtain ⟨a6', c6', he6, hr6⟩ := Rd.ofOwn hO6
  cases he6
  have hst := stands_any w6 G cap ab cb l hr6 (HR5.out.kept hb6)
  rw [← HN.out] at hst
  have HST := Lib.hid hst
  have HT6 := Lib.hid (HT5.out.still hb6)
  have HA6 := Lib.hid (own_below HA5.out hb6)
  clear hst hr6 hO6 hb6 hq6 HIN HT5 HO5 HA5 HR5
  go_wp2_with fail
  refine HST.out.mono ?_
  rintro e w7 ⟨rfl, hq7⟩
  have hb7 := hq7.below w6.heap.size
  have HT7 := Lib.hid (HT6.out.still hb7)
  have HA7 := Lib.hid (own_below HA6.out hb7)
  have HOX := Lib.hid (show OkA X.2 by rw [HX.out]; exact applyL_ok HOK.out l)
  clear hb7 hq7 HST HT6 HA6
  go_wp2
  go_loopw [18] (fun s18 wx => ∃ (j : Nat) (ys : List Value) (Fn' Fw' D' : Nat → Prop), j ≤ q ∧ s18 = .int .i64 j ∧ Hid (wx.ownsRow w3.heap.size 3 1 (.slice a4 q c4) q ys) ∧ Hid (Tabs w wx Fn' Fw' D' t g X.2 X.2) ∧ Hid (∀ k, (Value.slice a4 q c4).ownBlock = some k → D' k)) (fun s18 _ => q - (intOf s18).toNat)
  case atStart => exact ⟨0, _, _, _, _, by omega, rfl, HA7, HT7, HD4⟩
  case round =>
    obtain ⟨j, ys, Fn', Fw', D', hj, rfl, ho, hT, hD⟩ := hrel
    by_cases hjq : j < q
    · have hji : (j : Int) < (q : Int) := by omega
      obtain ⟨g9, cap9, he, _, hg2, _, _⟩ := own_pos ho.out (by omega)
      cases he
      have ho' := ho.out
      have hlen : ys.length = q := by simpa using ho'.1
      obtain ⟨u, hcell⟩ : ∃ u, wr.cell? ⟨g9, j, none⟩ = some u := ⟨ys[j], by rw [ho'.cellAt j (by omega), List.getElem?_eq_getElem (by omega)]⟩
      have hfr := ho'.frozenAt j
      have HS := Lib.hid (ho'.stored j (.int .i64 (-77))).1
      have HTX := Lib.hid (hT.out.offD (Off.setCell (F := D') (p := ⟨g9, j, none⟩) (hD.out g9 rfl) (.int .i64 (-77))) fun x hx => hx)
      clear ho' hlen
      go_wp2
      go_roundw
      case rel => exact ⟨j + 1, _, Fn', Fw', D', by omega, by go_num, HS, HTX, hD⟩
      case measure => simp [intOf]; omega
    · have hji : ¬ (j : Int) < (q : Int) := by omega
      go_wp2
      go_ret
      first
        | exact ⟨rfl, X.2, Fn', Fw', hT.out.forget, HOX.out⟩
        | exact ⟨rfl, X.2, ⟨Fn', Fw', hT.out.forget⟩, HOX.out⟩
end Go.Proofs.Yteenbobblbehoaa

namespace Go.Proofs.Yteenbobblbehoaa
open Go Go.RowKit

/-- Volumes, one behind the other, each with nodes of its own. -/
def VsO (w : World) (B : Nat) : Nat → List Value → List Vl → Prop
  | _, xs, [] => xs = []
  | i, xs, V :: L => ∃ a c r, xs = (volC i V a V.nodes.length c).toList ++ r ∧ w.ownsRow B 3 1 (.slice a V.nodes.length c) V.nodes.length (BI V.nodes) ∧ VsO w B (i + 1) r L
theorem VsO.map {w w' : World} {B : Nat} (hm : ∀ a c n xs, w.ownsRow B 3 1 (.slice a n c) n xs → w'.ownsRow B 3 1 (.slice a n c) n xs) : ∀ {L : List Vl} {i : Nat} {xs : List Value}, VsO w B i xs L → VsO w' B i xs L
  | [], _, _, h => h
  | _ :: _, _, _, h => by
    obtain ⟨a, c, r, rfl, h1, h2⟩ := h
    exact ⟨a, c, r, rfl, hm _ _ _ _ h1, VsO.map hm h2⟩
theorem VsO.snoc {w : World} {B : Nat} {V : Vl} {a : Option Addr} {c : Nat} (hx : w.ownsRow B 3 1 (.slice a V.nodes.length c) V.nodes.length (BI V.nodes)) : ∀ {L : List Vl} {i : Nat} {xs : List Value}, VsO w B i xs L → VsO w B i (xs ++ (volC (i + L.length) V a V.nodes.length c).toList) (L ++ [V])
  | [], i, xs, h => by
    rw [show xs = [] from h]
    exact ⟨a, c, [], by simp, hx, rfl⟩
  | N :: L, i, xs, h => by
    obtain ⟨a', c', r, rfl, h1, h2⟩ := h
    have := VsO.snoc hx h2
    refine ⟨a', c', _, by rw [List.append_assoc], h1, ?_⟩
    rw [List.length_cons, show i + (L.length + 1) = i + 1 + L.length by omega]
    exact this
theorem VsO.toR {w : World} {B : Nat} : ∀ {L : List Vl} {i : Nat} {xs : List Value}, VsO w B i xs L → VsR w B i xs L
  | [], _, _, h => h
  | _ :: _, _, _, h => by
    obtain ⟨a, c, r, rfl, h1, h2⟩ := h
    obtain ⟨a', c', he, ht⟩ := TRd.ofOwn h1
    cases he
    refine ⟨a, c, r, rfl, ⟨ht, fun b o e => ?_⟩, VsO.toR h2⟩
    subst e
    rcases h1.2 with ⟨e, _⟩ | ⟨g, cap, cur, hv, hb, _⟩
    · simp at e
    · simp only [Value.slice.injEq, Option.some.injEq, Addr.mk.injEq] at hv
      omega
theorem VsO.get {w : World} {B : Nat} : ∀ {L : List Vl} {i : Nat} {xs : List Value} (k : Nat) {V : Vl} (_ : VsO w B i xs L) (_ : L[k]? = some V), ∃ a c, xs[k * 6 + 3]? = some (.slice a V.nodes.length c) ∧ w.ownsRow B 3 1 (.slice a V.nodes.length c) V.nodes.length (BI V.nodes)
  | N :: L, i, xs, 0, V, h, hV => by
    obtain ⟨a, c, r, rfl, h1, _⟩ := h
    simp only [List.getElem?_cons_zero, Option.some.injEq] at hV
    subst hV
    refine ⟨a, c, ?_, h1⟩
    rw [List.getElem?_append_left (by simp)]
    simp
  | N :: L, i, xs, k + 1, V, h, hV => by
    obtain ⟨a, c, r, rfl, h1, h2⟩ := h
    rw [List.getElem?_cons_succ] at hV
    obtain ⟨a', c', g1, g2⟩ := VsO.get k h2 hV
    refine ⟨a', c', ?_, g2⟩
    rw [List.getElem?_append_right (by simp; omega), ← g1]
    congr 1
    simp
    omega

set_option maxRecDepth 100000 in
set_option maxHeartbeats 4000000 in
theorem volumesO_any (w : World) (F : Nat → Prop) (t : Nat) (L : List Vl) (hT : TabI w F t L) (hok : OkL L) (hL : L.length ≤ 4096) :
    Calls Try.prog 12 #[ptrV t] w fun e w' => ∃ v xs, e = .returned v ∧ w'.ownsRow w.heap.size 37 6 v L.length xs ∧ VsO w' w.heap.size 0 xs L ∧ Below w.heap.size w w' := by
  obtain ⟨⟨ra, rc, ps, k1, k2, k3, k4, k5, k6⟩, k7⟩ := hT
  obtain ⟨N, hN⟩ : ∃ N, N = L.length := ⟨_, rfl⟩
  have c0 := k1.cell 0
  unfold tblC at c0
  simp only [List.getElem?_toArray, List.getElem?_cons_zero] at c0
  obtain ⟨a', c', hv', hrow⟩ := Rd.ofOwn k2
  cases hv'
  have hps : ∀ i V, L[i]? = some V → ∃ p, (∃ b o, ra = some ⟨b, o, none⟩ ∧ w.cell? ⟨b, o + i, none⟩ = some (ptrV p)) ∧ VlR w F p i V := by
    intro i V hV
    have hi := (List.getElem?_eq_some_iff.1 hV).1
    have hpi : ps[i]? = some ps[i] := List.getElem?_eq_getElem (by omega)
    obtain ⟨b, o, e1, e2⟩ := hrow.cs i (ptrV ps[i]) (by simp [hpi])
    exact ⟨ps[i], ⟨b, o, e1, e2⟩, (k6 i _ V hpi hV).2⟩
  have htl : t < w.heap.size := k1.lt
  have HPS := Lib.hid hps
  rw [← hN] at c0 hL ⊢
  have HN := Lib.hid hN
  clear hrow hps k1 k2 k3 k4 k5 k6 k7 hN
  unfold ptrV
  go_enter Try.func12, Try.ntmps12
  go_wp2
  go_loopw [3, 13] (fun s3 s13 wr => ∃ (k : Nat) (xs : List Value) (sa : Option Addr) (sc : Nat), k ≤ N ∧ s13 = .int .i64 k ∧ s3 = .slice sa k sc ∧ wr.ownsRow w.heap.size 37 6 (.slice sa k sc) k xs ∧ Hid (VsO wr w.heap.size 0 xs (L.take k)) ∧ Below w.heap.size w wr) (fun _ s13 _ => N - (intOf s13).toNat)
  case atStart => exact ⟨0, [], none, 0, by omega, rfl, rfl, World.ownsRow_nil _ _ _ _, rfl, Below.refl _ _⟩
  case round =>
    obtain ⟨k, xs, sa, sc, hk, rfl, rfl, ho, hR, hb⟩ := hrel
    by_cases hlt : k < N
    · have hkl : k < L.length := by have := HN.out; omega
      obtain ⟨V, hV⟩ : ∃ V, L[k]? = some V := ⟨_, List.getElem?_eq_getElem hkl⟩
      obtain ⟨p, ⟨b, o, rfl, hc⟩, an, cn, hB, hTr, _⟩ := HPS.out k V hV
      have hki : (k : Int) < (N : Int) := by omega
      have hcr : wr.cell? ⟨b, o + k, none⟩ = some (.pointer (some ⟨p, 0, none⟩)) := by
        have hbl : b < w.heap.size := by
          unfold World.cell? at hc
          by_cases hb' : b < w.heap.size
          · exact hb'
          · rw [Array.getElem?_eq_none (by simpa using hb')] at hc
            simp at hc
        exact (hb.cell (p := ⟨b, o + k, none⟩) hbl).trans hc
      have hvl : V.nodes.length ≤ 64 := by have := hok V (List.mem_of_getElem? hV); unfold OkV at this; omega
      have hown := own_any wr p k V.nodes.length V an cn (hB.at hb hB.lt) rfl (hTr.1.kept hb) hvl
      have HOW := Lib.hid hown
      have HV := Lib.hid hV
      have HO := Lib.hid ho
      unfold ptrV at HOW
      clear hown hB hTr hc hV ho
      go_wp2_with fail
      refine HOW.out.mono ?_
      rintro e w2 ⟨a2, c2, rfl, ho2, hb2⟩
      have hO2 := own_below HO.out hb2
      have hwr : w.heap.size ≤ wr.heap.size := hb.size
      have hw2 := hb2.size
      have hvol : VsO w2 w.heap.size 0 xs (L.take k) := hR.out.map fun a c n xs h => own_below h hb2
      have hT2 := own_base ho2 hwr
      have HT2 := Lib.hid hT2
      have HVOL := Lib.hid hvol
      have HO2 := Lib.hid hO2
      have HBB := Lib.hid (hb.trans (hb2.mono hwr))
      clear hT2 hvol hO2 ho2 hb2
      go_wp2_with (with_reducible refine At.slot 21 ?_)
      have hbl := below_lit w2 (volC k V a2 V.nodes.length c2) 37
      refine At.out (wpList_appS rfl (.tmp 17) (.tmp 20) 34 rfl elemV rfl (by decide) w.heap.size (.slice sa k sc) k xs rfl (HO2.out.alloc _) ⟨w2.heap.size, 0, none⟩ 1 1 (volC k V a2 V.nodes.length c2).toList rfl rfl (cells6 w2 (volC k V a2 V.nodes.length c2).toList _) (by simp [Value.oneCell']) (by unfold maxLen; omega) (by omega) (by simp; omega) ?_)
      intro a4 c4 w4 ho4 hb4 hg4
      have hvt := fun (a : Option Addr) (c n : Nat) (ys : List Value) (h : w2.ownsRow w.heap.size 3 1 (.slice a n c) n ys) => own_off (own_below h hbl) (Off.ofGrown (F := fun q => (Value.slice sa k sc).ownBlock = some q) hg4 fun _ h => h) (by
        intro q hq hh
        obtain ⟨cs', fr', h1'⟩ := own_ty (HO2.out.alloc (.cells (volC k V a2 V.nodes.length c2) 37)) q hh
        obtain ⟨cs2, fr2, h2'⟩ := own_ty (own_below h hbl) q hq
        rw [h1'] at h2'
        cases h2')
      have hsn := (HVOL.out.map hvt).snoc (hvt _ _ _ _ HT2.out)
      have htk : L.take (k + 1) = L.take k ++ [V] := by rw [List.take_succ_eq_append_getElem hkl, ← Option.some.inj (HV.out.symm.trans (List.getElem?_eq_getElem hkl))]
      have hlen : 0 + (L.take k).length = k := by rw [List.length_take]; omega
      rw [hlen, ← htk] at hsn
      have hbf := HBB.out.trans ((hbl.mono (by omega)).trans hb4)
      have HSN := Lib.hid hsn
      have HO4 := Lib.hid ho4
      have HBF := Lib.hid hbf
      clear hsn ho4 hbf hb4 hg4 hvt htk hlen hbl
      go_wp2
      go_roundw
      case rel => exact ⟨k + 1, _, _, _, by omega, by go_num, rfl, HO4.out, HSN, HBF.out⟩
      case measure => simp [intOf]; omega
    · have hkN : k = N := by omega
      have hLk : L.take k = L := List.take_of_length_le (by have := HN.out; omega)
      rw [hLk] at hR
      subst hkN
      have HO := Lib.hid ho
      have HB := Lib.hid hb
      clear ho hb hLk
      go_wp2
      go_ret
      exact ⟨_, _, rfl, HO.out, hR.out, HB.out⟩
end Go.Proofs.Yteenbobblbehoaa

namespace Go.Proofs.Yteenbobblbehoaa
open Go Go.RowKit

set_option maxRecDepth 100000 in
set_option maxHeartbeats 4000000 in
theorem vols1_any (w : World) (b1 b2 : Nat) (I S E : Int) (f : Bool) (an an' : Option Addr) (cn cn' m : Nat) (l : List Int) (hm : m = l.length)
    (h1 : ∀ j, j < 6 → w.cell? ⟨b1, j, none⟩ = [Value.int .i64 I, .int .i64 S, .int .i64 E, .slice an m cn, .bool f, .int .i64 0][j]?) (h2 : ∀ j, j < 6 → w.cell? ⟨b2, j, none⟩ = [Value.int .i64 I, .int .i64 S, .int .i64 E, .slice an' m cn', .bool f, .int .i64 0][j]?)
    (z1 : b1 < w.heap.size) (z2 : b2 < w.heap.size) (r1 : Rd w an cn (BI l)) (r2 : Rd w an' cn' (BI l)) :
    Calls Try.prog 16 #[.slice (some ⟨b1, 0, none⟩) 1 1, .slice (some ⟨b2, 0, none⟩) 1 1] w fun e w' => e = .returned (.bool true) ∧ Qt w w' := by
  have H1 := Lib.hid h1
  have H2 := Lib.hid h2
  have HM := Lib.hid hm
  have HR1 := Lib.hid r1
  have HR2 := Lib.hid r2
  clear h1 h2 hm r1 r2
  go_enter Try.func16, Try.ntmps16
  go_wp2
  go_loopw [5] (fun s5 wr => ∃ (k : Nat), k ≤ 1 ∧ s5 = .int .i64 k ∧ Hid (Qt w wr)) (fun s5 _ => 1 - (intOf s5).toNat)
  case atStart => exact ⟨0, by omega, rfl, Qt.refl _⟩
  case round =>
    obtain ⟨k, hk, rfl, hq⟩ := hrel
    by_cases hlt : k < 1
    · obtain rfl : k = 0 := by omega
      have hqb := hq.out.below w.heap.size
      have g1 := fun j (hj : j < 6) => (hqb.cell (p := ⟨b1, j, none⟩) z1).trans (H1.out j hj)
      have g2 := fun j (hj : j < 6) => (hqb.cell (p := ⟨b2, j, none⟩) z2).trans (H2.out j hj)
      have hin : ∀ n, Calls Try.prog 15 #[.slice an m cn, .slice an' m cn'] (wr.drewN n) fun e w' => e = .returned (.bool true) ∧ ∃ m, w' = wr.drewN m := fun n => by
        rw [HM.out]; exact ints_quiet wr n an an' cn cn' l (HR1.out.kept hqb) (HR2.out.kept hqb)
      have HIN := Lib.hid hin
      have d0 := g1 0 (by omega)
      have d1 := g1 1 (by omega)
      have d2 := g1 2 (by omega)
      have d3 := g1 3 (by omega)
      have d4 := g1 4 (by omega)
      have d5 := g1 5 (by omega)
      have x0 := g2 0 (by omega)
      have x1 := g2 1 (by omega)
      have x2 := g2 2 (by omega)
      have x3 := g2 3 (by omega)
      have x4 := g2 4 (by omega)
      have x5 := g2 5 (by omega)
      simp only [List.getElem?_cons_succ, List.getElem?_cons_zero] at d0 d1 d2 d3 d4 d5 x0 x1 x2 x3 x4 x5
      have y0 : (I != I) = false := by simp
      have y1 : (S != S) = false := by simp
      have y2 : (E != E) = false := by simp
      have y4 : (f != f) = false := by simp
      clear g1 g2 hqb hin
      go_wp2
      go_quiet ((go_at_call 15; exact HIN.out _))
      go_wp2
      go_roundw
      case rel => exact ⟨1, by omega, by go_num, Qt.drew hq.out _⟩
      case measure => simp [intOf]
    · have hki : ¬ (k : Int) < 1 := by omega
      go_wp2
      go_ret
      exact ⟨rfl, hq.out⟩
end Go.Proofs.Yteenbobblbehoaa

namespace Go.Proofs.Yteenbobblbehoaa
open Go Go.RowKit

/-- A volume, or none, as values. -/
structure GV where
  I : Int
  S : Int
  E : Int
  f : Bool
  l : List Int
  is : Bool
def gv (o : Option Vl) (id : Int) : GV := match o with
  | none => ⟨0, 0, 0, false, [], false⟩
  | some V => ⟨(((id - 1).toNat : Nat) : Int) + 1, V.st, V.ep, V.fr, V.nodes, true⟩
theorem VolP.gen {w w' : World} {id : Int} {o : Option Vl} {e : Ending} (h : VolP w id o e w') : ∃ a c, e = .returned (.tuple #[.agg #[.int .i64 (gv o id).I, .int .i64 (gv o id).S, .int .i64 (gv o id).E, .slice a (gv o id).l.length c, .bool (gv o id).f, .int .i64 0], .bool (gv o id).is]) ∧ Rd w' a c (BI (gv o id).l) ∧ Below w.heap.size w w' := by
  obtain ⟨hb, h⟩ := h
  cases o with
  | none => exact ⟨none, 0, h, Rd.none _, hb⟩
  | some V =>
    obtain ⟨a, c, h1, h2⟩ := h
    obtain ⟨a', c', he, hr⟩ := Rd.ofOwn h2
    cases he
    exact ⟨a, c, h1, hr, hb⟩
/-- Volumes of the call's own that are written over. -/
def Scr (w wx : World) (Fn Fw D : Nat → Prop) (t g : Nat) (L : List Vl) (B Z : Nat) (va : Option Addr) (n vc : Nat) (xs : List Value) : Prop :=
  Tabs w wx Fn Fw D t g L L ∧ wx.heap.size = Z ∧ wx.ownsRow B 37 6 (.slice va n vc) n xs ∧
    ∀ i V, L[i]? = some V → ∃ an cn ys, xs[i * 6 + 3]? = some (.slice an V.nodes.length cn) ∧ wx.ownsRow B 3 1 (.slice an V.nodes.length cn) V.nodes.length ys
theorem Scr.put {w wx : World} {Fn Fw D : Nat → Prop} {t g : Nat} {L : List Vl} {B Z : Nat} {va : Option Addr} {n vc : Nat} {xs : List Value} (h : Scr w wx Fn Fw D t g L B Z va n vc xs) (hD : ∀ k, B ≤ k → k < Z → D k) {gb m cn j : Nat} {ys : List Value} (ho : wx.ownsRow B 3 1 (.slice (some ⟨gb, 0, none⟩) m cn) m ys) (u : Value) :
    Scr w (wx.setCell ⟨gb, j, none⟩ u) Fn Fw D t g L B Z va n vc xs := by
  obtain ⟨h1, h2, h3, h4⟩ := h
  have hl := ho.lt gb rfl
  have hOff : Off (· = gb) wx (wx.setCell ⟨gb, j, none⟩ u) := Off.setCell (F := (· = gb)) (p := ⟨gb, j, none⟩) rfl u
  refine ⟨h1.offD hOff fun x hx => by rw [hx]; exact hD gb hl.1 (by omega), by simp [World.setCell, h2], own_off h3 hOff fun k hk e => ?_, fun i V hV => ?_⟩
  · subst e
    obtain ⟨cs, fr, hh⟩ := own_ty h3 k hk
    obtain ⟨cs', fr', hh'⟩ := own_ty ho k rfl
    rw [hh] at hh'
    cases hh'
  · obtain ⟨an, cn', ys', e1, e2⟩ := h4 i V hV
    by_cases hb : (Value.slice an V.nodes.length cn').ownBlock = some gb
    · rcases e2.2 with ⟨hv, _⟩ | ⟨g2, cap, cur, hv, _⟩
      · simp only [Value.slice.injEq] at hv
        rw [hv.1] at hb
        simp [Value.ownBlock] at hb
      · simp only [Value.slice.injEq, true_and] at hv
        obtain ⟨rfl, rfl⟩ := hv
        cases hb
        exact ⟨_, _, _, e1, (e2.stored j u).1⟩
    · exact ⟨an, cn', ys', e1, own_off e2 hOff fun k hk e => hb (by rw [hk, e])⟩

set_option maxRecDepth 100000 in
set_option maxHeartbeats 40000000 in
theorem fsmPlays_any (a : Option Addr) (c : Nat) (S : List Stp) (w : World) (hr : RdS w a c S) (hZ : ∀ s ∈ S, s.nums.length ≤ 140737488351232 ∧ s.raw.length ≤ 140737488351232) :
    Calls Try.prog 7 #[.slice a S.length c] w fun e w' => e = .returned (.bool true) ∧ Below w.heap.size w w' := by
  have hhv := heavyZ_any w a c S hr hZ
  have hle : S.length ≤ 9223372036854775807 := by have := hr.1; have := hr.2.1; unfold maxLen at this; omega
  obtain ⟨N, hN⟩ : ∃ N, N = S.length := ⟨_, rfl⟩
  rw [← hN] at hhv hle ⊢
  have HHV := Lib.hid hhv
  have HR := Lib.hid hr
  have HN := Lib.hid hN
  clear hhv hr hN hZ
  go_enter Try.func7, Try.ntmps7
  go_wp2_with fail
  refine HHV.out.mono ?_
  rintro e w1 ⟨hv, rfl, hq1, hsm⟩
  have hb1 : Below w.heap.size w w1 := hq1.below _
  have HB1 := Lib.hid hb1
  have hz1 : w1.heap.size = w.heap.size := hq1.size
  have HSM := Lib.hid hsm
  clear hq1 hb1 hsm
  cases hv with
  | true =>
    go_wp2_with fail
    refine (fsmKnown_any _).mono ?_
    rintro e w2 ⟨rfl, hb2⟩
    have HB2 := Lib.hid (HB1.out.trans (hb2.mono (by omega)))
    clear hb2
    go_wp2
    go_ret
    exact ⟨rfl, HB2.out⟩
  | false =>
  have hsm := HSM.out rfl
  clear HSM
  have HSM := Lib.hid hsm
  clear hsm
  have H0 := Lib.hid (fun W => new_any W (fun k => k = W.heap.size) rfl)
  unfold ptrV at H0
  obtain ⟨t, ht⟩ : ∃ t, t = w1.heap.size := ⟨_, rfl⟩
  have HT := Lib.hid ht
  clear ht
  go_wp2_with fail
  refine (H0.out w1).mono ?_
  rintro e w2 ⟨rfl, hT2, hb2, hs2⟩
  rw [← HT.out] at hT2 hb2 hs2 ⊢
  obtain ⟨g, hg⟩ : ∃ g, g = w2.heap.size := ⟨_, rfl⟩
  obtain ⟨W3, hW3⟩ : ∃ W3, W3 = w2.alloc (.cells #[.slice none 0 0] 52) := ⟨_, rfl⟩
  have hst : Tabs w W3 (fun k => k = t) (fun k => k = g) (fun _ => False) t g [] [] := by
    have e1 := HT.out
    have hbA : Below w2.heap.size w2 W3 := by rw [hW3]; exact (Below.refl _ _).alloc (Nat.le_refl _) _
    have hP : BlkV W3 g 52 #[.slice none 0 0] := by rw [hW3, hg]; exact BlkV.new w2 _ _
    have hzz := hP.lt
    have htl := hT2.lt
    refine ⟨hT2.kept hbA, fun x hx => by omega, ⟨none, 0, [], fun _ => (none, 0), ⟨hP, World.ownsRow_nil _ _ _ _, fun k hk => by simp [Value.ownBlock] at hk, fun i V hV => by simp at hV, rfl, fun k hk => by omega⟩⟩,
      fun x hx hy => by omega, fun _ h => h.elim, fun _ h => h.elim, fun _ h => h.elim, fun x hx => by omega, fun x hx => by omega, fun _ h => h.elim, ?_⟩
    exact (HB1.out.trans (hb2.mono (by omega))).trans (hbA.mono (by omega))
  have HST := Lib.hid hst
  have HW3 := Lib.hid hW3
  have HGG := Lib.hid hg
  clear hst hT2 hb2 hs2 H0 hW3 hg
  go_upto_region 5 with (fail)
  rw [← HW3.out, ← HGG.out]
  go_wp2
  go_loopw [5] (fun s5 wr => ∃ (k : Nat) (L : List Vl) (Fn Fw : Nat → Prop), k ≤ N ∧ k ≤ 150 ∧ s5 = .int .i64 k ∧ Hid (Tabs w wr Fn Fw (fun _ => False) t g L L) ∧ Hid (OkA L)) (fun s5 _ => N - (intOf s5).toNat)
  case atStart => exact ⟨0, [], _, _, by omega, by omega, rfl, HST, ⟨okV0, (fun V hV => by cases hV), by simp⟩⟩
  case round =>
    obtain ⟨k, L, Fn, Fw, hk, hk2, rfl, hT, hL⟩ := hrel
    obtain ⟨B, hB⟩ : ∃ B : Bool, B = (decide (k < N) && decide (k < 150)) := ⟨_, rfl⟩
    have HBB := Lib.hid hB
    clear hB
    go_upto_region 8 with (fail)
    go_cut [29] from 22 to 29 (fun s29 wx => s29 = .bool B ∧ wr = wx)
    case first =>
      by_cases hB1 : k < N
      · have b1 : (k : Int) < (N : Int) := by omega
        by_cases hB2 : k < 150
        · have b2 : (k : Int) < 150 := by omega
          have hBf : B = true := by rw [HBB.out]; simp [hB1, hB2]
          have HBF := Lib.hid hBf
          clear hBf hB1 hB2
          go_wp2_with fail
          go_meet
          exact ⟨congrArg Value.bool HBF.out.symm, rfl⟩
        · have b2 : ¬ (k : Int) < 150 := by omega
          have hBf : B = false := by rw [HBB.out]; simp [hB2]
          have HBF := Lib.hid hBf
          clear hBf hB1 hB2
          go_wp2_with fail
          go_meet
          exact ⟨congrArg Value.bool HBF.out.symm, rfl⟩
      · have b1 : ¬ (k : Int) < (N : Int) := by omega
        have hBf : B = false := by rw [HBB.out]; simp [hB1]
        have HBF := Lib.hid hBf
        clear hBf hB1
        go_wp2_with fail
        go_meet
        exact ⟨congrArg Value.bool HBF.out.symm, rfl⟩
    case rest =>
    obtain ⟨rfl, rfl⟩ := hcut
    cases B with
    | false =>
      clear HBB
      obtain ⟨n4, hn4⟩ : ∃ n4, n4 = L.length := ⟨_, rfl⟩
      have HN4 := Lib.hid hn4
      have hn48 : n4 ≤ 4096 := by rw [hn4]; exact hL.out.2.2
      clear hn4
      go_wp2
      go_loopw [9] (fun s9 wr => ∃ j : Nat, j ≤ n4 + 3 ∧ s9 = .int .i64 ((j : Int) - 1) ∧ Hid (Tabs w wr Fn Fw (fun _ => False) t g L L)) (fun s9 _ => ((n4 : Int) + 2 - intOf s9).toNat)
      case atStart => exact ⟨0, by omega, rfl, hT⟩
      case round =>
        clear hT
        obtain ⟨j, hj, rfl, hT⟩ := hrel
        obtain ⟨ta, tc, txs, tq, htx⟩ := hT.out.r
        have hblk := htx.blk
        rw [← HN4.out] at hblk
        have c0 := hblk.cell 0
        have z0 := hblk.lt
        simp only [List.getElem?_toArray, List.getElem?_cons_zero] at c0
        have hwn : IntKind.i64.wrap ((n4 : Int) + 1) = (n4 : Int) + 1 := IntWalk.i64_in _ (by omega)
        clear htx hblk
        obtain ⟨id, hid⟩ : ∃ id : Int, id = (j : Int) - 1 := ⟨_, rfl⟩
        rw [← hid]
        have HID := Lib.hid hid
        have hid1 : -1 ≤ id := by omega
        have hid2 : id ≤ (n4 : Int) + 2 := by omega
        by_cases hjn : id ≤ (n4 : Int) + 1
        · clear hid
          have HMS := Lib.hid (show id ≤ (n4 : Int) + 1 ∧ -1 ≤ id ∧ id ≤ (n4 : Int) + 2 ∧ IntKind.i64.wrap (id + 1) = id + 1 from ⟨hjn, hid1, hid2, IntWalk.i64_in _ (by omega)⟩)
          obtain ⟨G, hG⟩ : ∃ G, G = gv (ofL L id) id := ⟨_, rfl⟩
          obtain ⟨m, hm⟩ : ∃ m, m = G.l.length := ⟨_, rfl⟩
          have hv1 : Calls Try.prog 13 #[.pointer (some ⟨t, 0, none⟩), .int .i64 id] wr fun e w' => ∃ a c, e = .returned (.tuple #[.agg #[.int .i64 G.I, .int .i64 G.S, .int .i64 G.E, .slice a m c, .bool G.f, .int .i64 0], .bool G.is]) ∧ Rd w' a c (BI G.l) ∧ Below wr.heap.size wr w' := by
            refine (volume_any wr Fn t L hT.out.n hL.out.1 id).mono ?_
            intro e w' h
            rw [hm, hG]
            exact h.gen
          have hv2 : ∀ W, Below wr.heap.size wr W → Calls Try.prog 21 #[.pointer (some ⟨g, 0, none⟩), .int .i64 id] W fun e w' => ∃ a c, e = .returned (.tuple #[.agg #[.int .i64 G.I, .int .i64 G.S, .int .i64 G.E, .slice a m c, .bool G.f, .int .i64 0], .bool G.is]) ∧ Rd w' a c (BI G.l) ∧ Below W.heap.size W w' := by
            intro W hb
            refine (rVolume_any W Fw g L (hT.out.still hb).r hL.out.1 id).mono ?_
            intro e w' h
            rw [hm, hG]
            exact h.gen
          have HV1 := Lib.hid hv1
          have HV2 := Lib.hid hv2
          have HM := Lib.hid hm
          have hbb : (G.is != G.is) = false := by simp
          clear hv1 hv2 hG hm
          obtain ⟨gI, hgI⟩ : ∃ x, x = G.I := ⟨_, rfl⟩
          obtain ⟨gS, hgS⟩ : ∃ x, x = G.S := ⟨_, rfl⟩
          obtain ⟨gE, hgE⟩ : ∃ x, x = G.E := ⟨_, rfl⟩
          obtain ⟨gf, hgf⟩ : ∃ x, x = G.f := ⟨_, rfl⟩
          obtain ⟨gs, hgs⟩ : ∃ x, x = G.is := ⟨_, rfl⟩
          rw [← hgI, ← hgS, ← hgE, ← hgf, ← hgs] at HV1
          rw [← hgI, ← hgS, ← hgE, ← hgf, ← hgs] at HV2
          rw [← hgs] at hbb
          clear hgI hgS hgE hgf hgs
          go_wp2_with fail
          refine HV1.out.mono ?_
          rintro e w3 ⟨a3, c3, rfl, hr3, hb3⟩
          obtain ⟨W4, hW4⟩ : ∃ W4, W4 = w3.alloc (.cells #[.int .i64 gI, .int .i64 gS, .int .i64 gE, .slice a3 m c3, .bool gf, .int .i64 0] 37) := ⟨_, rfl⟩
          obtain ⟨K10, hK10⟩ : ∃ K10, K10 = w3.heap.size := ⟨_, rfl⟩
          have hbA : Below w3.heap.size w3 W4 := by rw [hW4]; exact (Below.refl _ _).alloc (Nat.le_refl _) _
          have hb4 : Below wr.heap.size wr W4 := hb3.trans (hbA.mono hb3.size)
          have hP10 : BlkV W4 K10 37 #[.int .i64 gI, .int .i64 gS, .int .i64 gE, .slice a3 m c3, .bool gf, .int .i64 0] := by rw [hW4, hK10]; exact BlkV.new w3 _ _
          have HB4 := Lib.hid hb4
          have HP10 := Lib.hid hP10
          have HR4 := Lib.hid (hr3.kept hbA)
          have HW4 := Lib.hid hW4
          have HK10 := Lib.hid hK10
          clear hr3 hb3 hW4 hK10 hbA hb4 hP10 c0 z0 HV1
          go_upto_region 26 with (fail)
          rw [← HW4.out, ← HK10.out]
          go_wp2_with fail
          refine (HV2.out W4 HB4.out).mono ?_
          rintro e w5 ⟨a5, c5, rfl, hr5, hb5⟩
          obtain ⟨W6, hW6⟩ : ∃ W6, W6 = w5.alloc (.cells #[.int .i64 gI, .int .i64 gS, .int .i64 gE, .slice a5 m c5, .bool gf, .int .i64 0] 37) := ⟨_, rfl⟩
          obtain ⟨K12, hK12⟩ : ∃ K12, K12 = w5.heap.size := ⟨_, rfl⟩
          have hbA : Below w5.heap.size w5 W6 := by rw [hW6]; exact (Below.refl _ _).alloc (Nat.le_refl _) _
          have hb6 : Below W4.heap.size W4 W6 := hb5.trans (hbA.mono hb5.size)
          have hP12 : BlkV W6 K12 37 #[.int .i64 gI, .int .i64 gS, .int .i64 gE, .slice a5 m c5, .bool gf, .int .i64 0] := by rw [hW6, hK12]; exact BlkV.new w5 _ _
          have hP106 := HP10.out.below hb6
          have HB6 := Lib.hid (HB4.out.trans (hb6.mono HB4.out.size))
          have HR6a := Lib.hid (HR4.out.kept hb6)
          have HR6b := Lib.hid (hr5.kept hbA)
          have p0 := hP106.cell 0
          have p1 := hP106.cell 1
          have p2 := hP106.cell 2
          have p3 := hP106.cell 3
          have p4 := hP106.cell 4
          have p5 := hP106.cell 5
          have q0 := hP12.cell 0
          have q1 := hP12.cell 1
          have q2 := hP12.cell 2
          have q3 := hP12.cell 3
          have q4 := hP12.cell 4
          have q5 := hP12.cell 5
          have pz := hP106.lt
          have qz := hP12.lt
          simp only [List.getElem?_toArray, List.getElem?_cons_succ, List.getElem?_cons_zero] at p0 p1 p2 p3 p4 p5 q0 q1 q2 q3 q4 q5
          obtain ⟨W8, hW8⟩ : ∃ W8, W8 = (W6.alloc (.cells #[.int .i64 gI, .int .i64 gS, .int .i64 gE, .slice a3 m c3, .bool gf, .int .i64 0] 37)).alloc (.cells #[.int .i64 gI, .int .i64 gS, .int .i64 gE, .slice a5 m c5, .bool gf, .int .i64 0] 37) := ⟨_, rfl⟩
          obtain ⟨Z, hZ⟩ : ∃ Z, Z = W6.heap.size := ⟨_, rfl⟩
          have hb8 : Below W6.heap.size W6 W8 := by rw [hW8]; exact ((Below.refl _ _).alloc (Nat.le_refl _) _).alloc (by simp) _
          have hX1 : BlkV W8 Z 37 #[.int .i64 gI, .int .i64 gS, .int .i64 gE, .slice a3 m c3, .bool gf, .int .i64 0] := by rw [hW8, hZ]; exact (BlkV.new W6 _ _).alloc _
          have hX2 : BlkV W8 (Z + 1) 37 #[.int .i64 gI, .int .i64 gS, .int .i64 gE, .slice a5 m c5, .bool gf, .int .i64 0] := by
            rw [hW8, hZ]
            have := BlkV.new (W6.alloc (.cells #[.int .i64 gI, .int .i64 gS, .int .i64 gE, .slice a3 m c3, .bool gf, .int .i64 0] 37)) 37 #[.int .i64 gI, .int .i64 gS, .int .i64 gE, .slice a5 m c5, .bool gf, .int .i64 0]
            simpa using this
          have hvs := vols1_any W8 Z (Z + 1) gI gS gE gf a3 a5 c3 c5 m G.l HM.out (fun j hj => by rw [hX1.cell j]; simp) (fun j hj => by rw [hX2.cell j]; simp) hX1.lt hX2.lt (HR6a.out.kept hb8) (HR6b.out.kept hb8)
          have HVS := Lib.hid hvs
          have HT8 := Lib.hid (hT.out.still (HB6.out.trans (hb8.mono HB6.out.size)))
          have HW6 := Lib.hid hW6
          have HK12 := Lib.hid hK12
          have HW8 := Lib.hid hW8
          have HZ := Lib.hid hZ
          clear hr5 hb5 hW6 hK12 hbA hb6 hP12 hP106 hW8 hZ hb8 hX1 hX2 hvs HV2 HT
          go_upto_region 27 with (fail)
          rw [← HW6.out, ← HK12.out]
          go_wp2_with fail
          rw [← HW8.out, ← HZ.out]
          refine HVS.out.mono ?_
          rintro e w9 ⟨rfl, hq9⟩
          have HT9 := Lib.hid (HT8.out.still (hq9.below _))
          have hwi : IntKind.i64.wrap (id + 1) = id + 1 := IntWalk.i64_in _ (by omega)
          clear hq9 p0 p1 p2 p3 p4 p5 q0 q1 q2 q3 q4 q5
          go_wp2
          go_roundw
          case rel => exact ⟨j + 1, by have := HID.out; omega, by rw [HID.out]; go_num, HT9⟩
          case measure => simp [intOf]; have := HMS.out; omega
        · have HBW := Lib.hid hT.out.bel
          clear hid
          go_wp2_with fail
          refine (fsmKnown_any _).mono ?_
          rintro e w6 ⟨rfl, hb6⟩
          have HB6 := Lib.hid (HBW.out.trans (hb6.mono HBW.out.size))
          clear hb6
          go_wp2
          go_ret
          exact ⟨rfl, HB6.out⟩
    | true =>
    have hBB := HBB.out.symm
    simp only [Bool.and_eq_true, decide_eq_true_eq] at hBB
    obtain ⟨hlt, h150⟩ := hBB
    have hkl : k < S.length := by have := HN.out; omega
    have hki : (k : Int) < (N : Int) := by omega
    obtain ⟨b, o, an, cn, ar, cr, rfl, h2, h3, h4, h5, h6, h7, h8⟩ := HR.out.2.2 k S[k] (List.getElem?_eq_getElem hkl)
    have hs := HSM.out k S[k] h150 (List.getElem?_eq_getElem hkl)
    have hap := applies_any w wr Fn Fw t g L hT.out hL.out S[k].kd an cn S[k].nums ar cr S[k].raw h6 h7 h8 hs.2
    obtain ⟨kd, hkd⟩ : ∃ kd, kd = S[k].kd := ⟨_, rfl⟩
    obtain ⟨nn, hnn⟩ : ∃ nn, nn = S[k].nums.length := ⟨_, rfl⟩
    obtain ⟨nr, hnr⟩ : ∃ nr, nr = S[k].raw.length := ⟨_, rfl⟩
    rw [← hkd, ← hnn, ← hnr] at hap
    rw [← hkd] at h3
    rw [← hnn] at h4
    rw [← hnr] at h5
    have hbw := hT.out.bel
    have c0 := (hbw.cell (p := ⟨b, o + k * 3, none⟩) h2).trans h3
    have c1 := (hbw.cell (p := ⟨b, o + k * 3 + 1, none⟩) h2).trans h4
    have c2 := (hbw.cell (p := ⟨b, o + k * 3 + 2, none⟩) h2).trans h5
    unfold ptrV at hap
    have HAP := Lib.hid hap
    clear hkd hnn hnr h2 h3 h4 h5 h6 h7 h8 hs hap hbw hkl
    go_wp2_with fail
    refine HAP.out.mono ?_
    rintro e w3 ⟨rfl, L', Fn', Fw', hT3, hL3⟩
    have hvo := volumesO_any w3 Fn' t L' hT3.n hL3.1 hL3.2.2
    unfold ptrV at hvo
    have HVO := Lib.hid hvo
    have HT3 := Lib.hid hT3
    have HL3 := Lib.hid hL3
    clear hvo hT3 hL3 HAP c0 c1 c2 hT hL
    go_wp2_with fail
    refine HVO.out.mono ?_
    rintro e w4 ⟨v4, xs4, rfl, ho4, hv4, hb4⟩
    have hT4 := HT3.out.kept hb4
    have hrv := rVolumes_any w4 Fw' g L' hT4.r HL3.out.1 HL3.out.2.2
    obtain ⟨va, vc, rfl⟩ : ∃ va vc, v4 = .slice va L'.length vc := by
      rcases ho4.2 with ⟨rfl, h0⟩ | ⟨_, _, _, rfl, _⟩
      · exact ⟨none, 0, by rw [h0]⟩
      · exact ⟨_, _, rfl⟩
    obtain ⟨n4, hn4⟩ : ∃ n4, n4 = L'.length := ⟨_, rfl⟩
    rw [← hn4] at ho4 hrv ⊢
    have HN4 := Lib.hid hn4
    have HRV := Lib.hid hrv
    have HT4 := Lib.hid hT4
    have HO4 := Lib.hid ho4
    have HV4 := Lib.hid hv4
    have HB4 := Lib.hid hb4
    clear hn4 hrv hT4 ho4 hv4 hb4 HVO
    go_wp2_with fail
    refine HRV.out.mono ?_
    rintro e w5 ⟨v5, xs5, rfl, ho5, hv5, hb5⟩
    obtain ⟨vb, vd, rfl⟩ : ∃ vb vd, v5 = .slice vb n4 vd := by
      rcases ho5.2 with ⟨rfl, h0⟩ | ⟨_, _, _, rfl, _⟩
      · exact ⟨none, 0, by rw [h0]⟩
      · exact ⟨_, _, rfl⟩
    have hvl5 : VlsR w5 vb vd 0 L' := by
      rw [HN4.out] at ho5
      obtain ⟨a', c', he, hB⟩ := VlsB.ofOwn (F := fun _ => False) ho5 hv5 (fun _ h => h.elim)
      cases he
      exact hB.reads
    have hvl4 : VlsR w4 va vc 0 L' := by
      have ho := HO4.out
      rw [HN4.out] at ho
      obtain ⟨a', c', he, hB⟩ := VlsB.ofOwn (F := fun _ => False) ho HV4.out.toR (fun _ h => h.elim)
      cases he
      exact hB.reads
    have heq := volsEq_any w5 va vb vc vd 0 L' L' (hvl4.kept hb5) hvl5 rfl n4 HN4.out
    have HEQ := Lib.hid heq
    have HB5 := Lib.hid (HB4.out.trans (hb5.mono HB4.out.size))
    have HC5 := Lib.hid hb5
    clear hvl5 hvl4 heq ho5 hv5 hb5 HRV
    go_wp2_with fail
    refine HEQ.out.mono ?_
    rintro e w6 ⟨rfl, hq6⟩
    have hb6 := hq6.below w5.heap.size
    have HB6 := Lib.hid (HB5.out.trans (hb6.mono HB5.out.size))
    have HC6 := Lib.hid (HC5.out.trans (hb6.mono HC5.out.size))
    obtain ⟨sm, hsm⟩ : ∃ sm : Nat, sm = (sumL L').toNat := ⟨_, rfl⟩
    have hs1 := fsmSum_any w6 Fn' t L' (HT3.out.still HB6.out).n HL3.out.1 HL3.out.2.2
    have hs2 := fun (W : World) (hb : Below w3.heap.size w3 W) => rSum_any W Fw' g L' (HT3.out.still hb).r HL3.out.1 HL3.out.2.2
    unfold ptrV at hs1
    rw [← hsm] at hs1
    simp only [← hsm] at hs2
    have HS1 := Lib.hid hs1
    have HS2 := Lib.hid hs2
    have hne : ((sm : Int) != (sm : Int)) = false := by simp
    clear hs1 hs2 hsm hq6 hb6 HEQ
    go_wp2_with fail
    refine HS1.out.mono ?_
    rintro e w7 ⟨rfl, hb7⟩
    have HB7 := Lib.hid (HB6.out.trans (hb7.mono HB6.out.size))
    have HC7 := Lib.hid (HC6.out.trans (hb7.mono HC6.out.size))
    clear hb7 HS1
    go_wp2_with fail
    refine (HS2.out w7 HB7.out).mono ?_
    rintro e w8 ⟨rfl, hb8⟩
    have hb38 : Below w3.heap.size w3 w8 := HB7.out.trans (hb8.mono HB7.out.size)
    have hb48 : Below w4.heap.size w4 w8 := HC7.out.trans (hb8.mono HC7.out.size)
    obtain ⟨D, hD⟩ : ∃ D, D = grew (fun _ => False) w3 w8 := ⟨_, rfl⟩
    obtain ⟨Z, hZ⟩ : ∃ Z, Z = w8.heap.size := ⟨_, rfl⟩
    obtain ⟨B0, hB0⟩ : ∃ B0, B0 = w3.heap.size := ⟨_, rfl⟩
    have hscr : Scr w w8 Fn' Fw' D t g L' B0 Z va n4 vc xs4 := by
      rw [hD, hZ, hB0]
      refine ⟨HT3.out.kept hb38, rfl, own_below HO4.out hb48, fun i V hV => ?_⟩
      obtain ⟨an, cn, e1, e2⟩ := VsO.get i HV4.out hV
      exact ⟨an, cn, _, e1, own_below e2 hb48⟩
    have hDD : ∀ k, B0 ≤ k → k < Z → D k := fun k h1 h2 => by rw [hD]; exact .inr ⟨by omega, by omega⟩
    have HSCR := Lib.hid hscr
    have HDD := Lib.hid hDD
    clear hscr hDD hD hZ hB0 hb38 hb48 hb8 HS2 HB4 HB5 HB6 HB7 HC5 HC6 HC7 HT3 HT4 HO4 HV4 hne
    have hn48 : n4 ≤ 4096 := by rw [HN4.out]; exact HL3.out.2.2
    go_wp2
    go_loopw [7] (fun s7 wx => ∃ i : Nat, i ≤ n4 ∧ s7 = .int .i64 i ∧ Hid (Scr w wx Fn' Fw' D t g L' B0 Z va n4 vc xs4)) (fun s7 _ => n4 - (intOf s7).toNat)
    case atStart => exact ⟨0, by omega, rfl, HSCR⟩
    case round =>
      obtain ⟨i, hi, rfl, hS⟩ := hrel
      by_cases hin : i < n4
      · have hii : (i : Int) < (n4 : Int) := by omega
        have hil : i < L'.length := by have := HN4.out; omega
        obtain ⟨V, hVd⟩ : ∃ V, V = L'[i] := ⟨_, rfl⟩
        have hV : L'[i]? = some V := by rw [hVd]; exact List.getElem?_eq_getElem hil
        obtain ⟨an', cn', ys0, e1, e2⟩ := hS.out.2.2.2 i V hV
        obtain ⟨m, hm⟩ : ∃ m, m = V.nodes.length := ⟨_, rfl⟩
        rw [← hm] at e1
        have hm64 : m ≤ 64 := by have := HL3.out.1 V (List.mem_of_getElem? hV); unfold OkV at this; omega
        have HV := Lib.hid hV
        have HM := Lib.hid hm
        have HE1 := Lib.hid e1
        clear hVd hV hm e1 e2 hil
        go_wp2
        go_loopw [8] (fun s8 wx => ∃ j : Nat, j ≤ m ∧ s8 = .int .i64 j ∧ Hid (Scr w wx Fn' Fw' D t g L' B0 Z va n4 vc xs4)) (fun s8 _ => m - (intOf s8).toNat)
        case atStart => exact ⟨0, by omega, rfl, hS⟩
        case round =>
          clear hS
          obtain ⟨j, hj, rfl, hS⟩ := hrel
          obtain ⟨bv, cap, he, _, hbv, _, _⟩ := own_pos hS.out.2.2.1 (by omega)
          cases he
          have hov := hS.out.2.2.1
          have hxl : xs4.length = n4 * 6 := hov.1
          have c3 : wr.cell? ⟨bv, i * 6 + 3, none⟩ = some (.slice an' m cn') := by
            have := hov.cells (g := bv) rfl (i * 6 + 3) _ HE1.out
            rwa [Addr.add_lit, Nat.zero_add] at this
          clear hov hxl
          by_cases hjm : j < m
          · have hji : (j : Int) < (m : Int) := by omega
            obtain ⟨an2, cn2, ys, f1, f2⟩ := hS.out.2.2.2 i V HV.out
            rw [HE1.out, ← HM.out] at f1
            cases f1
            rw [← HM.out] at f2
            obtain ⟨gb, cap2, he, _, hgb, _, _⟩ := own_pos f2 (by omega)
            cases he
            have hlen : ys.length = m := by simpa using f2.1
            obtain ⟨u, hcell⟩ : ∃ u, wr.cell? ⟨gb, j, none⟩ = some u := ⟨ys[j], by rw [f2.cellAt j (by omega), List.getElem?_eq_getElem (by omega)]⟩
            have hfr := f2.frozenAt j
            have HS2 := Lib.hid (hS.out.put HDD.out f2 (j := j) (.int .i64 (-5)))
            clear f2 hlen
            go_wp2
            go_roundw
            case rel => exact ⟨j + 1, by omega, by go_num, HS2⟩
            case measure => simp [intOf]; omega
          · have hji : ¬ (j : Int) < (m : Int) := by omega
            go_wp2
            go_roundw
            case rel => exact ⟨i + 1, by omega, by go_num, hS⟩
            case measure => simp [intOf]; omega
      · have hii : ¬ (i : Int) < (n4 : Int) := by omega
        have HTF := Lib.hid hS.out.1.forget
        clear hS
        go_wp2
        go_roundw
        case rel => exact ⟨k + 1, L', Fn', Fw', by omega, by omega, by go_num, HTF, HL3⟩
        case measure => simp [intOf]; omega
end Go.Proofs.Yteenbobblbehoaa

namespace Go.Proofs.Yteenbobblbehoaa
open Go Go.RowKit Go.ChangeShapes Go.WideShapes Go.Deep

theorem weights_all_mem {H : Type} {P : Program} {e : TypeId} {d : DataW H} : ∀ {l : List (DataW H)}, d ∈ l → ∀ n ∈ d.weights P e, n ∈ DataW.weightsAll P e l
  | [], h, _, _ => by cases h
  | x :: r, h, n, hn => by
    simp only [DataW.weightsAll, List.mem_append]
    rcases List.mem_cons.1 h with e1 | e1
    · subst e1; exact Or.inl hn
    · exact Or.inr (weights_all_mem e1 n hn)
theorem open_stepsZ {H : Type} {enc : TypeId × Value → H} {P : Program} {w : World} {base : Nat} {held : Bool} {t e q1 q2 : TypeId} {f0 f1 f2 : Field} {fuel : Nat} {cs : List Value} {x : DataW H × List MemPlace}
    (ht : P.underlying t = some (.slice e)) (he : P.underlying e = some (.struct #[f0, f1, f2])) (ce : P.cellsOf e = 3) (o0 : f0.offset = 0) (o1 : f1.offset = 1) (o2 : f2.offset = 2) (k0 : P.cellsOf f0.type = 1) (k1 : P.cellsOf f1.type = 1) (k2 : P.cellsOf f2.type = 1)
    (u0 : P.underlying f0.type = some (.int .i64)) (u1 : P.underlying f1.type = some (.slice q1)) (v1 : P.underlying q1 = some (.int .i64)) (r1 : P.cellsOf q1 = 1) (u2 : P.underlying f2.type = some (.slice q2)) (v2 : P.underlying q2 = some (.int .u8)) (r2 : P.cellsOf q2 = 1)
    (b1 : P.bytesOf q1 = 8) (b2 : P.bytesOf q2 = 1) (h : DataW.trod enc P w base (fun _ => true) held fuel t cs = some x) (hS : ∀ n ∈ x.1.weights P t, n ≤ reachBytes) : ∃ (a : Option Addr) (len cap : Nat) (S : List Stp), cs = [.slice a len cap] ∧ len = S.length ∧ RdS w a cap S ∧ ∀ s ∈ S, s.nums.length ≤ 140737488351232 ∧ s.raw.length ≤ 140737488351232 := by
  rcases open_slice ht h with ⟨rfl, _⟩ | ⟨a, len, cap, m, n, D, Pl, rfl, hb, hl, hm, hmm, rfl, hx⟩
  · exact ⟨none, 0, 0, [], rfl, rfl, ⟨Nat.le_refl _, by unfold maxLen; omega, fun i s hs => by simp at hs⟩, fun s hs => by cases hs⟩
  simp only [if_true] at hmm
  have hwi : ∀ i, i < len → ∀ n ∈ (D i).weights P e, n ≤ reachBytes := fun i hi n hn => hS n (by
    simp only [DataW.weights, ht]
    exact List.mem_cons_of_mem _ (List.mem_append_left _ (weights_all_mem (List.mem_map.2 ⟨i, List.mem_range.2 hi, rfl⟩) n hn)))
  rw [hmm] at hx
  by_cases hc0 : cap = 0
  · exact ⟨some a, len, cap, [], rfl, by simp; omega, ⟨by simp, hm, fun i s hs => by simp at hs⟩, fun s hs => by cases hs⟩
  have hsp : a.spot = none := by
    obtain ⟨cs', h1, _⟩ := hx 0 (by omega)
    rw [ce] at h1
    obtain ⟨_, hlen, hcell⟩ := World.cells?_some h1
    have e0 := hcell 0 (by omega)
    rw [add_add, List.getElem?_eq_getElem (by omega)] at e0
    have := World.cell?_spot e0
    simpa [Addr.add] using this
  obtain ⟨b, o, sp⟩ := a
  simp only at hsp
  subst hsp
  have each : ∀ i, i < cap → ∃ q : Stp × Option Addr × Nat × Option Addr × Nat, w.cell? ((⟨b, o, none⟩ : Addr).add (i * 3)) = some (.int .i64 q.1.kd) ∧ w.cell? ((⟨b, o, none⟩ : Addr).add (i * 3 + 1)) = some (.slice q.2.1 q.1.nums.length q.2.2.1) ∧ w.cell? ((⟨b, o, none⟩ : Addr).add (i * 3 + 2)) = some (.slice q.2.2.2.1 q.1.raw.length q.2.2.2.2) ∧
      Rd w q.2.1 q.2.2.1 (BI q.1.nums) ∧ (∀ n ∈ q.1.nums, -9223372036854775808 ≤ n ∧ n ≤ 9223372036854775807) ∧ Rd w q.2.2.2.1 q.2.2.2.2 (B8 q.1.raw) ∧ (i < len → q.1.nums.length ≤ 140737488351232 ∧ q.1.raw.length ≤ 140737488351232) := by
    intro i hi
    obtain ⟨cs', h1, h2⟩ := hx i hi
    rw [ce] at h1
    obtain ⟨_, hlen, hcell⟩ := World.cells?_some h1
    obtain ⟨xs, k, hk, hxy, _, hxl, hf⟩ := DataW.trod_struct he h2
    match xs, hxl, cs', hlen with
    | [z0, z1, z2], _, [x0, x1, x2], _ =>
      have g0 := hf 0 f0 rfl
      have g1 := hf 1 f1 rfl
      have g2 := hf 2 f2 rfl
      simp [o0, o1, o2, k0, k1, k2] at g0 g1 g2
      have e0 := hcell 0 (by omega)
      have e1 := hcell 1 (by omega)
      have e2 := hcell 2 (by omega)
      rw [add_add] at e0 e1 e2
      simp only [List.getElem?_cons_zero, List.getElem?_cons_succ, Nat.add_zero] at e0 e1 e2
      obtain ⟨z, hz, -, _⟩ := DataW.trod_int u0 g0
      simp only [List.cons.injEq, and_true] at hz
      subst hz
      have hDi : D i = .agg [z0.1, z1.1, z2.1] := by have := congrArg Prod.fst hxy; simpa using this
      have hw1 : i < len → ∀ n ∈ z1.1.weights P f1.type, n ≤ reachBytes := fun hil n hn => hwi i hil n (by
        rw [hDi]
        simp only [DataW.weights, he]
        exact DataW.weights_mem_each (j := 1) (t := f1.type) rfl rfl n hn)
      have hw2 : i < len → ∀ n ∈ z2.1.weights P f2.type, n ≤ reachBytes := fun hil n hn => hwi i hil n (by
        rw [hDi]
        simp only [DataW.weights, he]
        exact DataW.weights_mem_each (j := 2) (t := f2.type) rfl rfl n hn)
      obtain ⟨an, cn, nums, hn, hrn, hbn, hzn⟩ : ∃ (an : Option Addr) (cn : Nat) (nums : List Int), x1 = .slice an nums.length cn ∧ Rd w an cn (BI nums) ∧ (∀ n ∈ nums, -9223372036854775808 ≤ n ∧ n ≤ 9223372036854775807) ∧ (i < len → nums.length ≤ 140737488351232) := by
        rcases open_ints u1 v1 r1 g1 with ⟨hcs, _⟩ | ⟨y, l, c, zs, hcs, _, hl', hm', hz', hx', hc', hw'⟩
        · simp at hcs
          exact ⟨none, 0, [], hcs, Rd.none w, by simp, fun _ => by simp⟩
        · simp at hcs
          obtain ⟨l', e', hr', hb'⟩ := Rd.ofInts hl' hm' (by simpa using hz') hc' hw'
          refine ⟨_, _, l', by rw [hcs, e'], hr', hb', fun hil => ?_⟩
          have h7 := hw1 hil (((lits (H := H) IntKind.i64 (zs.take l)).length + (lits (H := H) IntKind.i64 (zs.drop l)).length) * P.bytesOf q1) (by rw [hx']; simp [DataW.weights, u1])
          rw [b1] at h7
          simp only [lits, List.length_map, List.length_take, List.length_drop, reachBytes] at h7
          simp only [if_true] at hz'
          omega
      obtain ⟨ar, cr, raw, hw2', hrr, hzr⟩ : ∃ (ar : Option Addr) (cr : Nat) (raw : List UInt8), x2 = .slice ar raw.length cr ∧ Rd w ar cr (B8 raw) ∧ (i < len → raw.length ≤ 140737488351232) := by
        rcases open_ints u2 v2 r2 g2 with ⟨hcs, _⟩ | ⟨y, l, c, zs, hcs, _, hl', hm', hz', hx', hc', hw'⟩
        · simp at hcs
          exact ⟨none, 0, [], hcs, Rd.none w, fun _ => by simp⟩
        · simp at hcs
          obtain ⟨l', e', hr'⟩ := Rd.ofBytes hl' hm' (by simpa using hz') hc' hw'
          refine ⟨_, _, l', by rw [hcs, e'], hr', fun hil => ?_⟩
          have h7 := hw2 hil (((lits (H := H) IntKind.u8 (zs.take l)).length + (lits (H := H) IntKind.u8 (zs.drop l)).length) * P.bytesOf q2) (by rw [hx']; simp [DataW.weights, u2])
          rw [b2] at h7
          simp only [lits, List.length_map, List.length_take, List.length_drop, reachBytes] at h7
          simp only [if_true] at hz'
          omega
      subst hn hw2'
      exact ⟨(⟨z, nums, raw⟩, an, cn, ar, cr), e0, e1, e2, hrn, hbn, hrr, fun hil => ⟨hzn hil, hzr hil⟩⟩
  have each' : ∀ i, ∃ q : Stp × Option Addr × Nat × Option Addr × Nat, i < cap → (w.cell? ((⟨b, o, none⟩ : Addr).add (i * 3)) = some (.int .i64 q.1.kd) ∧ w.cell? ((⟨b, o, none⟩ : Addr).add (i * 3 + 1)) = some (.slice q.2.1 q.1.nums.length q.2.2.1) ∧ w.cell? ((⟨b, o, none⟩ : Addr).add (i * 3 + 2)) = some (.slice q.2.2.2.1 q.1.raw.length q.2.2.2.2) ∧
      Rd w q.2.1 q.2.2.1 (BI q.1.nums) ∧ (∀ n ∈ q.1.nums, -9223372036854775808 ≤ n ∧ n ≤ 9223372036854775807) ∧ Rd w q.2.2.2.1 q.2.2.2.2 (B8 q.1.raw) ∧ (i < len → q.1.nums.length ≤ 140737488351232 ∧ q.1.raw.length ≤ 140737488351232)) := by
    intro i
    by_cases hi : i < cap
    · obtain ⟨q, hq⟩ := each i hi
      exact ⟨q, fun _ => hq⟩
    · exact ⟨(⟨0, [], []⟩, none, 0, none, 0), fun h => absurd h hi⟩
  obtain ⟨f, hf⟩ := Classical.axiomOfChoice each'
  refine ⟨some ⟨b, o, none⟩, len, cap, (List.range len).map fun i => (f i).1, rfl, by simp, ⟨by simpa using hl, hm, fun i s hs => ?_⟩, fun s hs => ?_⟩
  · have hi : i < len := by
      have := (List.getElem?_eq_some_iff.1 hs).1
      simpa using this
    simp only [List.getElem?_map, List.getElem?_range hi, Option.map_some, Option.some.injEq] at hs
    subst hs
    obtain ⟨p1, p2, p3, p4, p5, p6, _⟩ := hf i (by omega)
    have hadd : ∀ j, (⟨b, o, none⟩ : Addr).add j = ⟨b, o + j, none⟩ := fun j => Addr.add_lit ..
    rw [hadd] at p1 p2 p3
    have hbl : b < w.heap.size := by
      by_cases hb' : b < w.heap.size
      · exact hb'
      · unfold World.cell? at p1
        rw [Array.getElem?_eq_none (by simpa using hb')] at p1
        simp at p1
    exact ⟨b, o, _, _, _, _, rfl, hbl, p1, by rw [Nat.add_assoc]; exact p2, by rw [Nat.add_assoc]; exact p3, p4, p5, p6⟩
  · obtain ⟨i, hi, rfl⟩ := List.mem_map.1 hs
    have hi := List.mem_range.1 hi
    obtain ⟨_, _, _, _, _, _, p7⟩ := hf i (by omega)
    exact p7 hi
end Go.Proofs.Yteenbobblbehoaa
