/- fsm's Apply: the contract. fsm's Command; a command made and applied: the contracts. fsm.New: the contract. The law's ints and known; what is kept beside a table. Plain: nodes, none twice, by digits and by the list. Plain: what a frozen volume may have, by the document. Plain: the document's commands do what the program's do. Conditions: each law's own premises. -/
import Derived.Test.YteenbobblbehoaaFsmOp
import Derived.Test.YteenbobblbehoaaWLaw
import Derived.Test.YteenbobblbehoaaWDecO
import Derived.BigQuiet
import Derived.Deep.QuietTactic
import Derived.Deep.Cut
import Derived.Deep.CutRange
import Derived.Deep.RegionHeld3
import Derived.Test.YteenbobblbehoaaFsmMem
import Derived.Test.YteenbobblbehoaaFsmL
import Derived.Test.YteenbobblbehoaaFsmSmall
import Derived.Test.YteenbobblbehoaaFsmChange
namespace Go.Proofs.Yteenbobblbehoaa
open Go Go.RowKit

/-- What bytes do with a table. -/
def applyBad (X : (Int × Int × Int × List Int × List UInt8) × Nat × Nat) (n : Nat) : Prop := X.2.2 ≠ 0 ∨ X.2.1 ≠ n ∨ X.1.1 ≠ 0 ∨ X.1.2.1 ≠ 0 ∨ 0 < X.1.2.2.2.2.length ∨ mayB X.1.2.2.1 X.1.2.2.2.1.length = false
open Classical in
noncomputable def applyL (L : List Vl) (b : List UInt8) : (List Int × Nat) × List Vl := if applyBad (wDec b) b.length then (([], 3), L) else opL L (wDec b).1.2.2.1 (wDec b).1.2.2.2.1
theorem wDec_len {b : List UInt8} {fr tt kd : Int} {nums : List Int} {data : List UInt8} {n : Nat} (h : wDec b = ((fr, tt, kd, nums, data), n, 0)) : nums.length ≤ 64 := by
  obtain ⟨h1, _⟩ := wDec_once h
  rcases wEnc_cases fr tt kd nums data with ⟨_, e⟩ | ⟨_, _, e⟩ | ⟨_, _, _, hl, _, _⟩
  · rw [e] at h1; simp at h1
  · rw [e] at h1; simp at h1
  · exact hl
theorem AnsP.lift {w W w' : World} {F : Nat → Prop} {t : Nat} {X : (List Int × Nat) × List Vl} {e : Ending} (hb : Below w.heap.size w W) (h : AnsP W F t X e w') : AnsP w F t X e w' := by
  obtain ⟨a, c, h1, h2, h3, h4⟩ := h
  exact ⟨a, c, h1, own_base h2 hb.size, h3.mono fun k h _ => h.elim .inl fun h => .inr ⟨Nat.le_trans hb.size h.1, h.2⟩, (Off.ofBelow hb).then h4⟩

theorem applyS {w V : World} {g t k : Nat} {x2 x3 xt : Value} (h : Below w.heap.size w V) (hg : g < w.heap.size) (ht : t < w.heap.size) (c2 : w.cell? ⟨g, 2, none⟩ = some x2) (c3 : w.cell? ⟨g, 3, none⟩ = some x3) (c : w.cell? ⟨t, 1 + k, none⟩ = some xt) :
    V.cell? ⟨g, 2, none⟩ = some x2 ∧ V.cell? ⟨g, 3, none⟩ = some x3 ∧ V.cell? ⟨t, 1 + k, none⟩ = some xt ∧ Below w.heap.size w V :=
  ⟨(h.cell hg).trans c2, (h.cell hg).trans c3, (h.cell ht).trans c, h⟩
theorem callFunc_fk (k : Nat) (h1 : 1 ≤ k) (h6 : k ≤ 6) (args : Array Value) (W : World) : (callFunc (fkN k) args).run Try.prog W = .ok (.enter (fkN k) args) W := by
  rcases (by omega : k = 1 ∨ k = 2 ∨ k = 3 ∨ k = 4 ∨ k = 5 ∨ k = 6) with rfl | rfl | rfl | rfl | rfl | rfl <;> kernel_rfl

set_option maxRecDepth 100000 in
set_option maxHeartbeats 4000000 in
theorem apply_any (w : World) (F : Nat → Prop) (t : Nat) (L : List Vl) (hT : TabI w F t L) (hok : OkL L) (a : Option Addr) (c : Nat) (b : List UInt8) (hr : Rd w a c (B8 b)) :
    Calls Try.prog 17 #[ptrV t, .slice a b.length c] w (AnsP w F t (applyL L b)) := by
  have hd := wDecode_any w a c b hr
  obtain ⟨X, hX⟩ : ∃ X, X = applyL L b := ⟨_, rfl⟩
  rw [← hX]
  unfold applyL at hX
  obtain ⟨⟨⟨fr, tt, kd, nums, data⟩, N, E⟩, hD⟩ : ∃ D, D = wDec b := ⟨_, rfl⟩
  rw [← hD] at hd hX
  obtain ⟨bn, hbn⟩ : ∃ bn, bn = b.length := ⟨_, rfl⟩
  rw [← hbn] at hd hX ⊢
  have HD := Lib.hid hd
  have HX := Lib.hid hX
  have HDD := Lib.hid hD
  have HT := Lib.hid hT
  have htl : t < w.heap.size := hT.lt
  have hbl : (bn : Int) ≤ 9223372036854775807 := by have := hr.le; rw [B8_length, ← hbn] at this; omega
  have HBN := Lib.hid hbn
  clear hd hX hD hT hr hbn
  unfold ptrV
  go_enter Try.func17, Try.ntmps17
  go_wp2_with fail
  refine HD.out.mono ?_
  rintro e w1 ⟨an, cn, ad, cd, rfl, ho1, ho2, hb1⟩
  dsimp only at ho1 ho2
  have hTw := HT.out.kept hb1
  obtain ⟨ta, tc, ht1, _⟩ := hTw.head
  have hkt := fun k h1 h6 => (ht1.cell (1 + k)).trans (tblC_at t _ k h1 h6)
  have hB0 : BlkV (w1.alloc (.cells #[.int .i64 0, .int .i64 0, .int .i64 0, .slice none 0 0, .slice none 0 0] 71)) w1.heap.size 71 #[.int .i64 0, .int .i64 0, .int .i64 0, .slice none 0 0, .slice none 0 0] := BlkV.new w1 _ _
  obtain ⟨g, hg⟩ : ∃ g, g = w1.heap.size := ⟨_, rfl⟩
  rw [← hg] at hB0
  have HG := Lib.hid hg
  clear hg
  go_wp2_with (with_reducible refine At.store 71 (.tmp 6) (.tmp 14) ?_)
  rw [← HG.out]
  refine At.out (wpList_storeV rfl _ rfl (.tmp 6) (.tmp 14) rfl strM g _ #[.int .i64 fr, .int .i64 tt, .int .i64 kd, .slice an nums.length cn, .slice ad data.length cd] rfl rfl hB0 rfl rfl (by simp [Value.oneCell']) ?_)
  intro w2 hB2 hbel _
  have hb2 : Below w1.heap.size w1 w2 := hbel _ w1 ((Below.refl _ _).alloc (Nat.le_refl _) _) (Nat.le_of_eq HG.out.symm)
  have htg : t < g := by have := hb1.size; have := HG.out; omega
  have htw2 : t < w2.heap.size := by have := hB2.lt; omega
  have hgw2 : g < w2.heap.size := hB2.lt
  have hk2 : ∀ k, 1 ≤ k → k ≤ 6 → w2.cell? ⟨t, 1 + k, none⟩ = some (fnV t (fkN k)) := fun k h1 h6 => (hb2.cell (p := ⟨t, 1 + k, none⟩) (by have := HG.out; simp; omega)).trans (hkt k h1 h6)
  have HT2 := Lib.hid (hTw.kept hb2)
  obtain ⟨a', c', hv', hRn⟩ := TRd.ofOwn ho1
  simp only [Value.slice.injEq, true_and] at hv'
  obtain ⟨rfl, rfl⟩ := hv'
  have HRn := Lib.hid (hRn.kept hb2)
  have HB12 := Lib.hid (hb1.trans (hb2.mono hb1.size))
  have m0 := hB2.cell 0
  have m1 := hB2.cell 1
  have m2 := hB2.cell 2
  have m3 := hB2.cell 3
  have m4 := hB2.cell 4
  simp only [List.getElem?_toArray, List.getElem?_cons_succ, List.getElem?_cons_zero] at m0 m1 m2 m3 m4
  have hln : nums.length ≤ 9223372036854775807 := by have := hRn.1.le; rw [BI_length] at this; exact this
  have HK2 := Lib.hid hk2
  clear hRn ho1 ho2 hb1 hb2 hTw ht1 hkt hB0 hbel hB2 hk2
  go_upto_region 4 with (fail)
  have hdr : ∀ q, Below w.heap.size w (w2.drewN q) := fun q => below_drewN HB12.out q
  have HDR := Lib.hid hdr
  clear hdr
  by_cases g1 : E = 0
  case neg =>
    have q1 : ((E : Int) != 0) = true := by rw [bne_iff_ne]; omega
    have hx := HX.out
    rw [if_pos (.inl g1)] at hx
    have HXX := Lib.hid hx
    clear hx g1
    go_quiet (fail)
    go_wp2
    go_ret2
    rw [HXX.out]
    exact AnsP.no 3 HT.out (HDR.out _)
  have q1 : ((E : Int) != 0) = false := by rw [g1]; rfl
  by_cases g2 : N = bn
  case neg =>
    have q2 : ((N : Int) != (bn : Int)) = true := by rw [bne_iff_ne]; omega
    have hx := HX.out
    rw [if_pos (.inr (.inl g2))] at hx
    have HXX := Lib.hid hx
    clear hx g1 g2
    go_quiet (fail)
    go_wp2
    go_ret2
    rw [HXX.out]
    exact AnsP.no 3 HT.out (HDR.out _)
  have q2 : ((N : Int) != (bn : Int)) = false := by rw [g2]; simp
  by_cases g3 : fr = 0
  case neg =>
    have q3 : (fr != 0) = true := by simpa using g3
    have hx := HX.out
    rw [if_pos (.inr (.inr (.inl g3)))] at hx
    have HXX := Lib.hid hx
    clear hx g1 g2 g3
    go_quiet (fail)
    go_wp2
    go_ret2
    rw [HXX.out]
    exact AnsP.no 3 HT.out (HDR.out _)
  have q3 : (fr != 0) = false := by rw [g3]; rfl
  by_cases g4 : tt = 0
  case neg =>
    have q4 : (tt != 0) = true := by simpa using g4
    have hx := HX.out
    rw [if_pos (.inr (.inr (.inr (.inl g4))))] at hx
    have HXX := Lib.hid hx
    clear hx g1 g2 g3 g4
    go_quiet (fail)
    go_wp2
    go_ret2
    rw [HXX.out]
    exact AnsP.no 3 HT.out (HDR.out _)
  have q4 : (tt != 0) = false := by rw [g4]; rfl
  by_cases g5 : 0 < data.length
  case pos =>
    have q5 : 0 < data.length := g5
    have hx := HX.out
    rw [if_pos (.inr (.inr (.inr (.inr (.inl g5)))))] at hx
    have HXX := Lib.hid hx
    clear hx g1 g2 g3 g4 g5
    go_quiet (fail)
    go_wp2
    go_ret2
    rw [HXX.out]
    exact AnsP.no 3 HT.out (HDR.out _)
  have q5 : data.length = 0 := by omega
  have hmay := fun W => may_any W kd nums.length hln
  cases g6 : mayB kd nums.length
  case false =>
    have hx := HX.out
    rw [if_pos (.inr (.inr (.inr (.inr (.inr g6)))))] at hx
    have HXX := Lib.hid hx
    rw [g6] at hmay
    have HMY := Lib.hid hmay
    clear hx g1 g2 g3 g4 g5 g6 hmay
    go_quiet ((go_at_call 35; exact Calls.quiet_of_same (HMY.out _)))
    go_wp2
    go_ret2
    rw [HXX.out]
    exact AnsP.no 3 HT.out (HDR.out _)
  have hx := HX.out
  rw [if_neg (by rintro (h | h | h | h | h | h) <;> first | exact h g1 | exact h g2 | exact h g3 | exact h g4 | exact g5 h | simp [g6] at h)] at hx
  have HXX := Lib.hid hx
  obtain ⟨k, rfl, k1, k6⟩ := mayB_kd g6
  have hop := fun W (hb : Below w2.heap.size w2 W) => op_any W F t L (HT2.out.kept hb) hok k k1 k6 an cn nums.length nums rfl (HRn.out.kept hb)
  rw [g6] at hmay
  have HMY := Lib.hid hmay
  have hcell := HK2.out k k1 k6
  have hk7 : (k : Int) < 7 := by omega
  have hlen64 : nums.length ≤ 64 := wDec_len (by rw [← HDD.out, g1])
  have HOP := Lib.hid (fun W hb => hop W hb hlen64 g6)
  obtain ⟨ff, hff⟩ : ∃ ff, ff = fkN k := ⟨_, rfl⟩
  have hcf := callFunc_fk k k1 k6
  unfold fnV ptrV at hcell
  unfold ptrV at HOP
  rw [← hff] at hcell HOP
  simp only [← hff] at hcf
  clear hx g1 g2 g3 g4 g5 g6 hmay hop hlen64 hff
  have qf : ∀ W, (binOp .eql 55 (.func (.func ff) #[.pointer (some ⟨t, 0, none⟩)] #[]) .nilFunc).run Try.prog W = .ok (.bool false) W := fun W => rfl
  go_quiet ((go_at_call 35; exact Calls.quiet_of_same (HMY.out _)))
  go_upto_region 6 with (fail)
  go_region_with ((refine (HOP.out _ (below_drewN (Below.refl _ _) _)).mono ?_); (intro e w3 h3); (obtain ⟨a3, n3, c3, k3, rfl, h4⟩ := AnsP.slice h3); (have H4 := Lib.hid h4); (clear h3 h4))
  all_goals
    go_wp2
    go_ret2
    rw [HXX.out]
    exact AnsP.lift (HDR.out _) H4.out
end Go.Proofs.Yteenbobblbehoaa

namespace Go.Proofs.Yteenbobblbehoaa
open Go Go.RowKit

/-- A command's bytes. -/
def cmdL (kd : Int) (nums : List Int) : List UInt8 × Nat := if kd < 1 ∨ 6 < kd then ([], 1) else if 64 < nums.length then ([], 1) else (encL (bodyL 0 0 kd.toNat nums []), 0)
/-- What a command that is made and applied does. -/
def doL (L : List Vl) (kd : Int) (nums : List Int) : (List Int × Nat) × List Vl :=
  if kd < 1 ∨ 6 < kd then (([], 1), L) else if 64 < nums.length then (([], 1), L) else if mayB kd nums.length = true then opL L kd nums else (([], 3), L)
theorem wEnc_cmd {kd : Int} {nums : List Int} (h : ¬ (kd < 1 ∨ 6 < kd)) : wEnc 0 0 kd nums [] = if 64 < nums.length then ([], 1) else (encL (bodyL 0 0 kd.toNat nums []), 0) := by
  unfold wEnc wBad
  have h0 : smallB 0 = true := by decide
  have hk : smallB kd = true := by simp [smallB]; omega
  rw [h0, hk]
  by_cases hl : 64 < nums.length
  · simp [hl]
  · simp [hl]

set_option maxRecDepth 100000 in
set_option maxHeartbeats 4000000 in
theorem command_any (w : World) (kd : Int) (an : Option Addr) (cn : Nat) (nums : List Int) (hrn : Rd w an cn (BI nums)) (hbn : ∀ n ∈ nums, -9223372036854775808 ≤ n ∧ n ≤ 9223372036854775807) :
    Calls Try.prog 28 #[.int .i64 kd, .slice an nums.length cn] w (WAP w (cmdL kd nums)) := by
  have he := wEncode_any 0 0 kd an cn nums none 0 [] w hrn hbn (Rd.none _)
  have HE := Lib.hid he
  clear he hrn hbn
  obtain ⟨m, hm⟩ : ∃ m, m = nums.length := ⟨_, rfl⟩
  unfold msgV at HE
  have hz : ([] : List UInt8).length = 0 := rfl
  rw [hz, ← hm] at HE
  rw [← hm]
  by_cases h1 : kd < 1
  · have hX : cmdL kd nums = ([], 1) := by unfold cmdL; rw [if_pos (.inl h1)]
    rw [hX]
    clear hX hm hz
    go_enter Try.func28, Try.ntmps28
    go_wp2
    go_ret2
    exact ⟨none, 0, rfl, Rd.none _, Below.refl _ _⟩
  by_cases h2 : 6 < kd
  · have hX : cmdL kd nums = ([], 1) := by unfold cmdL; rw [if_pos (.inr h2)]
    rw [hX]
    have h7 : 7 ≤ kd := by omega
    clear hX hm hz
    go_enter Try.func28, Try.ntmps28
    go_wp2
    go_ret2
    exact ⟨none, 0, rfl, Rd.none _, Below.refl _ _⟩
  have h7 : ¬ 7 ≤ kd := by omega
  have hn12 : ¬ (kd < 1 ∨ 6 < kd) := by omega
  have hw := wEnc_cmd (nums := nums) hn12
  have hX : cmdL kd nums = if 64 < nums.length then ([], 1) else (encL (bodyL 0 0 kd.toNat nums []), 0) := by unfold cmdL; rw [if_neg hn12]
  rw [hX]
  rw [hw] at HE
  clear hX hw hn12 h2 hz
  by_cases h3 : 64 < nums.length
  · rw [if_pos h3] at HE ⊢
    clear h3 hm
    go_enter Try.func28, Try.ntmps28
    go_wp2_with fail
    refine HE.out.mono ?_
    rintro e w1 ⟨a1, c1, rfl, hr1, hb1⟩
    have HB := Lib.hid hb1
    clear hr1 hb1
    go_wp2
    go_ret2
    exact ⟨none, 0, rfl, Rd.none _, HB.out⟩
  · rw [if_neg h3] at HE ⊢
    obtain ⟨R, hR⟩ : ∃ R, R = encL (bodyL 0 0 kd.toNat nums []) := ⟨_, rfl⟩
    rw [← hR] at HE ⊢
    clear h3 hm hR
    go_enter Try.func28, Try.ntmps28
    go_wp2_with fail
    refine HE.out.mono ?_
    rintro e w1 ⟨a1, c1, rfl, hr1, hb1⟩
    have HB := Lib.hid hb1
    have HR1 := Lib.hid hr1
    clear hr1 hb1
    go_wp2
    go_ret2
    exact ⟨a1, c1, rfl, HR1.out, HB.out⟩

theorem applyL_cmd (L : List Vl) {kd : Int} {nums : List Int} (h : ¬ (kd < 1 ∨ 6 < kd)) (hl : ¬ 64 < nums.length) (hbn : ∀ n ∈ nums, -9223372036854775808 ≤ n ∧ n ≤ 9223372036854775807) :
    applyL L (encL (bodyL 0 0 kd.toNat nums [])) = if mayB kd nums.length = true then opL L kd nums else (([], 3), L) := by
  have hb := wDec_back 0 0 kd nums [] [] (by decide) (by decide) (by simp [smallB]; omega) hbn (by omega) (by simp)
  rw [List.append_nil] at hb
  have hb : wDec (encL (bodyL 0 0 kd.toNat nums [])) = ((0, 0, kd, nums, []), 8 + (bodyL 0 0 kd.toNat nums []).length, 0) := hb
  unfold applyL
  rw [hb]
  by_cases hm : mayB kd nums.length = true
  · rw [if_pos hm, if_neg]
    unfold applyBad
    rintro (h | h | h | h | h | h)
    · exact h rfl
    · exact h (encL_length _).symm
    · exact h rfl
    · exact h rfl
    · simp at h
    · rw [hm] at h; cases h
  · rw [if_neg hm, if_pos]
    unfold applyBad
    right; right; right; right; right
    simpa using hm

set_option maxRecDepth 100000 in
set_option maxHeartbeats 4000000 in
theorem do_any (w : World) (F : Nat → Prop) (t : Nat) (L : List Vl) (hT : TabI w F t L) (hok : OkL L) (kd : Int) (an : Option Addr) (cn : Nat) (nums : List Int) (hrn : Rd w an cn (BI nums)) (hbn : ∀ n ∈ nums, -9223372036854775808 ≤ n ∧ n ≤ 9223372036854775807) :
    Calls Try.prog 11 #[ptrV t, .int .i64 kd, .slice an nums.length cn] w (AnsP w F t (doL L kd nums)) := by
  have hc := command_any w kd an cn nums hrn hbn
  have HT := Lib.hid hT
  obtain ⟨m, hm⟩ : ∃ m, m = nums.length := ⟨_, rfl⟩
  rw [← hm] at hc ⊢
  unfold cmdL at hc
  unfold doL
  by_cases h1 : kd < 1 ∨ 6 < kd
  · rw [if_pos h1] at hc ⊢
    have HC := Lib.hid hc
    clear hc h1 hm hrn hbn hT hok
    unfold ptrV
    go_enter Try.func11, Try.ntmps11
    go_wp2_with fail
    refine HC.out.mono ?_
    rintro e w1 ⟨a1, c1, rfl, hr1, hb1⟩
    have HB := Lib.hid hb1
    clear hr1 hb1
    go_wp2
    go_ret2
    exact AnsP.no 1 HT.out HB.out
  rw [if_neg h1] at hc ⊢
  by_cases h2 : 64 < nums.length
  · rw [if_pos h2] at hc ⊢
    have HC := Lib.hid hc
    clear hc h1 h2 hm hrn hbn hT hok
    unfold ptrV
    go_enter Try.func11, Try.ntmps11
    go_wp2_with fail
    refine HC.out.mono ?_
    rintro e w1 ⟨a1, c1, rfl, hr1, hb1⟩
    have HB := Lib.hid hb1
    clear hr1 hb1
    go_wp2
    go_ret2
    exact AnsP.no 1 HT.out HB.out
  rw [if_neg h2] at hc ⊢
  rw [← applyL_cmd L h1 h2 hbn]
  obtain ⟨R, hR⟩ : ∃ R, R = encL (bodyL 0 0 kd.toNat nums []) := ⟨_, rfl⟩
  rw [← hR] at hc ⊢
  have hap := fun W (hb : Below w.heap.size w W) a c (hr : Rd W a c (B8 R)) => apply_any W F t L (hT.kept hb) hok a c R hr
  obtain ⟨Y, hY⟩ : ∃ Y, Y = applyL L R := ⟨_, rfl⟩
  rw [← hY] at hap ⊢
  have HC := Lib.hid hc
  have HA := Lib.hid hap
  clear hc hap h1 h2 hm hrn hbn hT hok hR hY
  unfold ptrV at HA ⊢
  go_enter Try.func11, Try.ntmps11
  go_wp2_with fail
  refine HC.out.mono ?_
  rintro e w1 ⟨a1, c1, rfl, hr1, hb1⟩
  have h5 := HA.out w1 hb1 a1 c1 hr1
  have H5 := Lib.hid h5
  have HB := Lib.hid hb1
  clear h5 hr1 hb1
  dsimp only
  go_wp2_with fail
  refine H5.out.mono ?_
  intro e w2 h6
  obtain ⟨a3, n3, c3, k3, rfl, h7⟩ := AnsP.slice h6
  have H7 := Lib.hid h7
  clear h6 h7
  go_wp2
  go_ret2
  exact AnsP.lift HB.out H7.out
end Go.Proofs.Yteenbobblbehoaa

namespace Go.Proofs.Yteenbobblbehoaa
open Go Go.RowKit

theorem TabI.new {w : World} {F : Nat → Prop} {t : Nat} (h : BlkV w t 58 (tblC t (.slice none 0 0))) (hF : F t) : TabI w F t [] :=
  ⟨⟨none, 0, [], h, World.ownsRow_nil _ _ _ _, fun k hk => by simp [Value.ownBlock] at hk, rfl, List.nodup_nil, fun i p V hp => by simp at hp⟩, hF⟩

set_option maxRecDepth 100000 in
set_option maxHeartbeats 2000000 in
theorem new_any (w : World) (F : Nat → Prop) (hF : F w.heap.size) : Calls Try.prog 10 #[] w fun e w' => e = .returned (ptrV w.heap.size) ∧ TabI w' F w.heap.size [] ∧ Below w.heap.size w w' ∧ w.heap.size < w'.heap.size := by
  have hmf : ∀ (fn : Fn) (first cap : Array Value) (w : World), (Instr.makeFunc fn first cap).run Try.prog w = .ok (.func fn first cap) w := fun _ _ _ _ => rfl
  obtain ⟨t, ht⟩ : ∃ t, t = w.heap.size := ⟨_, rfl⟩
  have HT := Lib.hid ht
  rw [← ht] at hF ⊢
  have hB0 : BlkV (w.alloc (.cells #[.slice none 0 0, .nilFunc, .nilFunc, .nilFunc, .nilFunc, .nilFunc, .nilFunc, .nilFunc] 58)) t 58 #[.slice none 0 0, .nilFunc, .nilFunc, .nilFunc, .nilFunc, .nilFunc, .nilFunc, .nilFunc] := by rw [ht]; exact BlkV.new w _ _
  clear ht
  go_enter Try.func10, Try.ntmps10
  go_wp2_with (with_reducible refine At.store 56 (.tmp 19) (.tmp 17) ?_)
  rw [← HT.out]
  refine At.out (wpList_storeOff (t := 58) rfl _ rfl _ (.tmp 19) (.tmp 17) rfl t 1 #[.slice none 0 0, .nilFunc, .nilFunc, .nilFunc, .nilFunc, .nilFunc, .nilFunc, .nilFunc] #[.nilFunc, fnV t 22, fnV t 23, fnV t 24, fnV t 25, fnV t 26, fnV t 27] rfl rfl (by kernel_rfl) hB0 (by simp) (by simp [fnV, Value.oneCell']) ?_)
  intro w1 hB1 ho1
  have hb1 : Below t w w1 := by
    have h0 : Below t w (w.alloc (.cells #[.slice none 0 0, .nilFunc, .nilFunc, .nilFunc, .nilFunc, .nilFunc, .nilFunc, .nilFunc] 58)) := (Below.refl _ _).alloc (by have := HT.out; omega) _
    exact h0.trans (ho1.toBelow (by have := HT.out; simp; omega) (fun x hx => by have hx : x = t := hx; omega))
  have hsz : t < w1.heap.size := hB1.lt
  go_wp2
  go_ret
  exact ⟨rfl, TabI.new hB1 hF, hb1, hsz⟩
end Go.Proofs.Yteenbobblbehoaa

namespace Go.Proofs.Yteenbobblbehoaa
open Go Go.RowKit

/-- What reads, beside a table with blocks out of F. -/
def Beside (w : World) (F : Nat → Prop) (a : Option Addr) (c : Nat) (xs : List Value) : Prop := Rd w a c xs ∧ ∀ b o, xs ≠ [] → a = some ⟨b, o, none⟩ → ¬ F b ∧ b < w.heap.size
theorem Beside.off {w w' : World} {F F' : Nat → Prop} {a : Option Addr} {c : Nat} {xs : List Value} (h : Beside w F a c xs) (ho : Off F w w') (hF : ∀ k, F' k → F k ∨ w.heap.size ≤ k) : Beside w' F' a c xs :=
  ⟨h.1.offB ho fun b o hx ha => (h.2 b o hx ha).1, fun b o hx ha => ⟨fun hf => (hF b hf).elim (h.2 b o hx ha).1 (by have := (h.2 b o hx ha).2; omega), by have := (h.2 b o hx ha).2; have := ho.size; omega⟩⟩
theorem Beside.kept {w w' : World} {F : Nat → Prop} {a : Option Addr} {c : Nat} {xs : List Value} (h : Beside w F a c xs) (hb : Below w.heap.size w w') : Beside w' F a c xs :=
  h.off (Off.ofBelow hb) fun _ h => .inl h
theorem AnsP.next {w w' : World} {F : Nat → Prop} {t : Nat} {X : (List Int × Nat) × List Vl} {e : Ending} (h : AnsP w F t X e w') (hF : ∀ k, F k → k < w.heap.size) :
    ∃ a c F', e = .returned (.tuple #[.slice a X.1.1.length c, .int .i64 (X.1.2 : Int)]) ∧ Beside w' F' a c (BI X.1.1) ∧ TabI w' F' t X.2 ∧ (∀ k, F' k → k < w'.heap.size) ∧ (∀ k, F' k → F k ∨ w.heap.size ≤ k) ∧ Off F w w' := by
  obtain ⟨a, c, rfl, h1, h2, h3⟩ := h
  obtain ⟨a', c', hv, hr⟩ := TRd.ofOwn h1
  simp only [Value.slice.injEq, true_and] at hv
  obtain ⟨rfl, rfl⟩ := hv
  refine ⟨a, c, fun k => NewF F w a k ∧ k < w'.heap.size, rfl, ⟨hr.1, fun b o hx ha => ?_⟩, h2.mono fun k h hk => ⟨h, hk⟩, fun k h => h.2, fun k h => h.1.elim .inl fun h => .inr h.1, h3⟩
  obtain ⟨cs, fr, hh⟩ := hr.2 b o hx ha
  refine ⟨fun hf => ?_, (Array.getElem?_eq_some_iff.1 hh).1⟩
  rcases hf.1 with h | h
  · have h4 := hF b h
    rcases h1.2 with ⟨e, _⟩ | ⟨g, cap, cur, e, hg, _⟩
    · rw [ha] at e; simp at e
    · rw [ha] at e
      simp only [Value.slice.injEq, Option.some.injEq, Addr.mk.injEq] at e
      omega
  · exact h.2 o ha

set_option maxRecDepth 100000 in
set_option maxHeartbeats 1000000 in
theorem ints_any (w : World) (a1 a2 : Option Addr) (c1 c2 : Nat) (l1 l2 : List Int) (h1 : Rd w a1 c1 (BI l1)) (h2 : Rd w a2 c2 (BI l2)) :
    Calls Try.prog 15 #[.slice a1 l1.length c1, .slice a2 l2.length c2] w fun e w' => e = .returned (.bool (decide (l1 = l2))) ∧ Qt w w' := by
  obtain ⟨n1, hn1⟩ : ∃ n1, n1 = l1.length := ⟨_, rfl⟩
  obtain ⟨n2, hn2⟩ : ∃ n2, n2 = l2.length := ⟨_, rfl⟩
  rw [← hn1, ← hn2]
  have hle := h1.le
  rw [BI_length, ← hn1] at hle
  by_cases hn : n1 = n2
  case neg =>
    have hd : decide (l1 = l2) = false := decide_eq_false fun e => hn (by rw [hn1, hn2, e])
    have hb : ((n1 : Int) != (n2 : Int)) = true := by rw [bne_iff_ne]; omega
    rw [hd]
    clear hd hn hn1 hn2 h1 h2
    go_enter Try.func15, Try.ntmps15
    go_wp2
    go_ret
    exact ⟨rfl, Qt.refl _⟩
  subst hn
  obtain ⟨R, hR⟩ : ∃ R, R = decide (l1 = l2) := ⟨_, rfl⟩
  rw [← hR]
  have HR := Lib.hid hR
  have H1 := Lib.hid hn1
  have H2 := Lib.hid hn2
  clear hR hn1 hn2
  go_enter Try.func15, Try.ntmps15
  go_wp2
  go_loopw [5] (fun s5 wr => ∃ (k q : Nat), k ≤ n1 ∧ s5 = .int .i64 k ∧ wr = w.drewN q ∧ Hid (l1.take k = l2.take k)) (fun s5 _ => n1 - (intOf s5).toNat)
  case atStart => exact ⟨0, 0, by omega, rfl, rfl, rfl⟩
  case round =>
    obtain ⟨k, q, hk, rfl, rfl, hK⟩ := hrel
    by_cases hlt : k < n1
    · have hk1 : k < l1.length := by have := H1.out; omega
      have hk2 : k < l2.length := by have := H2.out; omega
      obtain ⟨b1, o1, rfl, u1⟩ := h1.cs.bi k hk1
      obtain ⟨b2, o2, rfl, u2⟩ := h2.cs.bi k hk2
      obtain ⟨x, hx⟩ : ∃ x, x = l1[k] := ⟨_, rfl⟩
      obtain ⟨y, hy⟩ : ∃ y, y = l2[k] := ⟨_, rfl⟩
      rw [← hx] at u1
      rw [← hy] at u2
      have HX := Lib.hid hx
      have HY := Lib.hid hy
      clear hx hy
      have hki : (k : Int) < (n1 : Int) := by omega
      by_cases he : x = y
      · have hne : (x != y) = false := by simp [he]
        have HE := Lib.hid he
        clear he
        go_wp2
        go_quiet (fail)
        go_wp2
        go_roundw
        case rel => exact ⟨k + 1, _, by omega, by go_num, rfl, by show l1.take (k + 1) = l2.take (k + 1); rw [List.take_succ_eq_append_getElem hk1, List.take_succ_eq_append_getElem hk2, hK.out, ← HX.out, ← HY.out, HE.out]⟩
        case measure => simp [intOf]; omega
      · have hne : (x != y) = true := by simpa using he
        have hRf : R = false := by
          rw [HR.out]
          refine decide_eq_false fun e => he ?_
          rw [HX.out, HY.out]
          simp only [e]
        have HRF := Lib.hid hRf
        clear he hRf
        go_wp2
        go_quiet (fail)
        go_wp2
        go_ret
        rw [HRF.out]
        exact ⟨rfl, Qt.drew ⟨_, rfl⟩ _⟩
    · have hRt : R = true := by
        rw [HR.out]
        refine decide_eq_true ?_
        have := hK.out
        rwa [List.take_of_length_le (by have := H1.out; omega), List.take_of_length_le (by have := H2.out; omega)] at this
      have HRT := Lib.hid hRt
      clear hRt
      go_wp2
      go_ret
      rw [HRT.out]
      exact ⟨rfl, _, rfl⟩

/-- A table in a world W that came out of w. -/
structure St (w W : World) (F : Nat → Prop) (t : Nat) (L : List Vl) : Prop where
  tab : TabI W F t L
  lt : ∀ k, F k → k < W.heap.size
  new : ∀ k, F k → w.heap.size ≤ k
  bel : Below w.heap.size w W
theorem St.kept {w W W' : World} {F : Nat → Prop} {t : Nat} {L : List Vl} (h : St w W F t L) (hb : Below W.heap.size W W') : St w W' F t L :=
  ⟨h.tab.kept hb, fun k hk => by have := h.lt k hk; have := hb.size; omega, h.new, h.bel.trans (hb.mono h.bel.size)⟩
theorem St.next {w W w' : World} {F : Nat → Prop} {t : Nat} {L : List Vl} {X : (List Int × Nat) × List Vl} {e : Ending} (hs : St w W F t L) (h : AnsP W F t X e w') :
    ∃ a c F', e = .returned (.tuple #[.slice a X.1.1.length c, .int .i64 (X.1.2 : Int)]) ∧ Beside w' F' a c (BI X.1.1) ∧ St w w' F' t X.2 ∧ (∀ k, F' k → F k ∨ W.heap.size ≤ k) ∧ Off F W w' := by
  obtain ⟨a, c, F', rfl, h1, h2, h3, h4, h5⟩ := h.next hs.lt
  refine ⟨a, c, F', rfl, h1, ⟨h2, h3, fun k hk => (h4 k hk).elim (hs.new k) (by have := hs.bel.size; omega), hs.bel.trans (h5.toBelow hs.bel.size hs.new)⟩, h4, h5⟩
theorem St.begin {w W : World} {t : Nat} (_ht : t = w.heap.size) (hT : TabI W (fun k => k = w.heap.size) t []) (hb : Below w.heap.size w W) (hz : w.heap.size < W.heap.size) : St w W (fun k => k = w.heap.size) t [] :=
  ⟨hT, fun k hk => by omega, fun k hk => by omega, hb⟩
theorem below_lit (w : World) (C : Array Value) (t : TypeId) : Below w.heap.size w (w.alloc (.cells C t)) := (Below.refl _ _).alloc (Nat.le_refl _) _
theorem okV1 : OkL [⟨0, 1, [3, 4], false, 1⟩] := by
  intro V hV
  simp only [List.mem_singleton] at hV
  subst hV
  simp [OkV]
theorem okV2 : OkL [⟨0, 2, [4], true, 1⟩] := by
  intro V hV
  simp only [List.mem_singleton] at hV
  subst hV
  simp [OkV]
theorem okV0 : OkL [] := fun V hV => by simp at hV

set_option maxRecDepth 100000 in
set_option maxHeartbeats 4000000 in
theorem fsmKnown_any (w : World) : Calls Try.prog 9 #[] w fun e w' => e = .returned (.bool true) ∧ Below w.heap.size w w' := by
  have hnew := new_any w (fun k => k = w.heap.size) rfl
  have d1 : doL [] 2 [3, 4] = (([1], 0), [⟨0, 1, [3, 4], false, 1⟩]) := by rfl
  have d2 : doL [⟨0, 1, [3, 4], false, 1⟩] 5 [1, 1, 0, 4] = (([2], 0), [⟨0, 2, [4], true, 1⟩]) := by rfl
  have d3 : doL [⟨0, 2, [4], true, 1⟩] 6 [1, 2, 0, 4, 5] = (([3], 0), [⟨0, 3, [4, 5], false, 1⟩]) := by rfl
  have H1 : Hid (∀ W F a c, TabI W F w.heap.size [] → Rd W a c (BI [3, 4]) → Calls Try.prog 11 #[.pointer (some ⟨w.heap.size, 0, none⟩), .int .i64 2, .slice a 2 c] W (AnsP W F w.heap.size (([1], 0), [⟨0, 1, [3, 4], false, 1⟩]))) := fun W F a c hT hr => d1 ▸ do_any W F w.heap.size [] hT okV0 2 a c [3, 4] hr (by simp)
  have H2 : Hid (∀ W F a c, TabI W F w.heap.size [⟨0, 1, [3, 4], false, 1⟩] → Rd W a c (BI [1, 1, 0, 4]) → Calls Try.prog 11 #[.pointer (some ⟨w.heap.size, 0, none⟩), .int .i64 5, .slice a 4 c] W (AnsP W F w.heap.size (([2], 0), [⟨0, 2, [4], true, 1⟩]))) := fun W F a c hT hr => d2 ▸ do_any W F w.heap.size _ hT okV1 5 a c [1, 1, 0, 4] hr (by simp)
  have H3 : Hid (∀ W F a c, TabI W F w.heap.size [⟨0, 2, [4], true, 1⟩] → Rd W a c (BI [1, 2, 0, 4, 5]) → Calls Try.prog 11 #[.pointer (some ⟨w.heap.size, 0, none⟩), .int .i64 6, .slice a 5 c] W (AnsP W F w.heap.size (([3], 0), [⟨0, 3, [4, 5], false, 1⟩]))) := fun W F a c hT hr => d3 ▸ do_any W F w.heap.size _ hT okV2 6 a c [1, 2, 0, 4, 5] hr (by simp)
  have H0 := Lib.hid hnew
  clear hnew d1 d2 d3
  obtain ⟨t, ht⟩ : ∃ t, t = w.heap.size := ⟨_, rfl⟩
  have HTT := Lib.hid ht
  rw [← ht] at H1 H2 H3
  unfold ptrV at H0
  clear ht
  go_enter Try.func9, Try.ntmps9
  go_wp2_with fail
  refine H0.out.mono ?_
  rintro e w1 ⟨rfl, hT1, hb1, hz1⟩
  rw [← HTT.out] at hT1 ⊢
  have S1 := (HTT.out ▸ St.begin HTT.out (HTT.out ▸ hT1) hb1 hz1 : St w w1 (fun k => k = w.heap.size) t [])
  have hlit1 := S1.kept (below_lit w1 #[.int .i64 3, .int .i64 4] 3)
  have hr1 := Rd.lit w1 #[.int .i64 3, .int .i64 4] 3 (0, 0) (by unfold maxLen; simp)
  have P1 := Lib.hid hlit1
  have Q1 := Lib.hid (H1.out _ _ _ _ hlit1.tab hr1)
  clear hT1 hb1 hz1 S1 hlit1 hr1
  go_wp2_with fail
  refine Q1.out.mono ?_
  intro e w2 h2
  obtain ⟨a2, c2, F2, rfl, K2, S2, G2, O2⟩ := St.next P1.out h2
  dsimp only at K2 S2 ⊢
  have hlit2 := S2.kept (below_lit w2 #[.int .i64 1, .int .i64 1, .int .i64 0, .int .i64 4] 3)
  have hr2 := Rd.lit w2 #[.int .i64 1, .int .i64 1, .int .i64 0, .int .i64 4] 3 (0, 0) (by unfold maxLen; simp)
  have P2 := Lib.hid hlit2
  have Q2 := Lib.hid (H2.out _ _ _ _ hlit2.tab hr2)
  have M2 := Lib.hid (K2.kept (below_lit w2 #[.int .i64 1, .int .i64 1, .int .i64 0, .int .i64 4] 3))
  clear h2 K2 S2 G2 O2 hlit2 hr2
  go_wp2_with fail
  refine Q2.out.mono ?_
  intro e w3 h3
  obtain ⟨a3, c3, F3, rfl, K3, S3, G3, O3⟩ := St.next P2.out h3
  dsimp only at K3 S3 ⊢
  have hlit3 := S3.kept (below_lit w3 #[.int .i64 1, .int .i64 2, .int .i64 0, .int .i64 4, .int .i64 5] 3)
  have hr3 := Rd.lit w3 #[.int .i64 1, .int .i64 2, .int .i64 0, .int .i64 4, .int .i64 5] 3 (0, 0) (by unfold maxLen; simp)
  have P3 := Lib.hid hlit3
  have Q3 := Lib.hid (H3.out _ _ _ _ hlit3.tab hr3)
  have M3 := Lib.hid (K3.kept (below_lit w3 #[.int .i64 1, .int .i64 2, .int .i64 0, .int .i64 4, .int .i64 5] 3))
  have M23 := Lib.hid ((M2.out.off O3 G3).kept (below_lit w3 #[.int .i64 1, .int .i64 2, .int .i64 0, .int .i64 4, .int .i64 5] 3))
  clear h3 K3 S3 G3 O3 hlit3 hr3
  go_wp2_with fail
  refine Q3.out.mono ?_
  intro e w4 h4
  obtain ⟨a4, c4, F4, rfl, K4, S4, G4, O4⟩ := St.next P3.out h4
  dsimp only at K4 S4 ⊢
  have N2 := Lib.hid (M23.out.off O4 G4)
  have N3 := Lib.hid (M3.out.off O4 G4)
  have N4 := Lib.hid K4
  have HB4 := Lib.hid S4.bel
  have hi1 := ints_any (w4.alloc (.cells #[.int .i64 1] 3)) a2 (some ⟨w4.heap.size, 0, none⟩) c2 1 [1] [1] (N2.out.1.kept (below_lit w4 _ _)) (Rd.one w4 (.int .i64 1) _)
  have I1 := Lib.hid hi1
  clear h4 K4 S4 G4 O4 hi1
  go_wp2_with fail
  refine I1.out.mono ?_
  rintro e w5 ⟨rfl, hq5⟩
  have hb45 : Below w4.heap.size w4 w5 := (below_lit w4 _ _).trans (hq5.below _)
  have HB5 := Lib.hid (HB4.out.trans (hb45.mono HB4.out.size))
  have hi2 := ints_any (w5.alloc (.cells #[.int .i64 2] 3)) a3 (some ⟨w5.heap.size, 0, none⟩) c3 1 [2] [2] ((N3.out.1.kept hb45).kept (below_lit w5 _ _)) (Rd.one w5 (.int .i64 2) _)
  have I2 := Lib.hid hi2
  have HB45 := Lib.hid hb45
  clear hi2 hb45 hq5
  go_wp2_with fail
  refine I2.out.mono ?_
  rintro e w6 ⟨rfl, hq6⟩
  have hb56 : Below w5.heap.size w5 w6 := (below_lit w5 _ _).trans (hq6.below _)
  have HB6 := Lib.hid (HB5.out.trans (hb56.mono HB5.out.size))
  have hb46 := HB45.out.trans (hb56.mono HB45.out.size)
  have hi3 := ints_any (w6.alloc (.cells #[.int .i64 3] 3)) a4 (some ⟨w6.heap.size, 0, none⟩) c4 1 [3] [3] ((N4.out.1.kept hb46).kept (below_lit w6 _ _)) (Rd.one w6 (.int .i64 3) _)
  have I3 := Lib.hid hi3
  clear hi3 hb56 hb46 hq6
  go_wp2_with fail
  refine I3.out.mono ?_
  rintro e w7 ⟨rfl, hq7⟩
  have hb67 : Below w6.heap.size w6 w7 := (below_lit w6 _ _).trans (hq7.below _)
  have HB7 := Lib.hid (HB6.out.trans (hb67.mono HB6.out.size))
  clear hb67 hq7
  go_wp2
  go_ret
  exact ⟨rfl, HB7.out⟩
end Go.Proofs.Yteenbobblbehoaa

namespace Go.Proofs.Yteenbobblbehoaa
open Go Go.RowKit

/-- Is the digit n of m 1? -/
def bitW (m : UInt64) (n : Int) : Prop := (m >>> UInt64.ofNat n.toNat) &&& 1 = 1
theorem bitW_test (m : UInt64) (n : Int) (h : n < 64) : bitW m n ↔ m.toNat.testBit n.toNat = true := by
  have hn : n.toNat < 64 := by omega
  unfold bitW
  rw [← UInt64.toNat_inj, UInt64.toNat_and, UInt64.toNat_shiftRight, UInt64.toNat_ofNat', Nat.mod_eq_of_lt (show n.toNat < 2 ^ 64 by omega), Nat.mod_eq_of_lt hn, show (1 : UInt64).toNat = 1 from rfl, Nat.and_one_is_mod, Nat.shiftRight_eq_div_pow, Nat.testBit_eq_decide_div_mod_eq]
  simp
theorem bitW_or (m : UInt64) (k n : Int) (hk0 : 0 ≤ k) (hk : k < 64) (hn0 : 0 ≤ n) (hn : n < 64) : bitW (m ||| (1 <<< UInt64.ofNat k.toNat)) n ↔ bitW m n ∨ n = k := by
  rw [bitW_test _ n hn, bitW_test _ n hn, UInt64.toNat_or, UInt64.toNat_shiftLeft, UInt64.toNat_ofNat', Nat.mod_eq_of_lt (show k.toNat < 2 ^ 64 by omega), Nat.mod_eq_of_lt (show k.toNat < 64 by omega), Nat.shiftLeft_eq, show (1 : UInt64).toNat = 1 from rfl, Nat.one_mul,
    Nat.mod_eq_of_lt (Nat.pow_lt_pow_right (by decide) (show k.toNat < 64 by omega)), Nat.testBit_or, Nat.testBit_two_pow]
  simp only [Bool.or_eq_true, decide_eq_true_eq]
  constructor
  · rintro (h | h)
    · exact .inl h
    · right; omega
  · rintro (h | h)
    · exact .inl h
    · right; omega
/-- The document's apart: nodes that were met, those that come, were there any? -/
def apF (nn : Bool) : List Int → List Int → Bool → Bool
  | _, [], sm => sm
  | seen, x :: l, sm => if x = -1 ∧ nn = true then apF nn (seen ++ [x]) l sm else if x < 0 ∨ 64 ≤ x then false else if x ∈ seen then false else apF nn (seen ++ [x]) l true
theorem diffF_apF : ∀ (l seen : List Int) (m : UInt64) (sm : Bool), (∀ n, 0 ≤ n → n < 64 → (bitW m n ↔ n ∈ seen)) → ((m != 0) = sm) → diffF l m = apF true seen l sm
  | [], _, _, _, _, h => by unfold diffF apF; exact h
  | x :: l, seen, m, sm, hb, hs => by
    unfold diffF apF
    by_cases h1 : x < -1
    · rw [if_pos h1, if_neg (by omega), if_pos (.inl (by omega))]
    · rw [if_neg h1]
      by_cases h2 : 64 ≤ x
      · rw [if_pos h2, if_neg (by omega), if_pos (.inr h2)]
      · rw [if_neg h2]
        by_cases h3 : x = -1
        · rw [if_pos h3, if_pos ⟨h3, rfl⟩]
          refine diffF_apF l _ m sm (fun n h0 h => ?_) hs
          rw [hb n h0 h, List.mem_append, List.mem_singleton]
          exact ⟨.inl, fun h => h.resolve_right (by omega)⟩
        · rw [if_neg h3, if_neg (show ¬ (x = -1 ∧ true = true) from fun h => h3 h.1), if_neg (show ¬ (x < 0 ∨ 64 ≤ x) by omega)]
          have hx := hb x (by omega) (by omega)
          by_cases h4 : x ∈ seen
          · rw [if_pos h4, if_pos (show (m >>> UInt64.ofNat x.toNat) &&& 1 = 1 from hx.2 h4)]
          · rw [if_neg h4, if_neg (show ¬ (m >>> UInt64.ofNat x.toNat) &&& 1 = 1 from fun h => h4 (hx.1 h))]
            refine diffF_apF l _ _ true (fun n h0 h => ?_) ?_
            · rw [bitW_or m x n (by omega) (by omega) h0 h, hb n h0 h, List.mem_append, List.mem_singleton]
            · rw [bne_iff_ne]
              intro h0
              have := (bitW_or m x x (by omega) (by omega) (by omega) (by omega)).2 (.inr rfl)
              rw [h0] at this
              unfold bitW at this
              revert this
              have hz : (0 : UInt64) >>> UInt64.ofNat x.toNat = 0 := by
                rw [← UInt64.toNat_inj, UInt64.toNat_shiftRight]
                simp
              rw [hz]
              decide
theorem diffF_apart (l : List Int) : diffF l 0 = apF true [] l false := by
  refine diffF_apF l [] 0 false (fun n h0 h => ?_) rfl
  rw [bitW_test _ n h]
  simp
/-- Without -1 among them. -/
theorem apF_none : ∀ (l seen : List Int) (sm : Bool), apF false seen l sm = (if -1 ∈ l then false else apF true seen l sm)
  | [], _, _ => by simp [apF]
  | x :: l, seen, sm => by
    have ih := apF_none l
    unfold apF
    rw [if_neg (by simp)]
    by_cases h1 : x < 0 ∨ 64 ≤ x
    · rw [if_pos h1]
      by_cases h2 : x = -1
      · rw [if_pos (by rw [h2]; exact List.mem_cons_self ..)]
      · rw [if_neg (show ¬ (x = -1 ∧ true = true) from fun h => h2 h.1), if_pos h1]
        simp
    · rw [if_neg h1, if_neg (show ¬ (x = -1 ∧ true = true) by omega), if_neg h1]
      by_cases h3 : x ∈ seen
      · rw [if_pos h3, if_pos h3]; simp
      · rw [if_neg h3, if_neg h3, ih]
        have : (-1 ∈ x :: l) ↔ -1 ∈ l := by
          rw [List.mem_cons]
          exact ⟨fun h => h.resolve_left (by omega), .inr⟩
        simp only [this]
end Go.Proofs.Yteenbobblbehoaa

namespace Go.Proofs.Yteenbobblbehoaa
open Go Go.RowKit

/-- No node but -1 stands twice. -/
def Dist (l : List Int) : Prop := ∀ (i j : Nat) (n : Int), n ≠ -1 → l[i]? = some n → l[j]? = some n → i = j
theorem apF_dist : ∀ (l seen : List Int) (sm : Bool), apF true seen l sm = true → Dist l ∧ ∀ n ∈ l, n ≠ -1 → n ∉ seen
  | [], _, _, _ => ⟨fun i j n _ h => by simp at h, fun n h => by simp at h⟩
  | x :: l, seen, sm, h => by
    unfold apF at h
    have key : (x ≠ -1 → x ∉ seen) ∧ Dist l ∧ ∀ n ∈ l, n ≠ -1 → n ∉ seen ++ [x] := by
      by_cases h1 : x = -1
      · rw [if_pos ⟨h1, rfl⟩] at h
        obtain ⟨a, b⟩ := apF_dist l _ sm h
        exact ⟨fun e => absurd h1 e, a, b⟩
      · rw [if_neg (show ¬ (x = -1 ∧ true = true) from fun h => h1 h.1)] at h
        by_cases h2 : x < 0 ∨ 64 ≤ x
        · rw [if_pos h2] at h; cases h
        · rw [if_neg h2] at h
          by_cases h3 : x ∈ seen
          · rw [if_pos h3] at h; cases h
          · rw [if_neg h3] at h
            obtain ⟨a, b⟩ := apF_dist l _ true h
            exact ⟨fun _ => h3, a, b⟩
    obtain ⟨k1, k2, k3⟩ := key
    have hx : ∀ (j : Nat) (n : Int), n ≠ -1 → l[j]? = some n → n ≠ x := fun j n hn hj e => k3 n (List.mem_of_getElem? hj) hn (by rw [e]; simp)
    refine ⟨fun i j n hn hi hj => ?_, fun n hn h1 => ?_⟩
    · cases i with
      | zero =>
        cases j with
        | zero => rfl
        | succ j =>
          simp only [List.getElem?_cons_zero, Option.some.injEq] at hi
          rw [List.getElem?_cons_succ] at hj
          exact absurd hi.symm (hx j n hn hj)
      | succ i =>
        rw [List.getElem?_cons_succ] at hi
        cases j with
        | zero =>
          simp only [List.getElem?_cons_zero, Option.some.injEq] at hj
          exact absurd hj.symm (hx i n hn hi)
        | succ j =>
          rw [List.getElem?_cons_succ] at hj
          rw [k2 i j n hn hi hj]
    · rcases List.mem_cons.1 hn with rfl | hn
      · exact k1 h1
      · exact fun hs => k3 n hn h1 (List.mem_append_left _ hs)
theorem diffF_dist {l : List Int} (h : diffF l 0 = true) : Dist l := by
  rw [diffF_apart] at h
  exact (apF_dist l [] false h).1
theorem ixF_at (n : Int) : ∀ (l : List Int) (i : Nat), (ixF n i l = -1 ∧ n ∉ l) ∨ ∃ k : Nat, ixF n i l = ((i + k : Nat) : Int) ∧ l[k]? = some n
  | [], _ => .inl ⟨rfl, by simp⟩
  | x :: l, i => by
    unfold ixF
    by_cases h : n = x
    · rw [if_pos h]
      exact .inr ⟨0, by simp, by simp [h]⟩
    · rw [if_neg h]
      rcases ixF_at n l (i + 1) with ⟨h1, h2⟩ | ⟨k, h1, h2⟩
      · exact .inl ⟨h1, by simp [h, h2]⟩
      · exact .inr ⟨k + 1, by rw [h1]; congr 1; omega, by rw [List.getElem?_cons_succ]; exact h2⟩
/-- The document's keeps, from the i-th node on. -/
def keepR (V : Vl) (st : Int) : Nat → List Int → Bool
  | _, [] => true
  | i, n :: l => if n = -1 then keepR V st (i + 1) l else if ixF n 0 V.nodes < 0 ∨ (st = 2 ∧ ixF n 0 V.nodes ≠ (i : Int)) then false else keepR V st (i + 1) l
theorem keepF_keepR (V : Vl) (hd : Dist V.nodes) : ∀ (l : List Int) (i : Nat), keepF V i l = keepR V V.st i l
  | [], _ => rfl
  | n :: l, i => by
    have ih := keepF_keepR V hd l (i + 1)
    unfold keepF keepR
    by_cases h1 : n = -1
    · rw [if_pos h1, if_pos h1, ih]
    · rw [if_neg h1, if_neg h1]
      rcases ixF_at n V.nodes 0 with ⟨h2, h3⟩ | ⟨k, h2, h3⟩
      · have hh : hasF n V.nodes = false := by
          cases h : hasF n V.nodes
          · rfl
          · exact absurd ((hasF_iff n V.nodes).1 h) h3
        rw [if_pos (show ixF n 0 V.nodes < 0 ∨ (V.st = 2 ∧ ixF n 0 V.nodes ≠ (i : Int)) from .inl (by omega))]
        by_cases h4 : V.st = 2 ∧ V.nodes[i]? ≠ some n
        · rw [if_pos h4]
        · rw [if_neg h4, if_pos hh]
      · have hh : ¬ hasF n V.nodes = false := by
          rw [(hasF_iff n V.nodes).2 (List.mem_of_getElem? h3)]; simp
        rw [Nat.zero_add] at h2
        by_cases h4 : V.st = 2 ∧ V.nodes[i]? ≠ some n
        · rw [if_pos h4, if_pos (show ixF n 0 V.nodes < 0 ∨ (V.st = 2 ∧ ixF n 0 V.nodes ≠ (i : Int)) from .inr ⟨h4.1, fun e => h4.2 (by rw [h2] at e; have hk : k = i := (by omega); subst hk; exact h3)⟩)]
        · rw [if_neg h4, if_neg hh, if_neg, ih]
          rintro (h5 | ⟨h5, h6⟩)
          · omega
          · refine h4 ⟨h5, fun e => h6 ?_⟩
            rw [h2, hd k i n h1 h3 e]
end Go.Proofs.Yteenbobblbehoaa

namespace Go.Proofs.Yteenbobblbehoaa
open Go Go.RowKit

/-- grow, by the document. -/
def growR (L : List Vl) (nodes : List Int) : (List Int × Nat) × List Vl :=
  if apF false [] nodes false = false then (([], 1), L) else if 4096 ≤ L.length then (([], 17), L) else (([(L.length : Int) + 1], 0), L ++ [⟨0, 1, nodes, false, 1⟩])
theorem growR_eq (L : List Vl) (nodes : List Int) : growR L nodes = growL L nodes := by
  unfold growR growL
  have h : (apF false [] nodes false = false) ↔ (diffF nodes 0 = false ∨ hasF (-1) nodes = true) := by
    rw [apF_none, diffF_apart, hasF_iff]
    by_cases h1 : -1 ∈ nodes
    · rw [if_pos h1]; simp [h1]
    · rw [if_neg h1]; simp [h1]
  by_cases h1 : apF false [] nodes false = false
  · rw [if_pos h1, if_pos (h.1 h1)]
  · rw [if_neg h1, if_neg (fun e => h1 (h.2 e))]
/-- keeps, by the document. -/
def keepsR (V : Vl) (st : Int) (nodes : List Int) : Bool := if st ≠ V.st ∧ ¬ (V.st = 0 ∧ st = 1) then false else keepR V st 0 nodes
theorem keepR_st (V : Vl) (st : Int) (h : (st = 2) ↔ (V.st = 2)) : ∀ (l : List Int) (i : Nat), keepR V st i l = keepR V V.st i l
  | [], _ => rfl
  | n :: l, i => by
    unfold keepR
    rw [keepR_st V st h l (i + 1)]
    simp only [h]
theorem keepsR_eq (V : Vl) (hd : Dist V.nodes) (st : Int) (nodes : List Int) : keepsR V st nodes = keepsB V st nodes := by
  unfold keepsR keepsB
  by_cases h : st ≠ V.st ∧ (V.st ≠ 0 ∨ st ≠ 1)
  · rw [if_pos h, if_pos ⟨h.1, fun e => h.2.elim (fun h => h e.1) (fun h => h e.2)⟩]
  · have h2 : ¬ (st ≠ V.st ∧ ¬ (V.st = 0 ∧ st = 1)) := by
      rintro ⟨a, b⟩
      refine h ⟨a, ?_⟩
      by_cases h0 : V.st = 0
      · exact .inr fun e => b ⟨h0, e⟩
      · exact .inl h0
    rw [if_neg h, if_neg h2, keepF_keepR V hd]
    refine keepR_st V st ?_ nodes 0
    by_cases h3 : st = V.st
    · rw [h3]
    · by_cases h4 : V.st = 0
      · by_cases h5 : st = 1
        · rw [h4, h5]; decide
        · exact absurd ⟨h3, .inr h5⟩ h
      · exact absurd ⟨h3, .inl h4⟩ h
/-- freeze and place, by the document. -/
def changeR (L : List Vl) (id ep st : Int) (nodes : List Int) (fr : Bool) : (List Int × Nat) × List Vl :=
  match ofL L id with
  | none => (([], 7), L)
  | some V => if ep ≠ V.ep ∨ (fr = false ∧ V.fr = false) then (([], 12), L) else if 2147483646 < V.ep then (([], 17), L) else
    if st < 0 ∨ 2 < st ∨ st < V.st ∨ apF (st == 2) [] nodes false = false then (([], 1), L) else if fr = true ∧ keepsR V st nodes = false then (([], 1), L) else
      (([V.ep + 1], 0), setL L id ⟨st, V.ep + 1, nodes, fr, V.key⟩)
theorem changeR_eq (L : List Vl) (id ep st : Int) (nodes : List Int) (fr : Bool) (hL : ∀ V ∈ L, 0 ≤ V.st ∧ Dist V.nodes) : changeR L id ep st nodes fr = changeL L id ep st nodes fr := by
  unfold changeR changeL
  cases hof : ofL L id with
  | none => rfl
  | some V =>
    obtain ⟨i, _, hV, _⟩ := ofL_some hof
    obtain ⟨h0, hd⟩ := hL V (List.mem_of_getElem? hV)
    dsimp only
    rw [keepsR_eq V hd]
    have h : (st < 0 ∨ 2 < st ∨ st < V.st ∨ apF (st == 2) [] nodes false = false) ↔ (st < V.st ∨ 2 < st ∨ diffF nodes 0 = false ∨ (st ≠ 2 ∧ hasF (-1) nodes = true)) := by
      rw [diffF_apart, hasF_iff]
      by_cases h2 : st = 2
      · have : (st == 2) = true := by simp [h2]
        rw [this]
        constructor
        · rintro (h | h | h | h)
          · left; omega
          · exact .inr (.inl h)
          · exact .inl h
          · exact .inr (.inr (.inl h))
        · rintro (h | h | h | h)
          · exact .inr (.inr (.inl h))
          · exact .inr (.inl h)
          · exact .inr (.inr (.inr h))
          · exact absurd h2 h.1
      · have : (st == 2) = false := by simpa using h2
        rw [this, apF_none]
        by_cases h1 : -1 ∈ nodes
        · rw [if_pos h1]
          simp [h1, h2]
        · rw [if_neg h1]
          constructor
          · rintro (h | h | h | h)
            · left; omega
            · exact .inr (.inl h)
            · exact .inl h
            · exact .inr (.inr (.inl h))
          · rintro (h | h | h | h)
            · exact .inr (.inr (.inl h))
            · exact .inr (.inl h)
            · exact .inr (.inr (.inr h))
            · exact absurd h.2 h1
    simp only [h]
end Go.Proofs.Yteenbobblbehoaa
