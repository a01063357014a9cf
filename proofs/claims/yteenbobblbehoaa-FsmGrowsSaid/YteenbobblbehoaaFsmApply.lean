/- fsm's Apply: the contract. Conditions: its own premises. -/
import Derived.Test.YteenbobblbehoaaFsmOp
import Derived.Test.YteenbobblbehoaaWLaw
import Derived.Test.YteenbobblbehoaaWDecO
import Derived.BigQuiet
import Derived.Deep.QuietTactic
import Derived.Deep.Cut
import Derived.Deep.CutRange
import Derived.Deep.RegionHeld3
namespace Go.Proofs.Yteenbobblbehoaa
open Go Go.RowKit

/-- What bytes do with a table. -/
def applyBad (X : (Int × Int × Int × List Int × List UInt8) × Nat × Nat) (n : Nat) : Prop := X.2.2 ≠ 0 ∨ X.2.1 ≠ n ∨ X.1.1 ≠ 0 ∨ X.1.2.1 ≠ 0 ∨ 0 < X.1.2.2.2.2.length ∨ mayB X.1.2.2.1 X.1.2.2.2.1.length = false
open Classical in
noncomputable def applyL (L : List Vl) (b : List UInt8) : (List Int × Nat) × List Vl := if applyBad (wDec b) b.length then (([], 3), L) else opL L (wDec b).1.2.2.1 (wDec b).1.2.2.2.1
theorem wDec_len {b : List UInt8} {fr tt kd : Int} {nums : List Int} {data : List UInt8} {n : Nat} (h : wDec b = ((fr, tt, kd, nums, data), n, 0)) : nums.length ≤ 64 := by
  obtain ⟨h1, _⟩ := wDec_once h
  rcases wEnc_cases fr tt kd nums data with ⟨_, e⟩ | ⟨_, _, e⟩ | ⟨_, _, _, hl, _, _⟩
  · rw [e] at h1; simp at h1
  · rw [e] at h1; simp at h1
  · exact hl
theorem AnsP.lift {w W w' : World} {F : Nat → Prop} {t : Nat} {X : (List Int × Nat) × List Vl} {e : Ending} (hb : Below w.heap.size w W) (h : AnsP W F t X e w') : AnsP w F t X e w' := by
  obtain ⟨a, c, h1, h2, h3, h4⟩ := h
  exact ⟨a, c, h1, own_base h2 hb.size, h3.mono fun k h _ => h.elim .inl fun h => .inr ⟨Nat.le_trans hb.size h.1, h.2⟩, (Off.ofBelow hb).then h4⟩

theorem applyS {w V : World} {g t k : Nat} {x2 x3 xt : Value} (h : Below w.heap.size w V) (hg : g < w.heap.size) (ht : t < w.heap.size) (c2 : w.cell? ⟨g, 2, none⟩ = some x2) (c3 : w.cell? ⟨g, 3, none⟩ = some x3) (c : w.cell? ⟨t, 1 + k, none⟩ = some xt) :
    V.cell? ⟨g, 2, none⟩ = some x2 ∧ V.cell? ⟨g, 3, none⟩ = some x3 ∧ V.cell? ⟨t, 1 + k, none⟩ = some xt ∧ Below w.heap.size w V :=
  ⟨(h.cell hg).trans c2, (h.cell hg).trans c3, (h.cell ht).trans c, h⟩
theorem callFunc_fk (k : Nat) (h1 : 1 ≤ k) (h6 : k ≤ 6) (args : Array Value) (W : World) : (callFunc (fkN k) args).run Try.prog W = .ok (.enter (fkN k) args) W := by
  rcases (by omega : k = 1 ∨ k = 2 ∨ k = 3 ∨ k = 4 ∨ k = 5 ∨ k = 6) with rfl | rfl | rfl | rfl | rfl | rfl <;> kernel_rfl

set_option maxRecDepth 100000 in
set_option maxHeartbeats 4000000 in
theorem apply_any (w : World) (F : Nat → Prop) (t : Nat) (L : List Vl) (hT : TabI w F t L) (hok : OkL L) (a : Option Addr) (c : Nat) (b : List UInt8) (hr : Rd w a c (B8 b)) :
    Calls Try.prog 17 #[ptrV t, .slice a b.length c] w (AnsP w F t (applyL L b)) := by
  have hd := wDecode_any w a c b hr
  obtain ⟨X, hX⟩ : ∃ X, X = applyL L b := ⟨_, rfl⟩
  rw [← hX]
  unfold applyL at hX
  obtain ⟨⟨⟨fr, tt, kd, nums, data⟩, N, E⟩, hD⟩ : ∃ D, D = wDec b := ⟨_, rfl⟩
  rw [← hD] at hd hX
  obtain ⟨bn, hbn⟩ : ∃ bn, bn = b.length := ⟨_, rfl⟩
  rw [← hbn] at hd hX ⊢
  have HD := Lib.hid hd
  have HX := Lib.hid hX
  have HDD := Lib.hid hD
  have HT := Lib.hid hT
  have htl : t < w.heap.size := hT.lt
  have hbl : (bn : Int) ≤ 9223372036854775807 := by have := hr.le; rw [B8_length, ← hbn] at this; omega
  have HBN := Lib.hid hbn
  clear hd hX hD hT hr hbn
  unfold ptrV
  go_enter Try.func17, Try.ntmps17
  go_wp2_with fail
  refine HD.out.mono ?_
  rintro e w1 ⟨an, cn, ad, cd, rfl, ho1, ho2, hb1⟩
  dsimp only at ho1 ho2
  have hTw := HT.out.kept hb1
  obtain ⟨ta, tc, ht1, _⟩ := hTw.head
  have hkt := fun k h1 h6 => (ht1.cell (1 + k)).trans (tblC_at t _ k h1 h6)
  have hB0 : BlkV (w1.alloc (.cells #[.int .i64 0, .int .i64 0, .int .i64 0, .slice none 0 0, .slice none 0 0] 71)) w1.heap.size 71 #[.int .i64 0, .int .i64 0, .int .i64 0, .slice none 0 0, .slice none 0 0] := BlkV.new w1 _ _
  obtain ⟨g, hg⟩ : ∃ g, g = w1.heap.size := ⟨_, rfl⟩
  rw [← hg] at hB0
  have HG := Lib.hid hg
  clear hg
  go_wp2_with (with_reducible refine At.store 71 (.tmp 6) (.tmp 14) ?_)
  rw [← HG.out]
  refine At.out (wpList_storeV rfl _ rfl (.tmp 6) (.tmp 14) rfl strM g _ #[.int .i64 fr, .int .i64 tt, .int .i64 kd, .slice an nums.length cn, .slice ad data.length cd] rfl rfl hB0 rfl rfl (by simp [Value.oneCell']) ?_)
  intro w2 hB2 hbel _
  have hb2 : Below w1.heap.size w1 w2 := hbel _ w1 ((Below.refl _ _).alloc (Nat.le_refl _) _) (Nat.le_of_eq HG.out.symm)
  have htg : t < g := by have := hb1.size; have := HG.out; omega
  have htw2 : t < w2.heap.size := by have := hB2.lt; omega
  have hgw2 : g < w2.heap.size := hB2.lt
  have hk2 : ∀ k, 1 ≤ k → k ≤ 6 → w2.cell? ⟨t, 1 + k, none⟩ = some (fnV t (fkN k)) := fun k h1 h6 => (hb2.cell (p := ⟨t, 1 + k, none⟩) (by have := HG.out; simp; omega)).trans (hkt k h1 h6)
  have HT2 := Lib.hid (hTw.kept hb2)
  obtain ⟨a', c', hv', hRn⟩ := TRd.ofOwn ho1
  simp only [Value.slice.injEq, true_and] at hv'
  obtain ⟨rfl, rfl⟩ := hv'
  have HRn := Lib.hid (hRn.kept hb2)
  have HB12 := Lib.hid (hb1.trans (hb2.mono hb1.size))
  have m0 := hB2.cell 0
  have m1 := hB2.cell 1
  have m2 := hB2.cell 2
  have m3 := hB2.cell 3
  have m4 := hB2.cell 4
  simp only [List.getElem?_toArray, List.getElem?_cons_succ, List.getElem?_cons_zero] at m0 m1 m2 m3 m4
  have hln : nums.length ≤ 9223372036854775807 := by have := hRn.1.le; rw [BI_length] at this; exact this
  have HK2 := Lib.hid hk2
  clear hRn ho1 ho2 hb1 hb2 hTw ht1 hkt hB0 hbel hB2 hk2
  go_upto_region 4 with (fail)
  have hdr : ∀ q, Below w.heap.size w (w2.drewN q) := fun q => below_drewN HB12.out q
  have HDR := Lib.hid hdr
  clear hdr
  by_cases g1 : E = 0
  case neg =>
    have q1 : ((E : Int) != 0) = true := by rw [bne_iff_ne]; omega
    have hx := HX.out
    rw [if_pos (.inl g1)] at hx
    have HXX := Lib.hid hx
    clear hx g1
    go_quiet (fail)
    go_wp2
    go_ret2
    rw [HXX.out]
    exact AnsP.no 3 HT.out (HDR.out _)
  have q1 : ((E : Int) != 0) = false := by rw [g1]; rfl
  by_cases g2 : N = bn
  case neg =>
    have q2 : ((N : Int) != (bn : Int)) = true := by rw [bne_iff_ne]; omega
    have hx := HX.out
    rw [if_pos (.inr (.inl g2))] at hx
    have HXX := Lib.hid hx
    clear hx g1 g2
    go_quiet (fail)
    go_wp2
    go_ret2
    rw [HXX.out]
    exact AnsP.no 3 HT.out (HDR.out _)
  have q2 : ((N : Int) != (bn : Int)) = false := by rw [g2]; simp
  by_cases g3 : fr = 0
  case neg =>
    have q3 : (fr != 0) = true := by simpa using g3
    have hx := HX.out
    rw [if_pos (.inr (.inr (.inl g3)))] at hx
    have HXX := Lib.hid hx
    clear hx g1 g2 g3
    go_quiet (fail)
    go_wp2
    go_ret2
    rw [HXX.out]
    exact AnsP.no 3 HT.out (HDR.out _)
  have q3 : (fr != 0) = false := by rw [g3]; rfl
  by_cases g4 : tt = 0
  case neg =>
    have q4 : (tt != 0) = true := by simpa using g4
    have hx := HX.out
    rw [if_pos (.inr (.inr (.inr (.inl g4))))] at hx
    have HXX := Lib.hid hx
    clear hx g1 g2 g3 g4
    go_quiet (fail)
    go_wp2
    go_ret2
    rw [HXX.out]
    exact AnsP.no 3 HT.out (HDR.out _)
  have q4 : (tt != 0) = false := by rw [g4]; rfl
  by_cases g5 : 0 < data.length
  case pos =>
    have q5 : 0 < data.length := g5
    have hx := HX.out
    rw [if_pos (.inr (.inr (.inr (.inr (.inl g5)))))] at hx
    have HXX := Lib.hid hx
    clear hx g1 g2 g3 g4 g5
    go_quiet (fail)
    go_wp2
    go_ret2
    rw [HXX.out]
    exact AnsP.no 3 HT.out (HDR.out _)
  have q5 : data.length = 0 := by omega
  have hmay := fun W => may_any W kd nums.length hln
  cases g6 : mayB kd nums.length
  case false =>
    have hx := HX.out
    rw [if_pos (.inr (.inr (.inr (.inr (.inr g6)))))] at hx
    have HXX := Lib.hid hx
    rw [g6] at hmay
    have HMY := Lib.hid hmay
    clear hx g1 g2 g3 g4 g5 g6 hmay
    go_quiet ((go_at_call 35; exact Calls.quiet_of_same (HMY.out _)))
    go_wp2
    go_ret2
    rw [HXX.out]
    exact AnsP.no 3 HT.out (HDR.out _)
  have hx := HX.out
  rw [if_neg (by rintro (h | h | h | h | h | h) <;> first | exact h g1 | exact h g2 | exact h g3 | exact h g4 | exact g5 h | simp [g6] at h)] at hx
  have HXX := Lib.hid hx
  obtain ⟨k, rfl, k1, k6⟩ := mayB_kd g6
  have hop := fun W (hb : Below w2.heap.size w2 W) => op_any W F t L (HT2.out.kept hb) hok k k1 k6 an cn nums.length nums rfl (HRn.out.kept hb)
  rw [g6] at hmay
  have HMY := Lib.hid hmay
  have hcell := HK2.out k k1 k6
  have hk7 : (k : Int) < 7 := by omega
  have hlen64 : nums.length ≤ 64 := wDec_len (by rw [← HDD.out, g1])
  have HOP := Lib.hid (fun W hb => hop W hb hlen64 g6)
  obtain ⟨ff, hff⟩ : ∃ ff, ff = fkN k := ⟨_, rfl⟩
  have hcf := callFunc_fk k k1 k6
  unfold fnV ptrV at hcell
  unfold ptrV at HOP
  rw [← hff] at hcell HOP
  simp only [← hff] at hcf
  clear hx g1 g2 g3 g4 g5 g6 hmay hop hlen64 hff
  have qf : ∀ W, (binOp .eql 55 (.func (.func ff) #[.pointer (some ⟨t, 0, none⟩)] #[]) .nilFunc).run Try.prog W = .ok (.bool false) W := fun W => rfl
  go_quiet ((go_at_call 35; exact Calls.quiet_of_same (HMY.out _)))
  go_upto_region 6 with (fail)
  go_region_with ((refine (HOP.out _ (below_drewN (Below.refl _ _) _)).mono ?_); (intro e w3 h3); (obtain ⟨a3, n3, c3, k3, rfl, h4⟩ := AnsP.slice h3); (have H4 := Lib.hid h4); (clear h3 h4))
  all_goals
    go_wp2
    go_ret2
    rw [HXX.out]
    exact AnsP.lift (HDR.out _) H4.out
end Go.Proofs.Yteenbobblbehoaa
