/- The document's Command: the contract. The document's Volume and Volumes: the contracts. fsm's Sum: the contract. The document's Sum: the contract. A script of steps, read; the law's heavy. The law's volumes: two lists that show the same. Plain: tables stay as they may be; two tables in one world. heavy: what is played is small. Two tables in one world, and drafts that lie apart from both. Plain: what is applied leaves tables as they may be. Conditions: each law's own premises. -/
import Derived.Test.YteenbobblbehoaaRfApply
import Derived.Test.YteenbobblbehoaaFsmTab
import Derived.Test.YteenbobblbehoaaWRefEnc2
import Derived.Test.YteenbobblbehoaaRfTab
import Derived.Test.YteenbobblbehoaaSum
import Derived.Test.YteenbobblbehoaaRefSum
import Derived.Test.YteenbobblbehoaaVar
import Derived.Deep.Cut
import Derived.Deep.CutRange
namespace Go.Proofs.Yteenbobblbehoaa
open Go Go.RowKit

/-- What Encode gives; the bytes are the call's own. -/
def WAPO (w : World) (X : List UInt8 × Nat) (e : Ending) (w' : World) : Prop := ∃ a c, e = .returned (.tuple #[.slice a X.1.length c, .int .i64 (X.2 : Nat)]) ∧ w'.ownsRow w.heap.size 5 1 (.slice a X.1.length c) X.1.length (B8 X.1) ∧ Below w.heap.size w w'
theorem refWEncodeO_any (kd : Int) (an : Option Addr) (cn : Nat) (nums : List Int) (w : World)
    (hrn : Rd w an cn (BI nums)) (hbn : ∀ n ∈ nums, -9223372036854775808 ≤ n ∧ n ≤ 9223372036854775807) :
    Calls Try.prog 57 #[msgV 0 0 kd an nums.length cn none ([] : List UInt8).length 0] w (WAPO w (wEnc 0 0 kd nums [])) := by
  have hln := hrn.le
  have hBI : (BI nums).length = nums.length := by simp [BI]
  rw [hBI] at hln
  rcases wEnc_cases 0 0 kd nums [] with ⟨h1, he⟩ | ⟨h1, h2, he⟩ | ⟨q0, q1, q2, h1, h2, he⟩
  · rw [he]
    refine (refWEncode_no 0 0 kd an nums.length cn none ([] : List UInt8).length 0 w 1 hln (by simp) (.inl ⟨h1, rfl⟩)).mono ?_
    rintro e w' ⟨rfl, hb⟩
    exact ⟨none, 0, rfl, World.ownsRow_nil _ _ _ _, hb⟩
  · rw [he]
    refine (refWEncode_no 0 0 kd an nums.length cn none ([] : List UInt8).length 0 w 5 hln (by simp) (.inr ⟨h1, h2, rfl⟩)).mono ?_
    rintro e w' ⟨rfl, hb⟩
    exact ⟨none, 0, rfl, World.ownsRow_nil _ _ _ _, hb⟩
  · rw [he]
    obtain ⟨v2, e2, t2, b2⟩ := small_v q2
    rw [t2, e2]
    refine (refWEncode_yes 0 0 v2 (by decide) (by decide) b2 an cn nums none 0 [] w hrn hbn h1 (Rd.none _) h2).mono ?_
    rintro e w' ⟨r, rfl, ho, hb⟩
    obtain ⟨a, cap, rfl, _⟩ := Rd.ofOwn ho
    have hel := encL_length (bodyL (0 : UInt64).toNat (0 : UInt64).toNat v2.toNat nums [])
    rw [← hel] at ho ⊢
    exact ⟨a, cap, rfl, ho, hb⟩
theorem cmdL_len {kd : Int} {nums : List Int} : (cmdL kd nums).1.length ≤ 100000 := by
  unfold cmdL
  split
  · simp
  · split
    · simp
    · rename_i h
      have a0 := uv_len 0
      have a2 := uv_len kd.toNat
      have a3 := uv_len nums.length
      have a4 := uv_len ([] : List UInt8).length
      have a5 := numsL_len nums
      rw [encL_length]
      unfold bodyL
      simp only [List.length_append]
      simp only [List.length_nil] at *
      omega
set_option maxRecDepth 100000 in
set_option maxHeartbeats 4000000 in
theorem rCommand_any (w : World) (kd : Int) (an : Option Addr) (cn : Nat) (nums : List Int) (hrn : Rd w an cn (BI nums)) (hbn : ∀ n ∈ nums, -9223372036854775808 ≤ n ∧ n ≤ 9223372036854775807) :
    Calls Try.prog 36 #[.int .i64 kd, .slice an nums.length cn] w (WAPO w (cmdL kd nums)) := by
  have he := refWEncodeO_any kd an cn nums w hrn hbn
  have HE := Lib.hid he
  clear he hrn hbn
  obtain ⟨m, hm⟩ : ∃ m, m = nums.length := ⟨_, rfl⟩
  unfold msgV at HE
  have hz : ([] : List UInt8).length = 0 := rfl
  rw [hz, ← hm] at HE
  rw [← hm]
  by_cases h1 : kd < 1
  · have hX : cmdL kd nums = ([], 1) := by unfold cmdL; rw [if_pos (.inl h1)]
    rw [hX]
    clear hX hm hz
    go_enter Try.func36, Try.ntmps36
    go_wp2
    go_ret2
    exact ⟨none, 0, rfl, World.ownsRow_nil _ _ _ _, Below.refl _ _⟩
  by_cases h2 : 6 < kd
  · have hX : cmdL kd nums = ([], 1) := by unfold cmdL; rw [if_pos (.inr h2)]
    rw [hX]
    have h7 : 7 ≤ kd := by omega
    clear hX hm hz
    go_enter Try.func36, Try.ntmps36
    go_wp2
    go_ret2
    exact ⟨none, 0, rfl, World.ownsRow_nil _ _ _ _, Below.refl _ _⟩
  have h7 : ¬ 7 ≤ kd := by omega
  have hn12 : ¬ (kd < 1 ∨ 6 < kd) := by omega
  have hw := wEnc_cmd (nums := nums) hn12
  have hX : cmdL kd nums = if 64 < nums.length then ([], 1) else (encL (bodyL 0 0 kd.toNat nums []), 0) := by unfold cmdL; rw [if_neg hn12]
  rw [hX]
  rw [hw] at HE
  have h6 : ¬ 6 < kd := h2
  clear hX hw hn12 h2 hz
  by_cases h3 : 64 < nums.length
  · rw [if_pos h3] at HE ⊢
    clear h3 hm
    go_enter Try.func36, Try.ntmps36
    go_wp2_with fail
    refine HE.out.mono ?_
    rintro e w1 ⟨a1, c1, rfl, hr1, hb1⟩
    have HB := Lib.hid hb1
    clear hr1 hb1
    go_wp2
    go_ret2
    exact ⟨none, 0, rfl, World.ownsRow_nil _ _ _ _, HB.out⟩
  · rw [if_neg h3] at HE ⊢
    obtain ⟨R, hR⟩ : ∃ R, R = encL (bodyL 0 0 kd.toNat nums []) := ⟨_, rfl⟩
    rw [← hR] at HE ⊢
    clear h3 hm hR
    go_enter Try.func36, Try.ntmps36
    go_wp2_with fail
    refine HE.out.mono ?_
    rintro e w1 ⟨a1, c1, rfl, hr1, hb1⟩
    have HB := Lib.hid hb1
    have HR1 := Lib.hid hr1
    clear hr1 hb1
    go_wp2
    go_ret2
    exact ⟨a1, c1, rfl, HR1.out, HB.out⟩
end Go.Proofs.Yteenbobblbehoaa

namespace Go.Proofs.Yteenbobblbehoaa
open Go Go.RowKit

set_option maxRecDepth 100000 in
set_option maxHeartbeats 2000000 in
theorem rVolume_any (w : World) (F : Nat → Prop) (g : Nat) (L : List Vl) (hT : RefT w F g L) (hok : OkL L) (id : Int) :
    Calls Try.prog 21 #[.pointer (some ⟨g, 0, none⟩), .int .i64 id] w (VolP w id (ofL L id)) := by
  obtain ⟨W0, hW0⟩ : ∃ W0, W0 = w.alloc (.cells #[.int .i64 0, .int .i64 0, .int .i64 0, .slice none 0 0, .bool false, .int .i64 0] 37) := ⟨_, rfl⟩
  obtain ⟨K, hK⟩ : ∃ K, K = w.heap.size := ⟨_, rfl⟩
  have hb0 : Below w.heap.size w W0 := by rw [hW0]; exact (Below.refl _ _).alloc (Nat.le_refl _) _
  have hZ : BlkV W0 K 37 #[.int .i64 0, .int .i64 0, .int .i64 0, .slice none 0 0, .bool false, .int .i64 0] := by rw [hW0, hK]; exact BlkV.new w _ _
  have hT0 := hT.kept hb0
  have HW0 := Lib.hid hW0
  have HK := Lib.hid hK
  have HB := Lib.hid hb0
  have hz0 : W0.heap.size = K + 1 := by rw [hW0, hK]; simp
  clear hW0 hK
  cases hof : ofL L id with
  | none =>
    have HO := Lib.hid (row_none W0 F g L hT0 id hof)
    clear hof hT hT0 hok hb0
    go_enter Try.func21, Try.ntmps21
    go_wp2_with fail
    rw [← HW0.out, ← HK.out]
    refine HO.out.mono ?_
    rintro e w1 ⟨rfl, hw1⟩
    have hw1 := hw1.symm
    subst hw1
    go_wp2_with (with_reducible refine At.store 37 (.tmp 4) (.tmp 13) ?_)
    refine At.out (wpList_storeV rfl _ rfl (.tmp 4) (.tmp 13) rfl strV K _ #[.int .i64 0, .int .i64 0, .int .i64 0, .slice none 0 0, .bool false, .int .i64 0] rfl rfl hZ rfl rfl (by simp [Value.oneCell']) ?_)
    intro w6 hB6 hbel6 _
    have hb6 := hbel6 w.heap.size w HB.out (by have := HK.out; omega)
    go_wp2_with fail
    exact bodyPost_ret (v := .tuple #[.agg #[.int .i64 0, .int .i64 0, .int .i64 0, .slice none 0 0, .bool false, .int .i64 0], .bool false]) (results_cell2 rfl strV rfl rfl hB6 rfl) rfl ⟨hb6, rfl⟩
  | some V =>
    obtain ⟨i, rfl, hV, hi⟩ := ofL_some hof
    obtain ⟨ta, tc, xs, q, hx⟩ := hT0
    obtain ⟨G, rfl, hG, hFG, hcell, hfro, _, _, hty⟩ := hx.at hV
    have hlt : i < L.length := (List.getElem?_eq_some_iff.1 hV).1
    have HO := Lib.hid (row_some W0 F g G L tc xs q hx i hlt _ rfl)
    have hvl : V.nodes.length ≤ 64 := by have := hok V (List.mem_of_getElem? hV); unfold OkV at this; omega
    obtain ⟨m, hm⟩ : ∃ m, m = V.nodes.length := ⟨_, rfl⟩
    obtain ⟨an, han⟩ : ∃ an, an = (q i).1 := ⟨_, rfl⟩
    obtain ⟨cn, hcn⟩ : ∃ cn, cn = (q i).2 := ⟨_, rfl⟩
    have hrn := (hx.rows i V hV).2.1.1
    rw [← han, ← hcn] at hrn
    have c0 := hcell 0 (by omega)
    have c1 := hcell 1 (by omega)
    have c2 := hcell 2 (by omega)
    have c3 := hcell 3 (by omega)
    have c4 := hcell 4 (by omega)
    have c5 := hcell 5 (by omega)
    rw [← hm, ← han, ← hcn] at c0 c1 c2 c3 c4 c5
    simp only [rowC, List.getElem?_toArray, List.getElem?_cons_succ, List.getElem?_cons_zero, Nat.add_zero] at c0 c1 c2 c3 c4 c5
    obtain ⟨W2, hW2⟩ : ∃ W2, W2 = W0.alloc (.cells (volC i V an m cn) 37) := ⟨_, rfl⟩
    have hbA : Below W0.heap.size W0 W2 := by rw [hW2]; exact (Below.refl _ _).alloc (Nat.le_refl _) _
    have hb2 : Below w.heap.size w W2 := hb0.trans (hbA.mono hb0.size)
    have hM2 : BlkV W2 (K + 1) 37 (volC i V an m cn) := by rw [hW2, ← hz0]; exact BlkV.new W0 _ _
    have hZ2 := hZ.below hbA
    have HCL := Lib.hid (rClone_any W2 an cn m V.nodes hm (hrn.kept hbA) (by omega))
    have d3 := hM2.cell 3
    simp only [volC, List.getElem?_toArray, List.getElem?_cons_succ, List.getElem?_cons_zero] at d3
    have HI := Lib.hid hi
    have HM := Lib.hid hm
    have HW2 := Lib.hid hW2
    have HM2 := Lib.hid hM2
    have HZ2 := Lib.hid hZ2
    have HB2 := Lib.hid hb2
    clear hof hT hx hok hb0 hV hvl hlt hZ hi hcell hfro hty han hcn hrn hm hW2 hbA hb2 hM2 hZ2
    go_enter Try.func21, Try.ntmps21
    go_wp2_with fail
    rw [← HW0.out, ← HK.out]
    refine HO.out.mono ?_
    rintro e w1 ⟨rfl, hw1⟩
    have hw1 := hw1.symm
    subst hw1
    go_upto_region 5 with (fail)
    rw [← HW2.out]
    have dz := HM2.out.lt
    go_wp2_with fail
    refine HCL.out.mono ?_
    rintro e w3 ⟨a3, c3', rfl, ho3, hb3⟩
    have hM3 := HM2.out.below hb3
    have hZ3 := HZ2.out.below hb3
    have f3 := hM3.frozen 3
    have i3 := hM3.cell 3
    simp only [volC, List.getElem?_toArray, List.getElem?_cons_succ, List.getElem?_cons_zero] at i3
    have hM4 := hM3.set 3 (.slice a3 m c3')
    have hZ4 := hZ3.far (show K ≠ K + 1 by omega) 3 (.slice a3 m c3')
    simp only [volC, List.setIfInBounds_toArray, List.set_cons_zero, List.set_cons_succ] at hM4
    have ho4 := own_setFar ho3 (show K + 1 < W2.heap.size by omega) 3 (.slice a3 m c3')
    have hb4 : Below w.heap.size w (w3.setCell ⟨K + 1, 3, none⟩ (.slice a3 m c3')) := (HB2.out.trans (hb3.mono HB2.out.size)).setCell (p := ⟨K + 1, 3, none⟩) (by have := HK.out; simp; omega) _
    obtain ⟨W4, hW4⟩ : ∃ W4, W4 = w3.setCell ⟨K + 1, 3, none⟩ (.slice a3 m c3') := ⟨_, rfl⟩
    rw [← hW4] at hM4 hZ4 ho4 hb4
    have HW4 := Lib.hid hW4
    have HO4 := Lib.hid ho4
    have HB4 := Lib.hid hb4
    have HM4 := Lib.hid hM4
    have HZ4 := Lib.hid hZ4
    clear hM3 hZ3 hM4 hZ4 ho3 hb3 ho4 hb4 hW4 HZ2 HM2
    go_wp2_with (with_reducible refine At.slot 22 ?_)
    rw [← HW4.out]
    refine At.out (wpList_loadV rfl _ rfl (.tmp 7) rfl strV (K + 1) _ rfl HM4.out rfl ?_)
    go_wp2_with (with_reducible refine At.store 37 (.tmp 4) (.tmp 22) ?_)
    refine At.out (wpList_storeV rfl _ rfl (.tmp 4) (.tmp 22) rfl strV K _ (volC i V a3 m c3') rfl rfl HZ4.out rfl rfl (by simp [Value.oneCell']) ?_)
    intro w5 hB5 hbel hoth
    have hb5 := hbel w.heap.size w HB4.out (by have := HK.out; omega)
    have ho5 := own_same HO4.out (fun k hk => hoth k (by omega))
    go_wp2_with fail
    exact bodyPost_ret (v := .tuple #[.agg (volC i V a3 m c3'), .bool true]) (results_cell2 rfl strV rfl rfl hB5 rfl) rfl ⟨hb5, a3, c3', by rw [HI.out, HM.out], HM.out ▸ own_base ho5 HB2.out.size⟩

set_option maxRecDepth 100000 in
set_option maxHeartbeats 4000000 in
theorem rVolumes_any (w : World) (F : Nat → Prop) (g : Nat) (L : List Vl) (hT : RefT w F g L) (hok : OkL L) (hL : L.length ≤ 4096) :
    Calls Try.prog 19 #[.pointer (some ⟨g, 0, none⟩)] w fun e w' => ∃ v xs, e = .returned v ∧ w'.ownsRow w.heap.size 37 6 v L.length xs ∧ VsR w' w.heap.size 0 xs L ∧ Below w.heap.size w w' := by
  obtain ⟨N, hN⟩ : ∃ N, N = L.length := ⟨_, rfl⟩
  have hblk : ∃ a c, BlkV w g 52 #[.slice a N c] := by
    obtain ⟨a, c, xs, q, h⟩ := hT
    exact ⟨a, c, hN ▸ h.blk⟩
  obtain ⟨ta, tc, hblk⟩ := hblk
  have hvol := fun (W : World) (hb : Below w.heap.size w W) (id : Int) => rVolume_any W F g L (hT.kept hb) hok id
  rw [← hN] at hL ⊢
  have HN := Lib.hid hN
  have HB := Lib.hid hblk
  have HVO := Lib.hid hvol
  clear hN hblk hvol hT hok
  go_enter Try.func19, Try.ntmps19
  go_wp2
  go_loopw [3, 4] (fun s3 s4 wr => ∃ (k : Nat) (xs : List Value) (sa : Option Addr) (sc : Nat), k ≤ N ∧ s4 = .int .i64 ((k : Int) + 1) ∧ s3 = .slice sa k sc ∧ wr.ownsRow w.heap.size 37 6 (.slice sa k sc) k xs ∧ Hid (VsR wr w.heap.size 0 xs (L.take k)) ∧ Below w.heap.size w wr) (fun _ s4 _ => N + 1 - (intOf s4).toNat)
  case atStart => exact ⟨0, [], none, 0, by omega, rfl, rfl, World.ownsRow_nil _ _ _ _, rfl, Below.refl _ _⟩
  case round =>
    obtain ⟨k, xs, sa, sc, hk, rfl, rfl, ho, hR, hb⟩ := hrel
    have hB1 := HB.out.below hb
    have c0 := hB1.cell 0
    have z0 := hB1.lt
    simp only [List.getElem?_toArray, List.getElem?_cons_zero] at c0
    clear hB1
    by_cases hlt : k < N
    · have hkl : k < L.length := by have := HN.out; omega
      obtain ⟨V, hV⟩ : ∃ V, L[k]? = some V := ⟨_, List.getElem?_eq_getElem hkl⟩
      have hki : (k : Int) + 1 ≤ (N : Int) := by omega
      have hof : ofL L ((k : Int) + 1) = some V := by
        unfold ofL
        rw [if_pos (by omega), show ((k : Int) + 1 - 1).toNat = k by omega]
        exact hV
      have hown := HVO.out wr hb ((k : Int) + 1)
      rw [hof] at hown
      have HOW := Lib.hid hown
      have HV := Lib.hid hV
      have HO := Lib.hid ho
      have hwr : w.heap.size ≤ wr.heap.size := hb.size
      clear hown hV ho hof
      go_wp2_with fail
      refine HOW.out.mono ?_
      rintro e w2 ⟨hb2, a2, c2, rfl, ho2⟩
      rw [show ((k : Int) + 1 - 1).toNat = k by omega]
      have hO2 := own_below HO.out hb2
      have hw2 := hb2.size
      have hvol : VsR w2 w.heap.size 0 xs (L.take k) := hR.out.map fun a c xs h => h.kept hb2
      obtain ⟨a2', c2', hv2, hT2⟩ := TRd.ofOwn ho2
      simp only [Value.slice.injEq, true_and] at hv2
      obtain ⟨rfl, rfl⟩ := hv2
      have hB2 : ∀ b o, a2 = some ⟨b, o, none⟩ → w.heap.size ≤ b := by
        intro b o e
        subst e
        rcases ho2.2 with ⟨e, _⟩ | ⟨g, cap, cur, hv, hb, _⟩
        · simp at e
        · simp only [Value.slice.injEq, Option.some.injEq, Addr.mk.injEq] at hv
          omega
      have hbA := below_lit w2 (volC k V a2 V.nodes.length c2) 37
      obtain ⟨W3, hW3⟩ : ∃ W3, W3 = w2.alloc (.cells (volC k V a2 V.nodes.length c2) 37) := ⟨_, rfl⟩
      have hP3 : BlkV W3 w2.heap.size 37 (volC k V a2 V.nodes.length c2) := by rw [hW3]; exact BlkV.new w2 _ _
      rw [← hW3] at hbA
      have hO3 := own_below hO2 hbA
      have hT3 := hT2.kept hbA
      have hvol3 : VsR W3 w.heap.size 0 xs (L.take k) := hvol.map fun a c xs h => h.kept hbA
      have hbb := hb.trans ((hb2.trans (hbA.mono hw2)).mono hwr)
      have HW3 := Lib.hid hW3
      have HT2 := Lib.hid hT3
      have HVOL := Lib.hid hvol3
      have HO2 := Lib.hid hO3
      have HB2 := Lib.hid hB2
      have HBB := Lib.hid hbb
      have HP3 := Lib.hid hP3
      have hw3 : w.heap.size ≤ W3.heap.size := hbb.size
      obtain ⟨K3, hK3⟩ : ∃ K3, K3 = w2.heap.size := ⟨_, rfl⟩
      have HK3 := Lib.hid hK3
      clear hT2 hvol hO2 hB2 ho2 hb2 hW3 hP3 hO3 hT3 hvol3 hbb hbA hK3
      go_upto_region 6 with (fail)
      rw [← HW3.out, ← HK3.out]
      go_wp2_with (with_reducible refine At.slot 23 ?_)
      refine At.out (wpList_loadV rfl _ rfl (.tmp 5) rfl strV K3 _ rfl (HK3.out ▸ HP3.out) rfl ?_)
      go_wp2_with (with_reducible refine At.slot 25 ?_)
      have hbl := below_lit W3 (volC k V a2 V.nodes.length c2) 37
      refine At.out (wpList_appS rfl (.tmp 22) (.tmp 24) 34 rfl elemV rfl (by decide) w.heap.size (.slice sa k sc) k xs rfl (HO2.out.alloc _) ⟨W3.heap.size, 0, none⟩ 1 1 (volC k V a2 V.nodes.length c2).toList rfl rfl (cells6 W3 (volC k V a2 V.nodes.length c2).toList _) (by simp [Value.oneCell']) (by unfold maxLen; omega) (by omega) (by simp; omega) ?_)
      intro a4 c4 w4 ho4 hb4 hg4
      have hvt := fun (a : Option Addr) (c : Nat) (ys : List Value) (h : TRd W3 3 a c ys) => TRd.off (F := fun q => (Value.slice sa k sc).ownBlock = some q) (h.kept hbl) (Off.ofGrown hg4 fun _ h => h) (by
        intro q cs fr hq hh
        obtain ⟨cs', fr', hh'⟩ := own_ty (HO2.out.alloc (.cells (volC k V a2 V.nodes.length c2) 37)) q hq
        rw [hh'] at hh
        cases hh)
      have hsn := (HVOL.out.map hvt).snoc (hvt _ _ _ HT2.out) HB2.out
      have htk : L.take (k + 1) = L.take k ++ [V] := by rw [List.take_succ_eq_append_getElem hkl, ← Option.some.inj (HV.out.symm.trans (List.getElem?_eq_getElem hkl))]
      have hlen : 0 + (L.take k).length = k := by rw [List.length_take]; omega
      rw [hlen, ← htk] at hsn
      have hbf := HBB.out.trans ((hbl.mono (by omega)).trans hb4)
      have HSN := Lib.hid hsn
      have HO4 := Lib.hid ho4
      have HBF := Lib.hid hbf
      clear hsn ho4 hbf hb4 hg4 hvt htk hlen hbl
      go_wp2
      go_roundw
      case rel => exact ⟨k + 1, _, _, _, by omega, by go_num, rfl, HO4.out, HSN, HBF.out⟩
      case measure => simp [intOf]; omega
    · have hkN : k = N := by omega
      have hki : ¬ (k : Int) + 1 ≤ (N : Int) := by omega
      have hLk : L.take k = L := List.take_of_length_le (by have := HN.out; omega)
      rw [hLk] at hR
      subst hkN
      have HO := Lib.hid ho
      have HB3 := Lib.hid hb
      clear ho hb hLk
      go_wp2
      go_ret
      exact ⟨_, rfl, _, HO.out, hR.out, HB3.out⟩
end Go.Proofs.Yteenbobblbehoaa

namespace Go.Proofs.Yteenbobblbehoaa
open Go Go.RowKit

def uw64 (n : Int) : UInt64 := UInt64.ofNat (n % 18446744073709551616).toNat
theorem uw64_int (n : Int) : n % 18446744073709551616 = ((uw64 n).toNat : Int) := by
  unfold uw64
  rw [UInt64.toNat_ofNat', Nat.mod_eq_of_lt (by omega)]
  omega
theorem uw64_wrap (n : Int) : IntKind.u64.wrap n = ((uw64 n).toNat : Int) := by rw [← uw64_int, IntKind.wrap_u64]
def numB (l : List Int) : List UInt8 := (l.map fun n => uv (uw64 n).toNat).flatten
theorem numB_snoc (l : List Int) (n : Int) : numB (l ++ [n]) = numB l ++ uv (uw64 n).toNat := by simp [numB]
theorem numB_len : ∀ l : List Int, (numB l).length ≤ 11 * l.length
  | [] => by simp [numB]
  | n :: l => by
    have := numB_len l
    have h2 := uv_len (uw64 n).toNat
    simp only [numB, List.map_cons, List.flatten_cons, List.length_append, List.length_cons] at this ⊢
    omega
/-- What is summed of a row. -/
def rowNs (i : Nat) (V : Vl) : List Int := [(i : Int) + 1, V.st, V.ep, oneI V.fr, (V.nodes.length : Int)] ++ V.nodes.map (· + 1) ++ [V.key]
theorem rowNs_len (i : Nat) (V : Vl) : (rowNs i V).length = V.nodes.length + 6 := by simp [rowNs]
def tabB : Nat → List Vl → List UInt8
  | _, [] => []
  | i, V :: L => numB (rowNs i V) ++ tabB (i + 1) L
theorem tabB_snoc (V : Vl) : ∀ (L : List Vl) (i : Nat), tabB i (L ++ [V]) = tabB i L ++ numB (rowNs (i + L.length) V)
  | [], i => by simp [tabB]
  | N :: L, i => by
    have := tabB_snoc V L (i + 1)
    simp only [List.cons_append, tabB, List.length_cons]
    rw [this, List.append_assoc, show i + (L.length + 1) = i + 1 + L.length by omega]
theorem tabB_len : ∀ (L : List Vl) (i : Nat), (∀ V ∈ L, V.nodes.length ≤ 64) → (tabB i L).length ≤ 770 * L.length
  | [], _, _ => by simp [tabB]
  | N :: L, i, h => by
    have h1 := tabB_len L (i + 1) fun V hV => h V (List.mem_cons_of_mem _ hV)
    have h2 := numB_len (rowNs i N)
    have h3 := h N (List.mem_cons_self ..)
    rw [rowNs_len] at h2
    simp only [tabB, List.length_append, List.length_cons]
    omega
def sumL (L : List Vl) : UInt32 := crc (tabB 0 L)

set_option maxRecDepth 100000 in
set_option maxHeartbeats 8000000 in
theorem fsmSum_any (w : World) (F : Nat → Prop) (t : Nat) (L : List Vl) (hT : TabI w F t L) (hok : OkL L) (hL : L.length ≤ 4096) :
    Calls Try.prog 14 #[ptrV t] w fun e w' => e = .returned (.int .u32 (sumL L).toNat) ∧ Below w.heap.size w w' := by
  obtain ⟨⟨ra, rc, ps, k1, k2, k3, k4, k5, k6⟩, k7⟩ := hT
  obtain ⟨N, hN⟩ : ∃ N, N = L.length := ⟨_, rfl⟩
  have c0 := k1.cell 0
  unfold tblC at c0
  simp only [List.getElem?_toArray, List.getElem?_cons_zero] at c0
  obtain ⟨a', c', hv', hrow⟩ := Rd.ofOwn k2
  cases hv'
  have hps : ∀ i V, L[i]? = some V → ∃ p, (∃ b o, ra = some ⟨b, o, none⟩ ∧ b < w.heap.size ∧ w.cell? ⟨b, o + i, none⟩ = some (ptrV p)) ∧ VlR w F p i V := by
    intro i V hV
    have hi := (List.getElem?_eq_some_iff.1 hV).1
    have hpi : ps[i]? = some ps[i] := List.getElem?_eq_getElem (by omega)
    obtain ⟨b, o, e1, e2⟩ := hrow.cs i (ptrV ps[i]) (by simp [hpi])
    refine ⟨ps[i], ⟨b, o, e1, ?_, e2⟩, (k6 i _ V hpi hV).2⟩
    unfold World.cell? at e2
    by_cases hb' : b < w.heap.size
    · exact hb'
    · rw [Array.getElem?_eq_none (by simpa using hb')] at e2
      simp at e2
  have htl : t < w.heap.size := k1.lt
  have htake : ∀ k, (tabB 0 (L.take k)).length ≤ 3153920 := by
    intro k
    have h1 := tabB_len (L.take k) 0 fun V hV => by have := hok V (List.mem_of_mem_take hV); unfold OkV at this; omega
    have h2 : (L.take k).length ≤ L.length := by rw [List.length_take]; omega
    omega
  have HPS := Lib.hid hps
  have HTK := Lib.hid htake
  rw [← hN] at c0 hL
  have HN := Lib.hid hN
  have HOK := Lib.hid hok
  obtain ⟨R, hR⟩ : ∃ R, R = sumL L := ⟨_, rfl⟩
  rw [← hR]
  have HR := Lib.hid hR
  clear hrow hps k1 k2 k3 k4 k5 k6 k7 hN htake hok hR
  unfold ptrV
  go_enter Try.func14, Try.ntmps14
  go_wp2
  go_loopw [3, 18] (fun s3 s18 wr => ∃ (k : Nat) (sa : Option Addr) (sc : Nat), k ≤ N ∧ s18 = .int .i64 k ∧ s3 = .slice sa (tabB 0 (L.take k)).length sc ∧ wr.ownsRow w.heap.size 5 1 (.slice sa (tabB 0 (L.take k)).length sc) (tabB 0 (L.take k)).length (B8 (tabB 0 (L.take k))) ∧ Below w.heap.size w wr) (fun _ s18 _ => N - (intOf s18).toNat)
  case atStart => exact ⟨0, none, 0, by omega, rfl, rfl, World.ownsRow_nil _ _ _ _, Below.refl _ _⟩
  case round =>
    obtain ⟨k, sa, sc, hk, rfl, rfl, ho, hb⟩ := hrel
    by_cases hlt : k < N
    · have hkl : k < L.length := by have := HN.out; omega
      obtain ⟨V, hV⟩ : ∃ V, L[k]? = some V := ⟨_, List.getElem?_eq_getElem hkl⟩
      obtain ⟨p, ⟨b, o, rfl, hbl, hc⟩, an, cn, hB, hTr, _⟩ := HPS.out k V hV
      have hki : (k : Int) < (N : Int) := by omega
      have hcr : wr.cell? ⟨b, o + k, none⟩ = some (.pointer (some ⟨p, 0, none⟩)) := (hb.cell (p := ⟨b, o + k, none⟩) hbl).trans hc
      have hBr := hB.at hb hB.lt
      obtain ⟨m, hm⟩ : ∃ m, m = V.nodes.length := ⟨_, rfl⟩
      rw [← hm] at hBr
      have d0 := hBr.cell 0
      have d1 := hBr.cell 1
      have d2 := hBr.cell 2
      have d3 := hBr.cell 3
      have d4 := hBr.cell 4
      have d6 := hBr.cell 6
      simp only [List.getElem?_toArray, List.getElem?_cons_succ, List.getElem?_cons_zero] at d0 d1 d2 d3 d4 d6
      have hpl : p < wr.heap.size := hBr.lt
      have hvk : OkV V := HOK.out V (List.mem_of_getElem? hV)
      have hm64 : m ≤ 64 := by unfold OkV at hvk; omega
      obtain ⟨bn, hbn⟩ : ∃ bn, bn = (tabB 0 (L.take k)).length := ⟨_, rfl⟩
      rw [← hbn] at ho ⊢
      have hbn6 : bn ≤ 3153920 := by rw [hbn]; exact HTK.out k
      have HV := Lib.hid hV
      have HM := Lib.hid hm
      have HO := Lib.hid ho
      have HBN := Lib.hid hbn
      have HTr := Lib.hid (hTr.kept hb)
      have HVK := Lib.hid hvk
      clear hB hTr hc hV ho hBr hm hbn hvk
      go_upto_region 7 with (fail)
      go_region_held3 (fun X => X.cell? ⟨p, 0, none⟩ = some (.int .i64 ((k : Int) + 1)) ∧ X.cell? ⟨p, 1, none⟩ = some (.int .i64 V.st) ∧ X.cell? ⟨p, 2, none⟩ = some (.int .i64 V.ep) ∧ X.cell? ⟨p, 3, none⟩ = some (.slice an m cn) ∧ X.cell? ⟨p, 4, none⟩ = some (.bool V.fr) ∧ X.cell? ⟨p, 6, none⟩ = some (.int .i64 V.key) ∧ Below wr.heap.size wr X)
        (first
          | exact rowS (Below.refl _ _).drew hpl d0 d1 d2 d3 d4 d6
          | exact rowS ((Below.refl _ _).drew.alloc (Nat.le_refl _) _) hpl d0 d1 d2 d3 d4 d6)
        (first
          | (go_at_call 31; refine (one_any _ _).mono ?_; rintro e w3 ⟨rfl, rfl⟩))
      go_wp2
      obtain ⟨W1, hW1⟩ : ∃ W1, W1 = (wr.alloc (.cells #[.int .i64 ((k : Int) + 1), .int .i64 V.st, .int .i64 V.ep, .int .i64 (oneI V.fr), .int .i64 (m : Int)] 3)).drew := ⟨_, rfl⟩
      obtain ⟨wo, hwo⟩ : ∃ wo : World, wo = wr := ⟨_, rfl⟩
      rw [← hW1]
      subst hwo
      obtain ⟨G, hG⟩ : ∃ G, G = wo.heap.size := ⟨_, rfl⟩
      have hwG : w.heap.size ≤ G := by have := hb.size; omega
      have hstart : W1.ownsRow G 3 1 (.slice (some ⟨wo.heap.size, 0, none⟩) (5 + 0) 5) (5 + 0) (BI ([(k : Int) + 1, V.st, V.ep, oneI V.fr, (m : Int)] ++ (V.nodes.take 0).map (· + 1))) := by
        rw [hW1, hG]
        exact World.ownsRow.drew (World.ownsRow_lit (e := 3) (size := 1) wo #[.int .i64 ((k : Int) + 1), .int .i64 V.st, .int .i64 V.ep, .int .i64 (oneI V.fr), .int .i64 (m : Int)] 5 (Nat.le_refl _) (by unfold maxLen; omega) rfl)
      have hbW1 : Below G wo W1 := by rw [hW1, hG]; exact ((Below.refl _ _).alloc (Nat.le_refl _) _).drew
      have HS := Lib.hid hstart
      have HG := Lib.hid hG
      have HB := Lib.hid hb
      have HBW := Lib.hid hbW1
      have hpG : p < G := by omega
      clear hW1 hstart hG hb hbW1
      go_loopw [6, 56] (fun s6 s56 wr => ∃ (j : Nat) (a6 : Option Addr) (c6 : Nat), j ≤ m ∧ s56 = .int .i64 j ∧ s6 = .slice a6 (5 + j) c6 ∧ wr.ownsRow G 3 1 (.slice a6 (5 + j) c6) (5 + j) (BI ([(k : Int) + 1, V.st, V.ep, oneI V.fr, (m : Int)] ++ (V.nodes.take j).map (· + 1))) ∧ Below G wo wr) (fun _ s56 _ => m - (intOf s56).toNat)
      case atStart => exact ⟨0, some ⟨wo.heap.size, 0, none⟩, 5, by omega, rfl, rfl, HS.out, HBW.out⟩
      case round =>
        obtain ⟨j, a6, c6, hj, rfl, rfl, ho6, hb6⟩ := hrel
        by_cases hjm : j < m
        · have hjl : j < V.nodes.length := by have := HM.out; omega
          have hji : (j : Int) < (m : Int) := by omega
          obtain ⟨x, hx⟩ : ∃ x, V.nodes[j]? = some x := ⟨_, List.getElem?_eq_getElem hjl⟩
          have hxr : -1 ≤ x ∧ x < 64 := by have := HVK.out; unfold OkV at this; exact this.2.2.2.2.2.2.2 x (List.mem_of_getElem? hx)
          obtain ⟨b1, o1, rfl, u1⟩ := (HTr.out.1.kept (HG.out ▸ hb6)).cs j (.int .i64 x) (by simp [BI, hx])
          have hxw : IntKind.i64.wrap (x + 1) = x + 1 := IntWalk.i64_in _ (by omega)
          have HX := Lib.hid hx
          have hzz : G ≤ wr.heap.size := by have := hb6.size; have := HG.out; omega
          clear hx
          go_wp2_with (with_reducible refine At.slot 64 ?_)
          refine At.out (wpList_app rfl (.tmp 60) (.tmp 63) 27 rfl elemN rfl G _ (5 + j) _ rfl (ho6.alloc _) (some ⟨wr.heap.size, 0, none⟩) 1 1 [.int .i64 (x + 1)] rfl rfl (Rd.one wr _ _) (by simp [Value.oneCell']) (by unfold maxLen; omega) (by omega) (by simp; omega) ?_)
          intro v7 w7 ho7 hb7 _
          obtain ⟨a7, c7, rfl, _⟩ := Rd.ofOwn ho7
          have hnx : BI ([(k : Int) + 1, V.st, V.ep, oneI V.fr, (m : Int)] ++ (V.nodes.take (j + 1)).map (· + 1)) = BI ([(k : Int) + 1, V.st, V.ep, oneI V.fr, (m : Int)] ++ (V.nodes.take j).map (· + 1)) ++ [.int .i64 (x + 1)] := by
            rw [List.take_succ_eq_append_getElem hjl, ← Option.some.inj (HX.out.symm.trans (List.getElem?_eq_getElem hjl)), List.map_append, ← List.append_assoc, BI_append]
            rfl
          rw [← hnx] at ho7
          have HO7 := Lib.hid ho7
          have HB7 := Lib.hid (hb6.trans (((below_lit wr #[.int .i64 (x + 1)] 3).mono hzz).trans hb7))
          clear ho7 hb7 hnx
          go_wp2
          go_roundw
          case rel => exact ⟨j + 1, _, _, by omega, by go_num, rfl, HO7.out, HB7.out⟩
          case measure => simp [intOf]; omega
        · have hjm2 : j = m := by omega
          have htk : V.nodes.take j = V.nodes := List.take_of_length_le (by have := HM.out; omega)
          rw [htk] at ho6
          subst hjm2
          have hzz : G ≤ wr.heap.size := by have := hb6.size; have := HG.out; omega
          have d6' : wr.cell? ⟨p, 6, none⟩ = some (.int .i64 V.key) := (hb6.cell hpG).trans d6
          have hpw : p < wr.heap.size := by omega
          clear htk
          go_wp2_with (with_reducible refine At.slot 72 ?_)
          refine At.out (wpList_app rfl (.tmp 66) (.tmp 71) 27 rfl elemN rfl G _ (5 + j) _ rfl (ho6.alloc _) (some ⟨wr.heap.size, 0, none⟩) 1 1 [.int .i64 V.key] rfl rfl (Rd.one wr _ _) (by simp [Value.oneCell']) (by unfold maxLen; omega) (by omega) (by simp; omega) ?_)
          intro v7 w7 ho7 hb7 _
          obtain ⟨a7, c7, rfl, _⟩ := Rd.ofOwn ho7
          have hns : BI ([(k : Int) + 1, V.st, V.ep, oneI V.fr, (j : Int)] ++ V.nodes.map (· + 1)) ++ [.int .i64 V.key] = BI (rowNs k V) := by
            unfold rowNs
            rw [← HM.out, BI_append _ [V.key]]
            rfl
          rw [hns] at ho7
          obtain ⟨a7', c7', hv7, hT7⟩ := TRd.ofOwn ho7
          simp only [Value.slice.injEq, true_and] at hv7
          obtain ⟨rfl, rfl⟩ := hv7
          have hb7' := hb6.trans (((below_lit wr #[.int .i64 V.key] 3).mono hzz).trans hb7)
          have hbw7 : Below w.heap.size w w7 := HB.out.trans (hb7'.mono hwG)
          have ho8 := own_below HO.out (HG.out ▸ hb7')
          have HT7 := Lib.hid hT7
          have HO8 := Lib.hid ho8
          have HBW7 := Lib.hid hbw7
          have hrl : (rowNs k V).length = 5 + j + 1 := by rw [rowNs_len, ← HM.out]; omega
          have HRL := Lib.hid hrl
          clear ho6 hb6 ho7 hb7 hns hT7 hb7' hbw7 ho8 hrl d6'
          go_wp2
          go_loopw [3, 74] (fun s3 s74 wr => ∃ (i : Nat) (a3 : Option Addr) (c3 bq : Nat), i ≤ 5 + j + 1 ∧ s74 = .int .i64 i ∧ s3 = .slice a3 bq c3 ∧ Hid (bq = bn + (numB ((rowNs k V).take i)).length) ∧ wr.ownsRow w.heap.size 5 1 (.slice a3 bq c3) bq (B8 (tabB 0 (L.take k) ++ numB ((rowNs k V).take i))) ∧ Hid (TRd wr 3 a7 c7 (BI (rowNs k V))) ∧ Below w.heap.size w wr) (fun _ s74 _ => 5 + j + 1 - (intOf s74).toNat)
          case atStart => exact ⟨0, sa, sc, bn, by omega, rfl, rfl, rfl, by rw [List.take_zero]; simpa [numB] using HO8.out, HT7, HBW7.out⟩
          case round =>
            obtain ⟨i, a3, c3, bq, hi, rfl, rfl, hbq, ho3, hT3, hb3⟩ := hrel
            by_cases hin : i < 5 + j + 1
            · have hil : i < (rowNs k V).length := by have := HRL.out; omega
              have hii : (i : Int) < 5 + (j : Int) + 1 := by omega
              obtain ⟨x, hx⟩ : ∃ x, (rowNs k V)[i]? = some x := ⟨_, List.getElem?_eq_getElem hil⟩
              obtain ⟨b1, o1, rfl, u1⟩ := hT3.out.1.cs i (.int .i64 x) (by simp [BI, hx])
              have q1 := uw64_wrap x
              have q2 := uw64_int x
              have HX := Lib.hid hx
              have hnl := numB_len ((rowNs k V).take i)
              have hbq2 : bq ≤ 3160000 := by have := hbq.out; have := List.length_take_le' i (rowNs k V); have := HRL.out; omega
              obtain ⟨y, hy⟩ : ∃ y, y = uw64 x := ⟨_, rfl⟩
              rw [← hy] at q1 q2
              have HY := Lib.hid hy
              clear hx hnl hy
              go_wp2_with fail
              refine (uvarint_any y _).mono ?_
              rintro e w8 ⟨r8, rfl, ho8, hb8⟩
              obtain ⟨a8, c8, rfl, hr8⟩ := Rd.ofOwn ho8
              have hl8 := uv_len y.toNat
              obtain ⟨n8, hn8⟩ : ∃ n8, n8 = (uv y.toNat).length := ⟨_, rfl⟩
              rw [← hn8] at hl8 ⊢
              have HN8 := Lib.hid hn8
              have hzz := hb3.size
              have hzz8 := hb8.size
              clear hn8
              go_wp2_with (with_reducible refine At.slot 82 ?_)
              refine At.out (wpList_app rfl (.tmp 78) (.tmp 81) 31 rfl elemB rfl w.heap.size _ bq _ rfl (own_below ho3 hb8) a8 n8 c8 (B8 (uv y.toNat)) rfl (by rw [B8_length]; exact HN8.out) hr8 (B8_one _) (by unfold maxLen; omega) (by omega) (by omega) ?_)
              intro v9 w9 ho9 hb9 hg9
              obtain ⟨a9, c9, rfl, _⟩ := Rd.ofOwn ho9
              have hT9 : TRd w9 3 (some ⟨b1, o1, none⟩) c7 (BI (rowNs k V)) := TRd.off (F := fun q => (Value.slice a3 bq c3).ownBlock = some q) (hT3.out.kept hb8) (Off.ofGrown hg9 fun _ h => h) (by
                intro q cs fr hq hh
                obtain ⟨cs', fr', hh'⟩ := own_ty (own_below ho3 hb8) q hq
                rw [hh'] at hh
                cases hh)
              have hsn : numB ((rowNs k V).take (i + 1)) = numB ((rowNs k V).take i) ++ uv y.toNat := by
                rw [List.take_succ_eq_append_getElem hil, numB_snoc, ← Option.some.inj (HX.out.symm.trans (List.getElem?_eq_getElem hil)), HY.out]
              have hB8 : B8 (tabB 0 (L.take k) ++ numB ((rowNs k V).take (i + 1))) = B8 (tabB 0 (L.take k) ++ numB ((rowNs k V).take i)) ++ B8 (uv y.toNat) := by
                rw [hsn, ← List.append_assoc, B8_append _ (uv y.toNat)]
              rw [← hB8] at ho9
              have hbq9 : bq + n8 = bn + (numB ((rowNs k V).take (i + 1))).length := by rw [hsn, List.length_append, HN8.out, hbq.out]; omega
              have HO9 := Lib.hid ho9
              have HT9 := Lib.hid hT9
              have HBQ9 := Lib.hid hbq9
              have HB9 := Lib.hid ((hb3.trans (hb8.mono hzz)).trans hb9)
              clear ho9 hT9 hbq9 hb9 hg9 hsn hB8 ho8 hb8 hr8
              go_wp2
              go_roundw
              case rel => exact ⟨i + 1, _, _, _, by omega, by go_num, rfl, HBQ9, HO9.out, HT9, HB9.out⟩
              case measure => simp [intOf]; omega
            · have hie : i = 5 + j + 1 := by omega
              have htk : (rowNs k V).take i = rowNs k V := List.take_of_length_le (by have := HRL.out; omega)
              have hLk : tabB 0 (L.take (k + 1)) = tabB 0 (L.take k) ++ numB (rowNs k V) := by
                rw [List.take_succ_eq_append_getElem hkl, ← Option.some.inj (HV.out.symm.trans (List.getElem?_eq_getElem hkl)), tabB_snoc]
                rw [show 0 + (L.take k).length = k by rw [List.length_take]; omega]
              have hbq2 : bq = (tabB 0 (L.take (k + 1))).length := by rw [hLk, List.length_append, hbq.out, htk, HBN.out]
              rw [htk, ← hLk] at ho3
              have HO3 := Lib.hid ho3
              have HB3 := Lib.hid hb3
              have HBQ := Lib.hid hbq2
              subst hie
              clear ho3 hb3 hbq2 hLk htk hbq
              go_wp2
              go_roundw
              case rel => exact ⟨k + 1, a3, c3, by omega, by go_num, by rw [HBQ.out], by rw [← HBQ.out]; exact HO3.out, HB3.out⟩
              case measure => simp [intOf]; omega
    · have hkN : k = N := by omega
      have hLk : L.take k = L := List.take_of_length_le (by have := HN.out; omega)
      rw [hLk] at ho ⊢
      obtain ⟨_, _, hv, hrd⟩ := Rd.ofOwn ho
      cases hv
      have HSM := Lib.hid (sum_any wr sa sc (tabB 0 L) hrd)
      have HB := Lib.hid hb
      have hbz := hb.size
      subst hkN
      have hRc : R = crc (tabB 0 L) := HR.out
      have HRC := Lib.hid hRc
      clear ho hb hrd hLk hRc
      go_wp2_with fail
      refine HSM.out.mono ?_
      rintro e w3 ⟨rfl, hb3⟩
      have HB3 := Lib.hid (HB.out.trans (hb3.mono hbz))
      clear hb3
      go_wp2
      go_ret
      rw [HRC.out]
      exact ⟨rfl, HB3.out⟩
end Go.Proofs.Yteenbobblbehoaa

namespace Go.Proofs.Yteenbobblbehoaa
open Go Go.RowKit

set_option maxRecDepth 100000 in
set_option maxHeartbeats 8000000 in
theorem rSum_any (w : World) (F : Nat → Prop) (g : Nat) (L : List Vl) (hT : RefT w F g L) (hok : OkL L) (hL : L.length ≤ 4096) :
    Calls Try.prog 20 #[.pointer (some ⟨g, 0, none⟩)] w fun e w' => e = .returned (.int .u32 (sumL L).toNat) ∧ Below w.heap.size w w' := by
  obtain ⟨ta, tc, xs, q, hx⟩ := hT
  obtain ⟨N, hN⟩ : ∃ N, N = L.length := ⟨_, rfl⟩
  have hrow : ∀ k V, L[k]? = some V → ∃ G, ta = some ⟨G, 0, none⟩ ∧ G < w.heap.size ∧ (∀ j, j < 7 → w.cell? ⟨G, k * 7 + j, none⟩ = (rowC k V (q k).1 V.nodes.length (q k).2)[j]?) ∧ Rd w (q k).1 (q k).2 (BI V.nodes) := fun k V hV => by
    obtain ⟨G, e1, e2, _, e3, _⟩ := hx.at hV
    exact ⟨G, e1, e2, e3, (hx.rows k V hV).2.1.1⟩
  have h1 := hx.blk
  have htake : ∀ k, (tabB 0 (L.take k)).length ≤ 3153920 := by
    intro k
    have h1 := tabB_len (L.take k) 0 fun V hV => by have := hok V (List.mem_of_mem_take hV); unfold OkV at this; omega
    have h2 : (L.take k).length ≤ L.length := by rw [List.length_take]; omega
    omega
  rw [← hN] at h1 hL
  have HROW := Lib.hid hrow
  have HTK := Lib.hid htake
  have HN := Lib.hid hN
  have HOK := Lib.hid hok
  have H1 := Lib.hid h1
  obtain ⟨R, hR⟩ : ∃ R, R = sumL L := ⟨_, rfl⟩
  rw [← hR]
  have HR := Lib.hid hR
  clear hrow htake hN hok h1 hR hx
  go_enter Try.func20, Try.ntmps20
  go_wp2
  go_loopw [3, 4] (fun s3 s4 wr => ∃ (k : Nat) (sa : Option Addr) (sc : Nat), k ≤ N ∧ s4 = .int .i64 k ∧ s3 = .slice sa (tabB 0 (L.take k)).length sc ∧ wr.ownsRow w.heap.size 5 1 (.slice sa (tabB 0 (L.take k)).length sc) (tabB 0 (L.take k)).length (B8 (tabB 0 (L.take k))) ∧ Below w.heap.size w wr) (fun _ s4 _ => N - (intOf s4).toNat)
  case atStart => exact ⟨0, none, 0, by omega, rfl, rfl, World.ownsRow_nil _ _ _ _, Below.refl _ _⟩
  case round =>
    obtain ⟨k, sa, sc, hk, rfl, rfl, ho, hb⟩ := hrel
    have hB1 := H1.out.below hb
    have c0 := hB1.cell 0
    have z0 := hB1.lt
    simp only [List.getElem?_toArray, List.getElem?_cons_zero] at c0
    clear hB1
    by_cases hlt : k < N
    · have hkl : k < L.length := by have := HN.out; omega
      obtain ⟨V, hV⟩ : ∃ V, L[k]? = some V := ⟨_, List.getElem?_eq_getElem hkl⟩
      obtain ⟨G, rfl, hGw, hcell, hrn⟩ := HROW.out k V hV
      have hki : (k : Int) < (N : Int) := by omega
      obtain ⟨m, hm⟩ : ∃ m, m = V.nodes.length := ⟨_, rfl⟩
      obtain ⟨an, han⟩ : ∃ an, an = (q k).1 := ⟨_, rfl⟩
      obtain ⟨cn, hcn⟩ : ∃ cn, cn = (q k).2 := ⟨_, rfl⟩
      rw [← hm, ← han, ← hcn] at hcell
      rw [← han, ← hcn] at hrn
      have hat := fun j (hj : j < 7) => (hb.cell (p := ⟨G, k * 7 + j, none⟩) hGw).trans (hcell j hj)
      have d0 := hat 0 (by omega)
      have d1 := hat 1 (by omega)
      have d2 := hat 2 (by omega)
      have d3 := hat 3 (by omega)
      have d4 := hat 4 (by omega)
      have d5 := hat 5 (by omega)
      have x6 := hcell 6 (by omega)
      simp only [rowC, List.getElem?_toArray, List.getElem?_cons_succ, List.getElem?_cons_zero, Nat.add_zero] at d0 d1 d2 d3 d4 d5 x6
      have hvk : OkV V := HOK.out V (List.mem_of_getElem? hV)
      have hm64 : m ≤ 64 := by unfold OkV at hvk; omega
      obtain ⟨bn, hbn⟩ : ∃ bn, bn = (tabB 0 (L.take k)).length := ⟨_, rfl⟩
      rw [← hbn] at ho ⊢
      have hbn6 : bn ≤ 3153920 := by rw [hbn]; exact HTK.out k
      have HV := Lib.hid hV
      have HM := Lib.hid hm
      have HO := Lib.hid ho
      have HBN := Lib.hid hbn
      have HRN := Lib.hid hrn
      have HVK := Lib.hid hvk
      have HX6 := Lib.hid x6
      obtain ⟨K5, hK5⟩ : ∃ K5, K5 = wr.heap.size := ⟨_, rfl⟩
      obtain ⟨W1, hW1⟩ : ∃ W1, W1 = wr.alloc (.cells (volC k V an m cn) 37) := ⟨_, rfl⟩
      have hP5 : BlkV W1 K5 37 (volC k V an m cn) := by rw [hW1, hK5]; exact BlkV.new wr _ _
      have hbW : Below wr.heap.size wr W1 := by rw [hW1]; exact (Below.refl _ _).alloc (Nat.le_refl _) _
      have HW1 := Lib.hid hW1
      have HK5 := Lib.hid hK5
      have HBW1 := Lib.hid hbW
      have HP5 := Lib.hid hP5
      have HBB := Lib.hid hb
      have hGr : G < wr.heap.size := Nat.lt_of_lt_of_le hGw hb.size
      clear hcell hat hV hm ho hbn hrn hvk x6 hK5 hW1 hbW hP5 han hcn hb
      go_upto_region 6 with (fail)
      rw [← HW1.out, ← HK5.out]
      have e0 := HP5.out.cell 0
      have e1 := HP5.out.cell 1
      have e2 := HP5.out.cell 2
      have e3 := HP5.out.cell 3
      have e4 := HP5.out.cell 4
      simp only [volC, List.getElem?_toArray, List.getElem?_cons_succ, List.getElem?_cons_zero] at e0 e1 e2 e3 e4
      have ez := HP5.out.lt
      obtain ⟨f, hf⟩ : ∃ f, f = V.fr := ⟨_, rfl⟩
      obtain ⟨z, hz⟩ : ∃ z, z = oneI V.fr := ⟨_, rfl⟩
      rw [← hf] at e4 hz
      have HZ := Lib.hid hz
      have HZF := Lib.hid (show z = oneI V.fr by rw [hz, hf])
      clear hz hf d0 d1 d2 d3 d4 d5
      go_upto_if 28 with (fail)
      go_cut [6] from 28 to 28 (fun s6 wx => s6 = .int .i64 z ∧ W1 = wx)
      case first =>
        cases f with
        | true =>
          go_wp2_with fail
          go_meet
          exact ⟨congrArg (Value.int .i64) HZ.out.symm, rfl⟩
        | false =>
          go_wp2_with fail
          go_meet
          exact ⟨congrArg (Value.int .i64) HZ.out.symm, rfl⟩
      case rest =>
      obtain ⟨rfl, rfl⟩ := hcut
      go_upto_region 10 with (fail)
      obtain ⟨B0, hB0⟩ : ∃ B0, B0 = W1.heap.size := ⟨_, rfl⟩
      obtain ⟨W2, hW2⟩ : ∃ W2, W2 = W1.alloc (.cells #[.int .i64 ((k : Int) + 1), .int .i64 V.st, .int .i64 V.ep, .int .i64 z, .int .i64 (m : Int)] 3) := ⟨_, rfl⟩
      rw [← hW2, ← hB0]
      have hwG : w.heap.size ≤ B0 := by have := HBB.out.size; have := HBW1.out.size; omega
      have hstart : W2.ownsRow B0 3 1 (.slice (some ⟨B0, 0, none⟩) (5 + 0) 5) (5 + 0) (BI ([(k : Int) + 1, V.st, V.ep, z, (m : Int)] ++ (V.nodes.take 0).map (· + 1))) := by
        rw [hW2, hB0]
        exact World.ownsRow_lit (e := 3) (size := 1) W1 #[.int .i64 ((k : Int) + 1), .int .i64 V.st, .int .i64 V.ep, .int .i64 z, .int .i64 (m : Int)] 5 (Nat.le_refl _) (by unfold maxLen; omega) rfl
      have hbW2 : Below B0 W1 W2 := by rw [hW2, hB0]; exact (Below.refl _ _).alloc (Nat.le_refl _) _
      have HS := Lib.hid hstart
      have HG := Lib.hid hB0
      have HBW := Lib.hid hbW2
      have HB := Lib.hid (HBB.out.trans (HBW1.out.mono HBB.out.size))
      have hKB : K5 < B0 := by omega
      have hGB : G < B0 := by have := HBW1.out.size; omega
      have HTr := Lib.hid (HRN.out.kept HB.out)
      clear hW2 hstart hB0 hbW2 e0 e1 e2 e4
      go_wp2
      go_loopw [7, 8] (fun s7 s8 wr => ∃ (j : Nat) (a6 : Option Addr) (c6 : Nat), j ≤ m ∧ s8 = .int .i64 j ∧ s7 = .slice a6 (5 + j) c6 ∧ wr.ownsRow B0 3 1 (.slice a6 (5 + j) c6) (5 + j) (BI ([(k : Int) + 1, V.st, V.ep, z, (m : Int)] ++ (V.nodes.take j).map (· + 1))) ∧ Below B0 W1 wr) (fun _ s8 _ => m - (intOf s8).toNat)
      case atStart => exact ⟨0, some ⟨B0, 0, none⟩, 5, by omega, rfl, rfl, HS.out, HBW.out⟩
      case round =>
        obtain ⟨j, a6, c6, hj, rfl, rfl, ho6, hb6⟩ := hrel
        have y3 : wr.cell? ⟨K5, 3, none⟩ = some (.slice an m cn) := (hb6.cell (p := ⟨K5, 3, none⟩) hKB).trans e3
        have hKw : K5 < wr.heap.size := by have := hb6.size; have := HG.out; omega
        by_cases hjm : j < m
        · have hjl : j < V.nodes.length := by have := HM.out; omega
          have hji : (j : Int) < (m : Int) := by omega
          obtain ⟨x, hx⟩ : ∃ x, V.nodes[j]? = some x := ⟨_, List.getElem?_eq_getElem hjl⟩
          have hxr : -1 ≤ x ∧ x < 64 := by have := HVK.out; unfold OkV at this; exact this.2.2.2.2.2.2.2 x (List.mem_of_getElem? hx)
          obtain ⟨b1, o1, rfl, u1⟩ := (HTr.out.kept (HG.out ▸ hb6)).cs j (.int .i64 x) (by simp [BI, hx])
          have hxw : IntKind.i64.wrap (x + 1) = x + 1 := IntWalk.i64_in _ (by omega)
          have HX := Lib.hid hx
          have hzz : B0 ≤ wr.heap.size := by have := hb6.size; have := HG.out; omega
          clear hx
          go_wp2_with (with_reducible refine At.slot 55 ?_)
          refine At.out (wpList_app rfl (.tmp 47) (.tmp 54) 27 rfl elemN rfl B0 _ (5 + j) _ rfl (ho6.alloc _) (some ⟨wr.heap.size, 0, none⟩) 1 1 [.int .i64 (x + 1)] rfl rfl (Rd.one wr _ _) (by simp [Value.oneCell']) (by unfold maxLen; omega) (by omega) (by simp; omega) ?_)
          intro v7 w7 ho7 hb7 _
          obtain ⟨a7, c7, rfl, _⟩ := Rd.ofOwn ho7
          have hnx : BI ([(k : Int) + 1, V.st, V.ep, z, (m : Int)] ++ (V.nodes.take (j + 1)).map (· + 1)) = BI ([(k : Int) + 1, V.st, V.ep, z, (m : Int)] ++ (V.nodes.take j).map (· + 1)) ++ [.int .i64 (x + 1)] := by
            rw [List.take_succ_eq_append_getElem hjl, ← Option.some.inj (HX.out.symm.trans (List.getElem?_eq_getElem hjl)), List.map_append, ← List.append_assoc, BI_append]
            rfl
          rw [← hnx] at ho7
          have HO7 := Lib.hid ho7
          have HB7 := Lib.hid (hb6.trans (((below_lit wr #[.int .i64 (x + 1)] 3).mono hzz).trans hb7))
          clear ho7 hb7 hnx
          go_wp2
          go_roundw
          case rel => exact ⟨j + 1, _, _, by omega, by go_num, rfl, HO7.out, HB7.out⟩
          case measure => simp [intOf]; omega
        · have hjm2 : j = m := by omega
          have htk : V.nodes.take j = V.nodes := List.take_of_length_le (by have := HM.out; omega)
          rw [htk] at ho6
          subst hjm2
          have hzz : B0 ≤ wr.heap.size := by have := hb6.size; have := HG.out; omega
          have hbwr : Below w.heap.size w wr := HB.out.trans (hb6.mono hwG)
          have d6' : wr.cell? ⟨G, k * 7 + 6, none⟩ = some (.int .i64 V.key) := (hbwr.cell (p := ⟨G, k * 7 + 6, none⟩) hGw).trans HX6.out
          have hGq : G < wr.heap.size := by omega
          have hB2 := H1.out.below hbwr
          have c1 := hB2.cell 0
          have z1 := hB2.lt
          simp only [List.getElem?_toArray, List.getElem?_cons_zero] at c1
          clear htk hB2 hbwr
          go_wp2_with (with_reducible refine At.slot 66 ?_)
          refine At.out (wpList_app rfl (.tmp 56) (.tmp 65) 27 rfl elemN rfl B0 _ (5 + j) _ rfl (ho6.alloc _) (some ⟨wr.heap.size, 0, none⟩) 1 1 [.int .i64 V.key] rfl rfl (Rd.one wr _ _) (by simp [Value.oneCell']) (by unfold maxLen; omega) (by omega) (by simp; omega) ?_)
          intro v7 w7 ho7 hb7 _
          obtain ⟨a7, c7, rfl, _⟩ := Rd.ofOwn ho7
          have hns : BI ([(k : Int) + 1, V.st, V.ep, z, (j : Int)] ++ V.nodes.map (· + 1)) ++ [.int .i64 V.key] = BI (rowNs k V) := by
            unfold rowNs
            rw [← HM.out, HZF.out, BI_append _ [V.key]]
            rfl
          rw [hns] at ho7
          obtain ⟨a7', c7', hv7, hT7⟩ := TRd.ofOwn ho7
          simp only [Value.slice.injEq, true_and] at hv7
          obtain ⟨rfl, rfl⟩ := hv7
          have hb7' := hb6.trans (((below_lit wr #[.int .i64 V.key] 3).mono hzz).trans hb7)
          have hbw7 : Below w.heap.size w w7 := HB.out.trans (hb7'.mono hwG)
          have ho8 := own_below (own_below HO.out HBW1.out) (HG.out ▸ hb7')
          have HT7 := Lib.hid hT7
          have HO8 := Lib.hid ho8
          have HBW7 := Lib.hid hbw7
          have hrl : (rowNs k V).length = 5 + j + 1 := by rw [rowNs_len, ← HM.out]; omega
          have HRL := Lib.hid hrl
          clear ho6 hb6 ho7 hb7 hns hT7 hb7' hbw7 ho8 hrl d6' c1
          go_wp2
          go_loopw [3, 9] (fun s3 s9 wr => ∃ (i : Nat) (a3 : Option Addr) (c3 bq : Nat), i ≤ 5 + j + 1 ∧ s9 = .int .i64 i ∧ s3 = .slice a3 bq c3 ∧ Hid (bq = bn + (numB ((rowNs k V).take i)).length) ∧ wr.ownsRow w.heap.size 5 1 (.slice a3 bq c3) bq (B8 (tabB 0 (L.take k) ++ numB ((rowNs k V).take i))) ∧ Hid (TRd wr 3 a7 c7 (BI (rowNs k V))) ∧ Below w.heap.size w wr) (fun _ s9 _ => 5 + j + 1 - (intOf s9).toNat)
          case atStart => exact ⟨0, sa, sc, bn, by omega, rfl, rfl, rfl, by rw [List.take_zero]; simpa [numB] using HO8.out, HT7, HBW7.out⟩
          case round =>
            obtain ⟨i, a3, c3, bq, hi, rfl, rfl, hbq, ho3, hT3, hb3⟩ := hrel
            by_cases hin : i < 5 + j + 1
            · have hil : i < (rowNs k V).length := by have := HRL.out; omega
              have hii : (i : Int) < 5 + (j : Int) + 1 := by omega
              obtain ⟨x, hx⟩ : ∃ x, (rowNs k V)[i]? = some x := ⟨_, List.getElem?_eq_getElem hil⟩
              obtain ⟨b1, o1, rfl, u1⟩ := hT3.out.1.cs i (.int .i64 x) (by simp [BI, hx])
              have q1 := uw64_wrap x
              have q2 := uw64_int x
              have HX := Lib.hid hx
              have hnl := numB_len ((rowNs k V).take i)
              have hbq2 : bq ≤ 3160000 := by have := hbq.out; have := List.length_take_le' i (rowNs k V); have := HRL.out; omega
              obtain ⟨y, hy⟩ : ∃ y, y = uw64 x := ⟨_, rfl⟩
              rw [← hy] at q1 q2
              have HY := Lib.hid hy
              clear hx hnl hy
              go_wp2_with fail
              refine (refUvarint_any y _).mono ?_
              rintro e w8 ⟨r8, rfl, ho8, hb8⟩
              obtain ⟨a8, c8, rfl, hr8⟩ := Rd.ofOwn ho8
              have hl8 := uv_len y.toNat
              obtain ⟨n8, hn8⟩ : ∃ n8, n8 = (uv y.toNat).length := ⟨_, rfl⟩
              rw [← hn8] at hl8 ⊢
              have HN8 := Lib.hid hn8
              have hzz := hb3.size
              have hzz8 := hb8.size
              clear hn8
              go_wp2_with (with_reducible refine At.slot 80 ?_)
              refine At.out (wpList_app rfl (.tmp 73) (.tmp 79) 31 rfl elemB rfl w.heap.size _ bq _ rfl (own_below ho3 hb8) a8 n8 c8 (B8 (uv y.toNat)) rfl (by rw [B8_length]; exact HN8.out) hr8 (B8_one _) (by unfold maxLen; omega) (by omega) (by omega) ?_)
              intro v9 w9 ho9 hb9 hg9
              obtain ⟨a9, c9, rfl, _⟩ := Rd.ofOwn ho9
              have hT9 : TRd w9 3 (some ⟨b1, o1, none⟩) c7 (BI (rowNs k V)) := TRd.off (F := fun q => (Value.slice a3 bq c3).ownBlock = some q) (hT3.out.kept hb8) (Off.ofGrown hg9 fun _ h => h) (by
                intro q cs fr hq hh
                obtain ⟨cs', fr', hh'⟩ := own_ty (own_below ho3 hb8) q hq
                rw [hh'] at hh
                cases hh)
              have hsn : numB ((rowNs k V).take (i + 1)) = numB ((rowNs k V).take i) ++ uv y.toNat := by
                rw [List.take_succ_eq_append_getElem hil, numB_snoc, ← Option.some.inj (HX.out.symm.trans (List.getElem?_eq_getElem hil)), HY.out]
              have hB8 : B8 (tabB 0 (L.take k) ++ numB ((rowNs k V).take (i + 1))) = B8 (tabB 0 (L.take k) ++ numB ((rowNs k V).take i)) ++ B8 (uv y.toNat) := by
                rw [hsn, ← List.append_assoc, B8_append _ (uv y.toNat)]
              rw [← hB8] at ho9
              have hbq9 : bq + n8 = bn + (numB ((rowNs k V).take (i + 1))).length := by rw [hsn, List.length_append, HN8.out, hbq.out]; omega
              have HO9 := Lib.hid ho9
              have HT9 := Lib.hid hT9
              have HBQ9 := Lib.hid hbq9
              have HB9 := Lib.hid ((hb3.trans (hb8.mono hzz)).trans hb9)
              clear ho9 hT9 hbq9 hb9 hg9 hsn hB8 ho8 hb8 hr8
              go_wp2
              go_roundw
              case rel => exact ⟨i + 1, _, _, _, by omega, by go_num, rfl, HBQ9, HO9.out, HT9, HB9.out⟩
              case measure => simp [intOf]; omega
            · have hie : i = 5 + j + 1 := by omega
              have htk : (rowNs k V).take i = rowNs k V := List.take_of_length_le (by have := HRL.out; omega)
              have hLk : tabB 0 (L.take (k + 1)) = tabB 0 (L.take k) ++ numB (rowNs k V) := by
                rw [List.take_succ_eq_append_getElem hkl, ← Option.some.inj (HV.out.symm.trans (List.getElem?_eq_getElem hkl)), tabB_snoc]
                rw [show 0 + (L.take k).length = k by rw [List.length_take]; omega]
              have hbq2 : bq = (tabB 0 (L.take (k + 1))).length := by rw [hLk, List.length_append, hbq.out, htk, HBN.out]
              rw [htk, ← hLk] at ho3
              have HO3 := Lib.hid ho3
              have HB3 := Lib.hid hb3
              have HBQ := Lib.hid hbq2
              subst hie
              clear ho3 hb3 hbq2 hLk htk hbq
              go_wp2
              go_roundw
              case rel => exact ⟨k + 1, a3, c3, by omega, by go_num, by rw [HBQ.out], by rw [← HBQ.out]; exact HO3.out, HB3.out⟩
              case measure => simp [intOf]; omega
    · have hkN : k = N := by omega
      have hLk : L.take k = L := List.take_of_length_le (by have := HN.out; omega)
      rw [hLk] at ho ⊢
      obtain ⟨_, _, hv, hrd⟩ := Rd.ofOwn ho
      cases hv
      have HSM := Lib.hid (refSum_any wr sa sc (tabB 0 L) hrd)
      have HB := Lib.hid hb
      have hbz := hb.size
      subst hkN
      have hRc : R = crc (tabB 0 L) := HR.out
      have HRC := Lib.hid hRc
      clear ho hb hrd hLk hRc
      go_wp2_with fail
      refine HSM.out.mono ?_
      rintro e w3 ⟨rfl, hb3⟩
      have HB3 := Lib.hid (HB.out.trans (hb3.mono hbz))
      clear hb3
      go_wp2
      go_ret
      rw [HRC.out]
      exact ⟨rfl, HB3.out⟩
end Go.Proofs.Yteenbobblbehoaa

namespace Go.Proofs.Yteenbobblbehoaa
open Go Go.RowKit

/-- A step. -/
structure Stp where
  kd : Int
  nums : List Int
  raw : List UInt8
/-- Steps that read. -/
def RdS (w : World) (a : Option Addr) (c : Nat) (S : List Stp) : Prop := S.length ≤ c ∧ c ≤ maxLen ∧
  ∀ i s, S[i]? = some s → ∃ b o an cn ar cr, a = some ⟨b, o, none⟩ ∧ b < w.heap.size ∧ w.cell? ⟨b, o + i * 3, none⟩ = some (.int .i64 s.kd) ∧ w.cell? ⟨b, o + i * 3 + 1, none⟩ = some (.slice an s.nums.length cn) ∧ w.cell? ⟨b, o + i * 3 + 2, none⟩ = some (.slice ar s.raw.length cr) ∧
    Rd w an cn (BI s.nums) ∧ (∀ n ∈ s.nums, -9223372036854775808 ≤ n ∧ n ≤ 9223372036854775807) ∧ Rd w ar cr (B8 s.raw)
theorem RdS.kept {w w' : World} {a : Option Addr} {c : Nat} {S : List Stp} (h : RdS w a c S) (hb : Below w.heap.size w w') : RdS w' a c S := by
  refine ⟨h.1, h.2.1, fun i s hs => ?_⟩
  obtain ⟨b, o, an, cn, ar, cr, h1, h2, h3, h4, h5, h6, h7, h8⟩ := h.2.2 i s hs
  exact ⟨b, o, an, cn, ar, cr, h1, by have := hb.size; omega, (hb.cell h2).trans h3, (hb.cell h2).trans h4, (hb.cell h2).trans h5, h6.kept hb, h7, h8.kept hb⟩

def HvP (w : World) (e : Ending) (w' : World) : Prop := ∃ hv, e = .returned (.bool hv) ∧ Qt w w'
set_option maxRecDepth 100000 in
set_option maxHeartbeats 4000000 in
theorem heavy_any (w : World) (a : Option Addr) (c : Nat) (S : List Stp) (hr : RdS w a c S) :
    Calls Try.prog 8 #[.slice a S.length c] w (HvP w) := by
  have hle : S.length ≤ 9223372036854775807 := by have := hr.1; have := hr.2.1; unfold maxLen at this; omega
  obtain ⟨N, hN⟩ : ∃ N, N = S.length := ⟨_, rfl⟩
  rw [← hN] at hle ⊢
  have HR := Lib.hid hr
  have HN := Lib.hid hN
  clear hr hN
  go_enter Try.func8, Try.ntmps8
  go_wp2
  go_loopw [3, 4] (fun s3 s4 wr => ∃ (k q : Nat) (n : Int), k ≤ N ∧ s4 = .int .i64 k ∧ s3 = .int .i64 n ∧ wr = w.drewN q) (fun _ s4 _ => N - (intOf s4).toNat)
  case atStart => exact ⟨0, 0, 0, by omega, rfl, rfl, rfl⟩
  case round =>
    obtain ⟨k, q, n, hk, rfl, rfl, rfl⟩ := hrel
    by_cases hlt : k < N
    · have hkl : k < S.length := by have := HN.out; omega
      have hki : (k : Int) < (N : Int) := by omega
      by_cases h150 : k < 150
      · have h15i : (k : Int) < 150 := by omega
        obtain ⟨b, o, an, cn, ar, cr, rfl, h2, h3, h4, h5, _, _, _⟩ := HR.out.2.2 k S[k] (List.getElem?_eq_getElem hkl)
        obtain ⟨m1, hm1⟩ : ∃ m1, m1 = S[k].nums.length := ⟨_, rfl⟩
        obtain ⟨m2, hm2⟩ : ∃ m2, m2 = S[k].raw.length := ⟨_, rfl⟩
        rw [← hm1] at h4
        rw [← hm2] at h5
        clear hm1 hm2
        go_wp2
        go_quiet (fail)
        go_wp2
        · go_ret
          exact ⟨_, rfl, _, rfl⟩
        · exact ⟨⟨k + 1, _, _, by omega, by go_num, rfl, rfl⟩, by simp [intOf]; omega⟩
      · have h15i : ¬ (k : Int) < 150 := by omega
        go_wp2
        go_ret
        exact ⟨_, rfl, _, rfl⟩
    · have hki : ¬ (k : Int) < (N : Int) := by omega
      go_wp2
      go_ret
      exact ⟨_, rfl, _, rfl⟩
end Go.Proofs.Yteenbobblbehoaa

namespace Go.Proofs.Yteenbobblbehoaa
open Go Go.RowKit

/-- What a volume shows. -/
def shown (V : Vl) : Int × Int × List Int × Bool := (V.st, V.ep, V.nodes, V.fr)
theorem ints_quiet (w : World) (n : Nat) (a1 a2 : Option Addr) (c1 c2 : Nat) (l : List Int) (h1 : Rd w a1 c1 (BI l)) (h2 : Rd w a2 c2 (BI l)) :
    Calls Try.prog 15 #[.slice a1 l.length c1, .slice a2 l.length c2] (w.drewN n) fun e w' => e = .returned (.bool true) ∧ ∃ m, w' = w.drewN m := by
  refine (ints_any (w.drewN n) a1 a2 c1 c2 l l (h1.drewN n) (h2.drewN n)).mono ?_
  rintro e w' ⟨rfl, m, rfl⟩
  refine ⟨by rw [decide_eq_true rfl], ?_⟩
  exact Qt.drew ⟨n, rfl⟩ m
/-- Volumes that read. -/
def VlsR (w : World) (a : Option Addr) (c i0 : Nat) (L : List Vl) : Prop := L.length ≤ c ∧ c ≤ maxLen ∧
  ∀ i V, L[i]? = some V → ∃ b o an cn, a = some ⟨b, o, none⟩ ∧ (∀ j, j < 6 → w.cell? ⟨b, o + i * 6 + j, none⟩ = (volC (i0 + i) V an V.nodes.length cn)[j]?) ∧ Rd w an cn (BI V.nodes)
theorem VlsR.kept {w w' : World} {a : Option Addr} {c i0 : Nat} {L : List Vl} (h : VlsR w a c i0 L) (hb : Below w.heap.size w w') : VlsR w' a c i0 L := by
  refine ⟨h.1, h.2.1, fun i V hV => ?_⟩
  obtain ⟨b, o, an, cn, h1, h4, h5⟩ := h.2.2 i V hV
  refine ⟨b, o, an, cn, h1, fun j hj => ?_, h5.kept hb⟩
  have hc := h4 j hj
  have hbl : b < w.heap.size := by
    by_cases hb' : b < w.heap.size
    · exact hb'
    · unfold World.cell? at hc
      rw [Array.getElem?_eq_none (by simpa using hb'), Array.getElem?_eq_getElem (by simpa using hj)] at hc
      simp at hc
  exact (hb.cell (p := ⟨b, o + i * 6 + j, Option.none⟩) hbl).trans hc
theorem VlsB.reads {w : World} {F : Nat → Prop} {a : Option Addr} {c i0 : Nat} {L : List Vl} (h : VlsB w F a c i0 L) : VlsR w a c i0 L := by
  refine ⟨h.1, h.2.1, fun i V hV => ?_⟩
  obtain ⟨b, o, an, cn, h1, _, _, h4, h5⟩ := h.2.2 i V hV
  exact ⟨b, o, an, cn, h1, h4, h5.1⟩

set_option maxRecDepth 100000 in
set_option maxHeartbeats 4000000 in
theorem volsEq_any (w : World) (a1 a2 : Option Addr) (c1 c2 i0 : Nat) (L1 L2 : List Vl) (h1 : VlsR w a1 c1 i0 L1) (h2 : VlsR w a2 c2 i0 L2) (hs : L1.map shown = L2.map shown) (n : Nat) (hn : n = L1.length) :
    Calls Try.prog 16 #[.slice a1 n c1, .slice a2 n c2] w fun e w' => e = .returned (.bool true) ∧ Qt w w' := by
  have hlen : L1.length = L2.length := by have := congrArg List.length hs; simpa using this
  have hle : n ≤ 9223372036854775807 := by have := h1.1; have := h1.2.1; unfold maxLen at this; omega
  have hpair : ∀ k, k < n → ∃ V1 V2, L1[k]? = some V1 ∧ L2[k]? = some V2 ∧ V1.st = V2.st ∧ V1.ep = V2.ep ∧ V1.nodes = V2.nodes ∧ V1.fr = V2.fr := by
    intro k hk
    have e1 : L1[k]? = some L1[k] := List.getElem?_eq_getElem (by omega)
    have e2 : L2[k]? = some L2[k] := List.getElem?_eq_getElem (by omega)
    have h := congrArg (·[k]?) hs
    simp only [List.getElem?_map, e1, e2, Option.map_some, Option.some.injEq, shown, Prod.mk.injEq] at h
    exact ⟨_, _, e1, e2, h.1, h.2.1, h.2.2.1, h.2.2.2⟩
  have HP := Lib.hid hpair
  have H1 := Lib.hid h1
  have H2 := Lib.hid h2
  clear hlen hpair h1 h2 hs hn
  go_enter Try.func16, Try.ntmps16
  go_wp2
  go_loopw [5] (fun s5 wr => ∃ (k : Nat), k ≤ n ∧ s5 = .int .i64 k ∧ Hid (Qt w wr)) (fun s5 _ => n - (intOf s5).toNat)
  case atStart => exact ⟨0, by omega, rfl, Qt.refl _⟩
  case round =>
    obtain ⟨k, hk, rfl, hq⟩ := hrel
    by_cases hlt : k < n
    · have hki : (k : Int) < (n : Int) := by omega
      obtain ⟨V1, V2, e1, e2, s1, s2, s3, s4⟩ := HP.out k hlt
      obtain ⟨b, o, an, cn, rfl, g1, g2⟩ := (H1.out.kept (hq.out.below _)).2.2 k V1 e1
      obtain ⟨b', o', an', cn', rfl, g1', g2'⟩ := (H2.out.kept (hq.out.below _)).2.2 k V2 e2
      unfold volC at g1 g1'
      rw [← s1, ← s2, ← s3, ← s4] at g1'
      rw [← s3] at g2'
      have HIN := Lib.hid (fun n => ints_quiet wr n an an' cn cn' V1.nodes g2 g2')
      obtain ⟨S, hS⟩ : ∃ S, S = V1.st := ⟨_, rfl⟩
      obtain ⟨E, hE⟩ : ∃ E, E = V1.ep := ⟨_, rfl⟩
      obtain ⟨f, hf⟩ : ∃ f, f = V1.fr := ⟨_, rfl⟩
      obtain ⟨m, hm⟩ : ∃ m, m = V1.nodes.length := ⟨_, rfl⟩
      rw [← hm] at HIN g1 g1'
      have d0 := g1 0 (by omega)
      have d1 := g1 1 (by omega)
      have d2 := g1 2 (by omega)
      have d3 := g1 3 (by omega)
      have d4 := g1 4 (by omega)
      have d5 := g1 5 (by omega)
      have x0 := g1' 0 (by omega)
      have x1 := g1' 1 (by omega)
      have x2 := g1' 2 (by omega)
      have x3 := g1' 3 (by omega)
      have x4 := g1' 4 (by omega)
      have x5 := g1' 5 (by omega)
      simp only [← hS, ← hE, ← hf, List.getElem?_toArray, List.getElem?_cons_succ, List.getElem?_cons_zero, Nat.add_zero] at d0 d1 d2 d3 d4 d5 x0 x1 x2 x3 x4 x5
      obtain ⟨I, hI⟩ : ∃ I : Int, I = ((i0 + k : Nat) : Int) + 1 := ⟨_, rfl⟩
      rw [← hI] at d0 x0
      have z0 : (I != I) = false := by simp
      have z1 : (S != S) = false := by simp
      have z2 : (E != E) = false := by simp
      have z4 : (f != f) = false := by simp
      clear g1 g1' g2 g2' s1 s2 s3 s4 hS hE hf hm e1 e2 hI
      go_wp2
      go_quiet ((go_at_call 15; exact HIN.out _))
      go_wp2
      go_roundw
      case rel => exact ⟨k + 1, by omega, by go_num, Qt.drew hq.out _⟩
      case measure => simp [intOf]; omega
    · go_wp2
      go_ret
      exact ⟨rfl, hq.out⟩
end Go.Proofs.Yteenbobblbehoaa

namespace Go.Proofs.Yteenbobblbehoaa
open Go Go.RowKit

theorem diffF_rng : ∀ (l : List Int) (m : UInt64), diffF l m = true → ∀ n ∈ l, -1 ≤ n ∧ n < 64
  | [], _, _, n, hn => by simp at hn
  | x :: l, m, h, n, hn => by
    unfold diffF at h
    by_cases h1 : x < -1
    · rw [if_pos h1] at h; cases h
    · rw [if_neg h1] at h
      by_cases h2 : 64 ≤ x
      · rw [if_pos h2] at h; cases h
      · rw [if_neg h2] at h
        rcases List.mem_cons.1 hn with rfl | hn
        · omega
        · by_cases h3 : x = -1
          · rw [if_pos h3] at h; exact diffF_rng l m h n hn
          · rw [if_neg h3] at h
            split at h
            · cases h
            · exact diffF_rng l _ h n hn
theorem okL_set {L : List Vl} {id : Int} {V : Vl} (h : OkL L) (hV : OkV V) : OkL (setL L id V) := by
  intro U hU
  unfold setL at hU
  rcases List.mem_or_eq_of_mem_set hU with h1 | rfl
  · exact h U h1
  · exact hV
theorem opL_ok {L : List Vl} {kd : Int} {l : List Int} (h : OkL L) (hL : L.length ≤ 4096) (hl : l.length ≤ 64) : OkL (opL L kd l).2 ∧ (opL L kd l).2.length ≤ 4096 := by
  unfold opL
  split
  · exact ⟨h, hL⟩
  split
  · unfold growL
    split
    · exact ⟨h, hL⟩
    · rename_i hd
      split
      · exact ⟨h, hL⟩
      · refine ⟨fun V hV => ?_, by simp; omega⟩
        rcases List.mem_append.1 hV with hV | hV
        · exact h V hV
        · simp only [List.mem_singleton] at hV
          subst hV
          refine ⟨by simp, by simp, by simp, by simp, by simp, by simp, hl, diffF_rng l 0 ?_⟩
          cases hq : diffF l 0
          · exact absurd (.inl hq) hd
          · rfl
  split
  · unfold assignL
    split
    · exact ⟨h, hL⟩
    · rename_i V hV
      obtain ⟨i, _, hVi, _⟩ := ofL_some hV
      have ho := h V (List.mem_of_getElem? hVi)
      unfold OkV at ho
      split
      · exact ⟨h, hL⟩
      split
      · exact ⟨h, hL⟩
      split
      · exact ⟨h, hL⟩
      · refine ⟨okL_set h ⟨ho.1, ho.2.1, ho.2.2.1, ho.2.2.2.1, ?_, ?_, ho.2.2.2.2.2.2.1, ho.2.2.2.2.2.2.2⟩, by unfold setL; rw [List.length_set]; exact hL⟩
        · show 1 ≤ V.key + 1; omega
        · show V.key + 1 ≤ _; omega
  split
  · exact ⟨h, hL⟩
  · unfold changeL
    split
    · exact ⟨h, hL⟩
    · rename_i V hV
      obtain ⟨i, _, hVi, _⟩ := ofL_some hV
      have ho := h V (List.mem_of_getElem? hVi)
      unfold OkV at ho
      split
      · exact ⟨h, hL⟩
      split
      · exact ⟨h, hL⟩
      split
      · exact ⟨h, hL⟩
      rename_i hg
      split
      · exact ⟨h, hL⟩
      · have h1 : ¬ l.getD 2 0 < V.st := fun e => hg (.inl e)
        have h2 : ¬ 2 < l.getD 2 0 := fun e => hg (.inr (.inl e))
        refine ⟨okL_set h ⟨?_, ?_, ?_, ?_, ho.2.2.2.2.1, ho.2.2.2.2.2.1, ?_, diffF_rng _ 0 ?_⟩, by unfold setL; rw [List.length_set]; exact hL⟩
        · show 0 ≤ l.getD 2 0; omega
        · show l.getD 2 0 ≤ 2; omega
        · show 1 ≤ V.ep + 1; omega
        · show V.ep + 1 ≤ _; omega
        · show (l.drop 3).length ≤ 64; rw [List.length_drop]; omega
        · cases hq : diffF (l.drop 3) 0
          · exact absurd (.inr (.inr (.inl hq))) hg
          · rfl
theorem doL_ok {L : List Vl} {kd : Int} {l : List Int} (h : OkL L) (hL : L.length ≤ 4096) : OkL (doL L kd l).2 ∧ (doL L kd l).2.length ≤ 4096 := by
  unfold doL
  split
  · exact ⟨h, hL⟩
  split
  · exact ⟨h, hL⟩
  split
  · exact opL_ok h hL (by omega)
  · exact ⟨h, hL⟩

/-- Two tables. -/
structure Tw (w W : World) (F G : Nat → Prop) (t s : Nat) (L M : List Vl) : Prop where
  one : St w W F t L
  two : St w W G s M
  apart : ∀ k, F k → ¬ G k
theorem Tw.symm {w W : World} {F G : Nat → Prop} {t s : Nat} {L M : List Vl} (h : Tw w W F G t s L M) : Tw w W G F s t M L := ⟨h.two, h.one, fun k hg hf => h.apart k hf hg⟩
theorem Tw.kept {w W W' : World} {F G : Nat → Prop} {t s : Nat} {L M : List Vl} (h : Tw w W F G t s L M) (hb : Below W.heap.size W W') : Tw w W' F G t s L M := ⟨h.one.kept hb, h.two.kept hb, h.apart⟩
theorem Tw.next {w W w' : World} {F G : Nat → Prop} {t s : Nat} {L M : List Vl} {X : (List Int × Nat) × List Vl} {e : Ending} (hs : Tw w W F G t s L M) (h : AnsP W F t X e w') :
    ∃ a c F', e = .returned (.tuple #[.slice a X.1.1.length c, .int .i64 (X.1.2 : Int)]) ∧ Beside w' (fun k => F' k ∨ G k) a c (BI X.1.1) ∧ Tw w w' F' G t s X.2 M ∧ (∀ k, F' k → F k ∨ W.heap.size ≤ k) ∧ Off F W w' := by
  have hof : Off F W w' := by obtain ⟨_, _, _, _, _, h⟩ := h; exact h
  have hG : ∀ k, G k → k < w'.heap.size := fun k hk => by have := hs.two.lt k hk; have := hof.size; omega
  obtain ⟨a, c, F', rfl, h1, h2, h3, h4⟩ := St.next hs.one h
  obtain ⟨a', c', he, hown, _⟩ := h
  simp only [Ending.returned.injEq, Value.tuple.injEq, Array.mk.injEq, List.cons.injEq, Value.slice.injEq, true_and, and_true] at he
  obtain ⟨rfl, rfl⟩ := he
  have hnew : ∀ b o, a = some ⟨b, o, none⟩ → W.heap.size ≤ b := by
    intro b o e
    subst e
    rcases hown.2 with ⟨e, _⟩ | ⟨g, cap, cur, hv, hb, _⟩
    · simp at e
    · simp only [Value.slice.injEq, Option.some.injEq, Addr.mk.injEq] at hv
      omega
  refine ⟨a, c, F', rfl, ⟨h1.1, fun b o hx ha => ⟨fun hf => hf.elim (h1.2 b o hx ha).1 fun hg => by have := hs.two.lt b hg; have := hnew b o ha; omega, (h1.2 b o hx ha).2⟩⟩, ⟨h2, ?_, ?_⟩, h3, h4⟩
  · exact ⟨hs.two.tab.off h4 fun k hg hf => hs.apart k hf hg, hG, hs.two.new, h2.bel⟩
  · intro k hf hg
    rcases h3 k hf with h | h
    · exact hs.apart k h hg
    · have := hs.two.lt k hg; omega
end Go.Proofs.Yteenbobblbehoaa

namespace Go.Proofs.Yteenbobblbehoaa
open Go Go.RowKit

/-- What heavy tells: if not, each step that is played is small. -/
def HvZ (w : World) (S : List Stp) (e : Ending) (w' : World) : Prop := ∃ hv, e = .returned (.bool hv) ∧ Qt w w' ∧ (hv = false → ∀ i s, i < 150 → S[i]? = some s → s.nums.length ≤ 4000 ∧ s.raw.length ≤ 4000)
set_option maxRecDepth 100000 in
set_option maxHeartbeats 4000000 in
theorem heavyZ_any (w : World) (a : Option Addr) (c : Nat) (S : List Stp) (hr : RdS w a c S) (hZ : ∀ s ∈ S, s.nums.length ≤ 140737488351232 ∧ s.raw.length ≤ 140737488351232) :
    Calls Try.prog 8 #[.slice a S.length c] w (HvZ w S) := by
  have hle : S.length ≤ 9223372036854775807 := by have := hr.1; have := hr.2.1; unfold maxLen at this; omega
  obtain ⟨N, hN⟩ : ∃ N, N = S.length := ⟨_, rfl⟩
  rw [← hN] at hle ⊢
  have HR := Lib.hid hr
  have HN := Lib.hid hN
  have HZ := Lib.hid hZ
  clear hr hN hZ
  go_enter Try.func8, Try.ntmps8
  go_wp2
  go_loopw [3, 4] (fun s3 s4 wr => ∃ (k n : Nat), k ≤ N ∧ k ≤ 150 ∧ n ≤ 4000 ∧ s4 = .int .i64 k ∧ s3 = .int .i64 n ∧ Hid (Qt w wr) ∧ Hid (∀ i s, i < k → S[i]? = some s → s.nums.length ≤ 4000 ∧ s.raw.length ≤ 4000)) (fun _ s4 _ => N - (intOf s4).toNat)
  case atStart => exact ⟨0, 0, by omega, by omega, by omega, rfl, rfl, Qt.refl _, (fun i s h => by omega)⟩
  case round =>
    obtain ⟨k, n, hk, hk2, hn, rfl, rfl, hq, hB⟩ := hrel
    by_cases hlt : k < N
    · have hkl : k < S.length := by have := HN.out; omega
      have hki : (k : Int) < (N : Int) := by omega
      by_cases h150 : k < 150
      · have h15i : (k : Int) < 150 := by omega
        obtain ⟨b, o, an, cn, ar, cr, rfl, h2, h3, h4, h5, _, _, _⟩ := HR.out.2.2 k S[k] (List.getElem?_eq_getElem hkl)
        have hz := HZ.out S[k] (List.getElem_mem _)
        obtain ⟨m1, hm1⟩ : ∃ m1, m1 = S[k].nums.length := ⟨_, rfl⟩
        obtain ⟨m2, hm2⟩ : ∃ m2, m2 = S[k].raw.length := ⟨_, rfl⟩
        have hqb := hq.out.below w.heap.size
        have y4 := (hqb.cell (p := ⟨b, o + k * 3 + 1, none⟩) h2).trans h4
        have y5 := (hqb.cell (p := ⟨b, o + k * 3 + 2, none⟩) h2).trans h5
        rw [← hm1] at y4
        rw [← hm2] at y5
        rw [← hm1, ← hm2] at hz
        have hz1 := hz.1
        have hz2 := hz.2
        have HM1 := Lib.hid hm1
        have HM2 := Lib.hid hm2
        clear hm1 hm2 h3 h4 h5 hqb hz
        have hw1 : IntKind.i64.wrap ((n : Int) + (m1 : Int)) = (n : Int) + (m1 : Int) := IntWalk.i64_in _ (by omega)
        have hw2 : IntKind.i64.wrap ((n : Int) + (m1 : Int) + (m2 : Int)) = (n : Int) + (m1 : Int) + (m2 : Int) := IntWalk.i64_in _ (by omega)
        by_cases hm : n + m1 + m2 ≤ 4000
        · have hmi : ¬ (4000 : Int) < (n : Int) + (m1 : Int) + (m2 : Int) := by omega
          have hB2 : ∀ i s, i < k + 1 → S[i]? = some s → s.nums.length ≤ 4000 ∧ s.raw.length ≤ 4000 := by
            intro i s hi hs
            by_cases hik : i < k
            · exact hB.out i s hik hs
            · obtain rfl : i = k := by omega
              rw [List.getElem?_eq_getElem hkl] at hs
              cases hs
              rw [← HM1.out, ← HM2.out]
              omega
          have HB2 := Lib.hid hB2
          clear hB2
          go_wp2
          go_quiet (fail)
          have hmi2 : ¬ (4000 : Int) < (n : Int) + (m1 : Int) + (m2 : Int) := by omega
          go_wp2
          go_roundw
          case rel => exact ⟨k + 1, n + m1 + m2, by omega, by omega, by omega, by go_num, by go_num, Qt.drew hq.out _, HB2⟩
          case measure => simp [intOf]; omega
        · have hmi : (4000 : Int) < (n : Int) + (m1 : Int) + (m2 : Int) := by omega
          go_wp2
          go_quiet (fail)
          have hmi2 : (4000 : Int) < (n : Int) + (m1 : Int) + (m2 : Int) := by omega
          go_wp2
          go_ret
          exact ⟨true, rfl, Qt.drew hq.out _, fun h => by cases h⟩
      · have h15i : ¬ (k : Int) < 150 := by omega
        have HK := Lib.hid (show k = 150 by omega)
        go_wp2
        go_ret
        exact ⟨false, rfl, hq.out, fun _ i s hi hs => hB.out i s (by have := HK.out; omega) hs⟩
    · have hki : ¬ (k : Int) < (N : Int) := by omega
      have HKN := Lib.hid (show k = N by omega)
      go_wp2
      go_ret
      exact ⟨false, rfl, hq.out, fun _ i s hi hs => hB.out i s (by have := (List.getElem?_eq_some_iff.1 hs).1; have := HN.out; have := HKN.out; omega) hs⟩
end Go.Proofs.Yteenbobblbehoaa

namespace Go.Proofs.Yteenbobblbehoaa
open Go Go.RowKit

/-- The program's table with blocks of Fn, the document's with blocks of Fw, drafts in D; nothing below w's end turned. -/
structure Tabs (w wr : World) (Fn Fw D : Nat → Prop) (t g : Nat) (Ln Lw : List Vl) : Prop where
  n : TabI wr Fn t Ln
  nl : ∀ x, Fn x → x < wr.heap.size
  r : RefT wr Fw g Lw
  ap : ∀ x, Fn x → ¬ Fw x
  dn : ∀ x, D x → ¬ Fn x
  dw : ∀ x, D x → ¬ Fw x
  dl : ∀ x, D x → x < wr.heap.size
  hn : ∀ x, Fn x → w.heap.size ≤ x
  hw : ∀ x, Fw x → w.heap.size ≤ x
  hd : ∀ x, D x → w.heap.size ≤ x
  bel : Below w.heap.size w wr
theorem Tabs.kept {w wr w' : World} {Fn Fw D : Nat → Prop} {t g : Nat} {Ln Lw : List Vl} (h : Tabs w wr Fn Fw D t g Ln Lw) (hb : Below wr.heap.size wr w') : Tabs w w' Fn Fw (grew D wr w') t g Ln Lw where
  n := h.n.kept hb
  nl := fun x hx => by have := h.nl x hx; have := hb.size; omega
  r := h.r.kept hb
  ap := h.ap
  dn := fun x hx hf => hx.elim (fun k => h.dn x k hf) fun k => by have := h.nl x hf; omega
  dw := fun x hx hf => hx.elim (fun k => h.dw x k hf) fun k => by have := h.r.lt x hf; omega
  dl := fun x hx => hx.elim (fun k => by have := h.dl x k; have := hb.size; omega) (·.2)
  hn := h.hn
  hw := h.hw
  hd := fun x hx => hx.elim (h.hd x) fun k => by have := h.bel.size; omega
  bel := h.bel.trans (hb.mono h.bel.size)
theorem Tabs.opN {w wr w' : World} {Fn Fw D : Nat → Prop} {t g : Nat} {Ln Lw L' : List Vl} {a : Option Addr} (h : Tabs w wr Fn Fw D t g Ln Lw) (hN : TabI w' (NewF Fn wr a) t L') (ho : Off Fn wr w') :
    Tabs w w' (fun k => NewF Fn wr a k ∧ k < w'.heap.size) Fw (fun k => D k ∨ (wr.heap.size ≤ k ∧ k < w'.heap.size ∧ ∃ o, a = some ⟨k, o, none⟩)) t g L' Lw where
  n := hN.mono fun k h hk => ⟨h, hk⟩
  nl := fun x hx => hx.2
  r := h.r.off ho fun x hx hf => h.ap x hf hx
  ap := fun x hx hf => hx.1.elim (fun k => h.ap x k hf) fun k => by have := h.r.lt x hf; have := k.1; omega
  dn := fun x hx hf => hx.elim (fun k => hf.1.elim (h.dn x k) fun k2 => by have := h.dl x k; have := k2.1; omega) fun k => hf.1.elim (fun k2 => by have := h.nl x k2; have := k.1; omega) fun k2 => by
    obtain ⟨o, ho⟩ := k.2.2
    exact k2.2 o ho
  dw := fun x hx hf => hx.elim (fun k => h.dw x k hf) fun k => by have := h.r.lt x hf; omega
  dl := fun x hx => hx.elim (fun k => by have := h.dl x k; have := ho.size; omega) (·.2.1)
  hn := fun x hx => hx.1.elim (h.hn x) fun k => by have := h.bel.size; have := k.1; omega
  hw := h.hw
  hd := fun x hx => hx.elim (h.hd x) fun k => by have := h.bel.size; omega
  bel := h.bel.trans (ho.toBelow h.bel.size h.hn)
theorem Tabs.opW {w wr w' : World} {Fn Fw D : Nat → Prop} {t g : Nat} {Ln Lw L' : List Vl} (h : Tabs w wr Fn Fw D t g Ln Lw) (hN : RefT w' (grew Fw wr w') g L') (ho : Off Fw wr w') : Tabs w w' Fn (grew Fw wr w') D t g Ln L' where
  n := h.n.off ho fun x hx hf => h.ap x hx hf
  nl := fun x hx => by have := h.nl x hx; have := ho.size; omega
  r := hN
  ap := fun x hx hf => hf.elim (h.ap x hx) fun k => by have := h.nl x hx; omega
  dn := h.dn
  dw := fun x hx hf => hf.elim (h.dw x hx) fun k => by have := h.dl x hx; omega
  dl := fun x hx => by have := h.dl x hx; have := ho.size; omega
  hn := h.hn
  hw := fun x hx => hx.elim (h.hw x) fun k => by have := h.bel.size; omega
  hd := h.hd
  bel := h.bel.trans (ho.toBelow h.bel.size h.hw)
theorem Tabs.offD {w wr w' : World} {Fn Fw D G : Nat → Prop} {t g : Nat} {Ln Lw : List Vl} (h : Tabs w wr Fn Fw D t g Ln Lw) (ho : Off G wr w') (hG : ∀ x, G x → D x) : Tabs w w' Fn Fw D t g Ln Lw where
  n := h.n.off ho fun x hx hf => h.dn x (hG x hf) hx
  nl := fun x hx => by have := h.nl x hx; have := ho.size; omega
  r := h.r.off ho fun x hx hf => h.dw x (hG x hf) hx
  ap := h.ap
  dn := h.dn
  dw := h.dw
  dl := fun x hx => by have := h.dl x hx; have := ho.size; omega
  hn := h.hn
  hw := h.hw
  hd := h.hd
  bel := h.bel.trans (ho.toBelow h.bel.size fun x hx => h.hd x (hG x hx))
theorem Tabs.forget {w wr : World} {Fn Fw D : Nat → Prop} {t g : Nat} {Ln Lw : List Vl} (h : Tabs w wr Fn Fw D t g Ln Lw) : Tabs w wr Fn Fw (fun _ => False) t g Ln Lw :=
  ⟨h.n, h.nl, h.r, h.ap, fun _ h => h.elim, fun _ h => h.elim, fun _ h => h.elim, h.hn, h.hw, fun _ h => h.elim, h.bel⟩
theorem Tabs.still {w wr w' : World} {Fn Fw D : Nat → Prop} {t g : Nat} {Ln Lw : List Vl} (h : Tabs w wr Fn Fw D t g Ln Lw) (hb : Below wr.heap.size wr w') : Tabs w w' Fn Fw D t g Ln Lw := h.offD (G := fun _ => False) (Off.ofBelow hb) fun _ h => h.elim
/-- Tables as the law holds them. -/
def OkA (L : List Vl) : Prop := OkL L ∧ OkD L ∧ L.length ≤ 4096
end Go.Proofs.Yteenbobblbehoaa

namespace Go.Proofs.Yteenbobblbehoaa
open Go Go.RowKit

theorem dist_set {L : List Vl} (h : ∀ V ∈ L, Dist V.nodes) {id : Int} {V : Vl} (hV : Dist V.nodes) : ∀ U ∈ setL L id V, Dist U.nodes := by
  intro U hU
  unfold setL at hU
  rcases List.mem_or_eq_of_mem_set hU with h1 | h1
  · exact h U h1
  · rw [h1]; exact hV
theorem opL_dist {L : List Vl} (h : ∀ V ∈ L, Dist V.nodes) (kd : Int) (l : List Int) : ∀ V ∈ (opL L kd l).2, Dist V.nodes := by
  unfold opL
  split
  · exact h
  split
  · unfold growL
    split
    · exact h
    · rename_i hg
      split
      · exact h
      · intro V hV
        rcases List.mem_append.1 hV with h1 | h1
        · exact h V h1
        · rw [List.mem_singleton.1 h1]
          refine diffF_dist ?_
          cases hq : diffF l 0
          · exact absurd (.inl hq) hg
          · rfl
  split
  · unfold assignL
    split
    · exact h
    · rename_i V hof
      obtain ⟨i, _, hV, _⟩ := ofL_some hof
      split
      · exact h
      split
      · exact h
      split
      · exact h
      · exact dist_set h (h V (List.mem_of_getElem? hV))
  split
  · exact h
  · unfold changeL
    split
    · exact h
    · split
      · exact h
      split
      · exact h
      split
      · exact h
      · rename_i hg
        split
        · exact h
        · refine dist_set h (diffF_dist ?_)
          cases hq : diffF (l.drop 3) 0
          · exact absurd (.inr (.inr (.inl hq))) hg
          · rfl
theorem applyL_ok {L : List Vl} (h : OkA L) (b : List UInt8) : OkA (applyL L b).2 := by
  obtain ⟨h1, h2, h3⟩ := h
  unfold applyL
  split
  · exact ⟨h1, h2, h3⟩
  · rename_i hb
    obtain ⟨⟨⟨fr, tt, kd, nums, data⟩, N, E⟩, hD⟩ : ∃ D, D = wDec b := ⟨_, rfl⟩
    rw [← hD] at hb ⊢
    have hE : E = 0 := by
      by_cases e : E = 0
      · exact e
      · exact absurd (.inl e) hb
    subst hE
    have hl := wDec_len hD.symm
    obtain ⟨k1, k2⟩ := opL_ok (kd := kd) (l := nums) h1 h3 hl
    refine ⟨k1, fun V hV => ⟨?_, opL_dist (fun V hV => (h2 V hV).2) kd nums V hV⟩, k2⟩
    have := k1 V hV
    unfold OkV at this
    exact this.1
end Go.Proofs.Yteenbobblbehoaa
