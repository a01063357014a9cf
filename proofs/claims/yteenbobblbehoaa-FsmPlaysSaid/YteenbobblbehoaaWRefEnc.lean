/- The document's Encode of a message: the contracts. Conditions: each contract's own premises. -/
import Derived.Test.YteenbobblbehoaaWEnc
namespace Go.Proofs.Yteenbobblbehoaa
open Go Go.RowKit

/-- What body gives. -/
def RBP (w : World) (X : List UInt8) (e : Ending) (w' : World) : Prop := ∃ r, e = .returned r ∧ w'.ownsRow w.heap.size 5 1 r X.length (B8 X) ∧ Below w.heap.size w w'

set_option maxRecDepth 100000 in
set_option maxHeartbeats 8000000 in
theorem refBody_any (v0 v1 v2 : UInt64) (h0 : v0.toNat ≤ 2147483647) (h1 : v1.toNat ≤ 2147483647) (h2 : v2.toNat ≤ 2147483647) (an : Option Addr) (cn : Nat) (nums : List Int) (ad : Option Addr) (cd : Nat) (data : List UInt8) (w : World)
    (hrn : Rd w an cn (BI nums)) (hbn : ∀ n ∈ nums, -9223372036854775808 ≤ n ∧ n ≤ 9223372036854775807) (hnn : nums.length ≤ 64) (hrd : Rd w ad cd (B8 data)) (hdl : data.length ≤ 1047552) :
    Calls Try.prog 74 #[msgV v0.toNat v1.toNat v2.toNat an nums.length cn ad data.length cd] w (RBP w (bodyL v0.toNat v1.toNat v2.toNat nums data)) := by
  unfold msgV
  have hw0 : IntKind.u64.wrap (v0.toNat : Int) = (v0.toNat : Int) := IntWalk.u64_in _ (by have := u64_lt v0; omega)
  have hw1 : IntKind.u64.wrap (v1.toNat : Int) = (v1.toNat : Int) := IntWalk.u64_in _ (by have := u64_lt v1; omega)
  have hw2 : IntKind.u64.wrap (v2.toNat : Int) = (v2.toNat : Int) := IntWalk.u64_in _ (by have := u64_lt v2; omega)
  obtain ⟨vn, hvn⟩ : ∃ v : UInt64, v.toNat = nums.length := ⟨UInt64.ofNat nums.length, by rw [UInt64.toNat_ofNat', Nat.mod_eq_of_lt (by omega)]⟩
  obtain ⟨vd, hvd⟩ : ∃ v : UInt64, v.toNat = data.length := ⟨UInt64.ofNat data.length, by rw [UInt64.toNat_ofNat', Nat.mod_eq_of_lt (by omega)]⟩
  have hwn : IntKind.u64.wrap (nums.length : Int) = (vn.toNat : Int) := by rw [hvn]; exact IntWalk.u64_in _ (by omega)
  have hwd : IntKind.u64.wrap (data.length : Int) = (vd.toNat : Int) := by rw [hvd]; exact IntWalk.u64_in _ (by omega)
  have hnni : (nums.length : Int) ≤ 64 := by omega
  have hdli : (data.length : Int) ≤ 1047552 := by omega
  have HVN := Lib.hid hvn
  have HVD := Lib.hid hvd
  have HBN := Lib.hid hbn
  clear hvn hvd hbn h0 h1 h2
  go_enter Try.func74, Try.ntmps74
  go_wp2_with fail
  obtain ⟨G, hG⟩ : ∃ G, G = w.heap.size := ⟨_, rfl⟩
  obtain ⟨W0, hW0⟩ : ∃ W0, W0 = w.alloc (.cells #[Value.int .i64 (v0.toNat : Int), .int .i64 (v1.toNat : Int), .int .i64 (v2.toNat : Int), .slice an nums.length cn, .slice ad data.length cd] 71) := ⟨_, rfl⟩
  have hbw0 : Below G w W0 := by rw [hW0]; exact (Below.refl _ _).alloc (Nat.le_of_eq hG) _
  have hBM : BlkV W0 G 71 #[Value.int .i64 (v0.toNat : Int), .int .i64 (v1.toNat : Int), .int .i64 (v2.toNat : Int), .slice an nums.length cn, .slice ad data.length cd] := by rw [hW0, hG]; exact BlkV.new w _ _
  have hz0 : G + 1 ≤ W0.heap.size := hBM.lt
  rw [← hW0, ← hG]
  have HG := Lib.hid hG
  clear hG hW0
  refine (refUvarint_any v0 _).mono ?_
  rintro e w0 ⟨r0, rfl, ho0, hq0⟩
  have hq0 : Below (G + 1) W0 w0 := hq0.mono hz0
  have ho0 := own_base ho0 hz0
  obtain ⟨X0, hX0⟩ : ∃ X, X = uv v0.toNat := ⟨_, rfl⟩
  have hXl0 : X0.length ≤ 11 := by rw [hX0]; exact uv_len _
  rw [← hX0] at ho0
  have HX0 := Lib.hid hX0
  clear hX0
  have m1_0 := (hBM.at hq0 (Nat.lt_succ_self _)).cell 1
  simp only [List.getElem?_toArray, List.getElem?_cons_succ, List.getElem?_cons_zero] at m1_0
  have hlt0 : G < w0.heap.size := by have := hq0.size; omega
  go_wp2_with fail
  refine (refUvarint_any v1 _).mono ?_
  rintro e w0a ⟨r0, rfl, hop0, hbp0⟩
  have ho0x := own_below ho0 hbp0
  have hq0a : Below (G + 1) W0 w0a := hq0.trans (hbp0.mono (by have := hq0.size; omega))
  obtain ⟨ap0, cp0, rfl, hrp0⟩ := Rd.ofOwn hop0
  have hul0 := uv_len v1.toNat
  have hz0 := hq0a.size
  clear ho0 hop0 hbp0
  go_wp2_with (with_reducible refine At.slot 14 ?_)
  refine At.out (wpList_app rfl (.tmp 9) (.tmp 13) 31 rfl elemB rfl (G + 1) _ X0.length _ rfl ho0x ap0 (uv v1.toNat).length cp0 (B8 (uv v1.toNat)) rfl (B8_length _).symm hrp0 (B8_one _) (by unfold maxLen; omega) (by omega) (by omega) ?_)
  intro vb1 w1 ho1 hbb1 _
  rw [← B8_append, ← List.length_append] at ho1
  have hq1 : Below (G + 1) W0 w1 := hq0a.trans hbb1
  obtain ⟨X1, hX1⟩ : ∃ X, X = X0 ++ uv v1.toNat := ⟨_, rfl⟩
  have hXl1 : X1.length ≤ 22 := by rw [hX1, List.length_append]; omega
  rw [← hX1] at ho1
  have HX1 := Lib.hid hX1
  clear ho0x hbb1 hq0a hrp0 hX1
  have m2_1 := (hBM.at hq1 (Nat.lt_succ_self _)).cell 2
  simp only [List.getElem?_toArray, List.getElem?_cons_succ, List.getElem?_cons_zero] at m2_1
  have hlt1 : G < w1.heap.size := by have := hq1.size; omega
  go_wp2_with fail
  refine (refUvarint_any v2 _).mono ?_
  rintro e w1a ⟨r1, rfl, hop1, hbp1⟩
  have ho1x := own_below ho1 hbp1
  have hq1a : Below (G + 1) W0 w1a := hq1.trans (hbp1.mono (by have := hq1.size; omega))
  obtain ⟨ap1, cp1, rfl, hrp1⟩ := Rd.ofOwn hop1
  have hul1 := uv_len v2.toNat
  have hz1 := hq1a.size
  clear ho1 hop1 hbp1
  go_wp2_with (with_reducible refine At.slot 20 ?_)
  refine At.out (wpList_app rfl (.tmp 15) (.tmp 19) 31 rfl elemB rfl (G + 1) _ X1.length _ rfl ho1x ap1 (uv v2.toNat).length cp1 (B8 (uv v2.toNat)) rfl (B8_length _).symm hrp1 (B8_one _) (by unfold maxLen; omega) (by omega) (by omega) ?_)
  intro vb2 w2 ho2 hbb2 _
  rw [← B8_append, ← List.length_append] at ho2
  have hq2 : Below (G + 1) W0 w2 := hq1a.trans hbb2
  obtain ⟨X2, hX2⟩ : ∃ X, X = X1 ++ uv v2.toNat := ⟨_, rfl⟩
  have hXl2 : X2.length ≤ 33 := by rw [hX2, List.length_append]; omega
  rw [← hX2] at ho2
  have HX2 := Lib.hid hX2
  clear ho1x hbb2 hq1a hrp1 hX2
  have m3_2 := (hBM.at hq2 (Nat.lt_succ_self _)).cell 3
  simp only [List.getElem?_toArray, List.getElem?_cons_succ, List.getElem?_cons_zero] at m3_2
  have hlt2 : G < w2.heap.size := by have := hq2.size; omega
  go_wp2_with fail
  refine (refUvarint_any vn _).mono ?_
  rintro e w2a ⟨r2, rfl, hop2, hbp2⟩
  have ho2x := own_below ho2 hbp2
  have hq2a : Below (G + 1) W0 w2a := hq2.trans (hbp2.mono (by have := hq2.size; omega))
  obtain ⟨ap2, cp2, rfl, hrp2⟩ := Rd.ofOwn hop2
  have hul2 := uv_len vn.toNat
  have hz2 := hq2a.size
  clear ho2 hop2 hbp2
  go_wp2_with (with_reducible refine At.slot 27 ?_)
  refine At.out (wpList_app rfl (.tmp 21) (.tmp 26) 31 rfl elemB rfl (G + 1) _ X2.length _ rfl ho2x ap2 (uv vn.toNat).length cp2 (B8 (uv vn.toNat)) rfl (B8_length _).symm hrp2 (B8_one _) (by unfold maxLen; omega) (by omega) (by omega) ?_)
  intro vb3 w3 ho3 hbb3 _
  rw [← B8_append, ← List.length_append] at ho3
  have hq3 : Below (G + 1) W0 w3 := hq2a.trans hbb3
  obtain ⟨X3, hX3⟩ : ∃ X, X = X2 ++ uv vn.toNat := ⟨_, rfl⟩
  have hXl3 : X3.length ≤ 44 := by rw [hX3, List.length_append]; omega
  rw [← hX3] at ho3
  have HX3 := Lib.hid hX3
  clear ho2x hbb3 hq2a hrp2 hX3
  have HP : Hid (X3 = uv v0.toNat ++ uv v1.toNat ++ uv v2.toNat ++ uv nums.length) := Lib.hid (by rw [HX3.out, HX2.out, HX1.out, HX0.out, HVN.out])
  clear m1_0 m2_1 m3_2 hlt0 hlt1 hlt2
  go_wp2
  go_loopw [3, 4] (fun s3 s4 wr => ∃ (k : Nat) (X : List UInt8), k ≤ nums.length ∧ s4 = .int .i64 k ∧ wr.ownsRow (G + 1) 5 1 s3 X.length (B8 X) ∧ Below (G + 1) W0 wr ∧ Hid (X = X3 ++ numsL (nums.take k)) ∧ X.length ≤ 44 + 11 * k) (fun _ s4 _ => nums.length - (intOf s4).toNat)
  case atStart => exact ⟨0, X3, by omega, rfl, ho3, hq3, Lib.hid (by simp [numsL]), by omega⟩
  case round =>
    clear ho3 hq3 hq2 hq1 hq0
    obtain ⟨k, X, hk, rfl, ho, hb, HX, hXl⟩ := hrel
    have hbG : Below G w wr := hbw0.trans (hb.mono (by omega))
    have hz := hb.size
    have hltG : G < wr.heap.size := by omega
    have m3 := (hBM.at hb (Nat.lt_succ_self _)).cell 3
    have m4 := (hBM.at hb (Nat.lt_succ_self _)).cell 4
    simp only [List.getElem?_toArray, List.getElem?_cons_succ, List.getElem?_cons_zero] at m3 m4
    by_cases hlt : k < nums.length
    · obtain ⟨b1, o1, rfl, hc1⟩ := (hrn.kept (HG.out ▸ hbG : Below w.heap.size w wr)).cs.bi k hlt
      obtain ⟨x, hx⟩ : ∃ x, x = nums[k] := ⟨_, rfl⟩
      rw [← hx] at hc1
      have hxb := HBN.out x (by rw [hx]; exact List.getElem_mem _)
      have hzg := zig_toNat hxb
      have hzig := refZig_any x hxb wr
      obtain ⟨z, hzz⟩ : ∃ z, z = zig x := ⟨_, rfl⟩
      rw [← hzz] at hzig hzg
      have HXK : Hid (numsL (nums.take (k + 1)) = numsL (nums.take k) ++ uv z.toNat) := Lib.hid (by rw [List.take_succ_eq_append_getElem hlt, numsL_snoc, ← hx, hzg])
      have HZ := Lib.hid hzig
      clear hx hzz hzg hzig hxb
      have hki : (k : Int) < (nums.length : Int) := by omega
      go_wp2_with fail
      refine HZ.out.mono ?_
      rintro e w1' ⟨rfl, hw⟩
      have hw := hw.symm
      subst hw
      go_wp2_with fail
      refine (refUvarint_any z _).mono ?_
      rintro e w1' ⟨r1', rfl, ho1, hb1⟩
      have hob1 := own_below ho hb1
      have hb1' : Below (G + 1) W0 w1' := hb.trans (hb1.mono (by omega))
      obtain ⟨a1, c1, rfl, hrd1⟩ := Rd.ofOwn ho1
      clear ho ho1 hb1
      have hul := uv_len z.toNat
      have hz1' := hb1'.size
      go_wp2_with (with_reducible refine At.slot 43 ?_)
      refine At.out (wpList_app rfl (.tmp 35) (.tmp 42) 31 rfl elemB rfl (G + 1) _ X.length _ rfl hob1 a1 (uv z.toNat).length c1 (B8 (uv z.toNat)) rfl (B8_length _).symm hrd1 (B8_one _) (by unfold maxLen; omega) (by omega) (by omega) ?_)
      intro v2' w2' ho2 hb2 _
      rw [← B8_append, ← List.length_append] at ho2
      have hb2' : Below (G + 1) W0 w2' := hb1'.trans hb2
      have HX' : Hid (X ++ uv z.toNat = X3 ++ numsL (nums.take (k + 1))) := Lib.hid (by rw [HX.out, HXK.out, List.append_assoc])
      have hXl' : (X ++ uv z.toNat).length ≤ 44 + 11 * (k + 1) := by rw [List.length_append]; omega
      clear hob1 hb2 hrd1 hc1
      go_wp2
      go_roundw
      case rel => first | exact ⟨k + 1, X ++ uv z.toNat, by omega, by go_num, ho2, hb2', HX', hXl'⟩ | (repeat apply Exists.intro; refine ⟨?_, rfl⟩; exact ⟨k + 1, X ++ uv z.toNat, by omega, by go_num, ho2, hb2', HX', hXl'⟩)
      case measure => simp [intOf]; omega
    · obtain rfl : k = nums.length := by omega
      rw [List.take_length] at HX
      go_wp2_with fail
      refine (refUvarint_any vd _).mono ?_
      rintro e w1' ⟨r1', rfl, ho1, hb1⟩
      have hob1 := own_below ho hb1
      have hb1' : Below (G + 1) W0 w1' := hb.trans (hb1.mono (by omega))
      obtain ⟨a1, c1, rfl, hrd1⟩ := Rd.ofOwn ho1
      clear ho ho1 hb1
      have hul := uv_len vd.toNat
      have hz1' := hb1'.size
      go_wp2_with (with_reducible refine At.slot 50 ?_)
      refine At.out (wpList_app rfl (.tmp 44) (.tmp 49) 31 rfl elemB rfl (G + 1) _ X.length _ rfl hob1 a1 (uv vd.toNat).length c1 (B8 (uv vd.toNat)) rfl (B8_length _).symm hrd1 (B8_one _) (by unfold maxLen; omega) (by omega) (by omega) ?_)
      intro v2' w2' ho2 hb2 _
      rw [← B8_append, ← List.length_append] at ho2
      have hb2' : Below (G + 1) W0 w2' := hb1'.trans hb2
      have hbG2 : Below G w w2' := hbw0.trans (hb2'.mono (by omega))
      obtain ⟨Y, hY⟩ : ∃ Y, Y = X ++ uv vd.toNat := ⟨_, rfl⟩
      have hYl : Y.length ≤ 55 + 11 * nums.length := by rw [hY, List.length_append]; omega
      rw [← hY] at ho2
      have HY := Lib.hid hY
      have m4b := (hBM.at hb2' (Nat.lt_succ_self _)).cell 4
      simp only [List.getElem?_toArray, List.getElem?_cons_succ, List.getElem?_cons_zero] at m4b
      have hrd2 := hrd.kept (HG.out ▸ hbG2 : Below w.heap.size w w2')
      have hz2' := hb2'.size
      have hltG2 : G < w2'.heap.size := by omega
      clear hob1 hb2 hrd1 m4 hY
      go_wp2_with (with_reducible refine At.slot 54 ?_)
      refine At.out (wpList_app rfl (.tmp 51) (.tmp 53) 31 rfl elemB rfl (G + 1) _ Y.length _ rfl ho2 ad data.length cd (B8 data) rfl (B8_length _).symm hrd2 (B8_one _) (by unfold maxLen; omega) (by omega) (by omega) ?_)
      intro v3' w3' ho3 hb3 _
      rw [← B8_append, ← List.length_append] at ho3
      have hbG3 : Below G w w3' := hbG2.trans (hb3.mono (by omega))
      have HB : Hid (bodyL v0.toNat v1.toNat v2.toNat nums data = Y ++ data) := Lib.hid (by
        rw [HY.out, HX.out, HP.out]; unfold bodyL; rw [HVD.out])
      go_wp2
      go_ret
      refine ⟨v3', rfl, ?_, HG.out ▸ hbG3⟩
      rw [HB.out]
      exact own_base ho3 (by have := HG.out; omega)
end Go.Proofs.Yteenbobblbehoaa
