/- The document's Mend: the contract. Conditions: its own premises. -/
import Derived.Test.YtmeckdgigjjjbaaDoorRefFits
import Derived.Test.YtmeckdgigjjjbaaDoorAppA
import Derived.Test.YtmeckdgigjjjbaaDoorRefInv
import Derived.Test.YtmeckdgigjjjbaaDoorBlend
namespace Go.Proofs.YtmeckdgigjjjbaaDoor
open Go Go.RowKit

theorem firstK_full {th : Nat → Bool} {k i : Nat} (h : k ≤ (firstK th k i).length) : ∀ d, firstK th k (i + d) = firstK th k i
  | 0 => rfl
  | d + 1 => by
    have ih := firstK_full h d
    rw [← Nat.add_assoc, firstK_no (.inr (by rw [ih]; exact h)), ih]
theorem firstK_len (th : Nat → Bool) (k N : Nat) : (firstK th k N).length = min k ((List.range N).filter th).length := by unfold firstK; rw [List.length_take]
theorem pick_invR {k m : Nat} {R : List Nat} {Bm : Mx} {f : Nat} (h : PickOk k m R) (hk : 1 ≤ k) (hkm : k + m ≤ 14) (hi : InvRef (pickM k m R) Bm f) : f = 0 ∧ Bm = invM (pickM k m R) ∧ Bm.length = k := by
  have hd := h.dim
  rcases hi with ⟨h1, _⟩ | ⟨_, _, ⟨_, _, h3⟩ | ⟨h3, h4, _⟩⟩
  · exact absurd ⟨hd.isM hk (by omega) hk (by omega), by rw [hd.wid hk, hd.1]⟩ h1
  · rw [hd.1] at h3
    exact (code_reg h.nodup h.len h.lt hkm h3).elim
  · exact ⟨h3, invM_eq hd hk h4, (undo_dim hd h4).1⟩

theorem snoc_rows {R : List Nat} {vs : List Value} {u : Value} {i n : Nat} {w : World} {F : Nat → List UInt8} (hvl : vs.length = R.length) (h : ∀ (r q : Nat), R[r]? = some q → ∃ ad cd, vs[r]? = some (.slice ad n cd) ∧ Rd w ad cd (B8 (F q)))
    (hu : ∃ ad cd, u = .slice ad n cd ∧ Rd w ad cd (B8 (F i))) : ∀ (r q : Nat), (R ++ [i])[r]? = some q → ∃ ad cd, (vs ++ [u])[r]? = some (.slice ad n cd) ∧ Rd w ad cd (B8 (F q)) := by
  intro r q hq
  by_cases e : r < R.length
  · rw [List.getElem?_append_left e] at hq
    obtain ⟨ad, cd, h1, h2⟩ := h r q hq
    exact ⟨ad, cd, by rw [List.getElem?_append_left (by omega)]; exact h1, h2⟩
  · have hre : r = R.length := by
      have := (List.getElem?_eq_some_iff.1 hq).1
      simp at this
      omega
    rw [List.getElem?_append_right (by omega), hre, Nat.sub_self] at hq
    have hpq : i = q := by simpa using hq
    subst hpq
    obtain ⟨ad, cd, h1, h2⟩ := hu
    exact ⟨ad, cd, by rw [List.getElem?_append_right (by omega), hre, hvl, Nat.sub_self, h1]; rfl, h2⟩

set_option maxRecDepth 100000 in
set_option maxHeartbeats 4000000 in
theorem refMend_any (w : World) (a : Option Addr) (c : Nat) (L : Mx) (k m : Int) (hr : RdLL w a c L) (hk : -9223372036854775808 ≤ k ∧ k ≤ 9223372036854775807) (hm : -9223372036854775808 ≤ m ∧ m ≤ 9223372036854775807) (hL : L.length ≤ 1000000) (hLl : ∀ r ∈ L, r.length ≤ 1000000) :
    Calls Tryd.prog 10 #[.slice a L.length c, .int .i64 k, .int .i64 m] w (MxP w (mendR L k m)) := by
  have hfit := fits_any w a c L k m hr hk hm hL hLl
  by_cases hno : noRows L k m
  · rw [show mendR L k m = ([], 1) from if_pos hno]
    have HNO := Lib.hid hno
    have HF := Lib.hid hfit
    clear hfit hno
    go_enter Tryd.func10, Tryd.ntmps10
    go_wp2_with fail
    refine HF.out.mono ?_
    rintro e w1 ⟨n, b, rfl, hb, hb1⟩
    have hbf : b = false := by
      cases b with
      | false => rfl
      | true => exact absurd HNO.out (hb.1 rfl)
    subst hbf
    clear hb
    go_wp2
    go_ret2
    exact MxP.no 1 hb1
  · obtain ⟨kn, mn, rfl, rfl, hk1, hkm, hLk, hcb, hodd⟩ := noRows_ok hno
    obtain ⟨s, hs1, hs⟩ := even_len' hodd hLl
    have hC := fun W => refCode_any W kn mn
    simp only [show codeR (kn : Int) (mn : Int) = (codeL kn mn, 0) from by unfold codeR; rw [if_neg (by rw [hcb]; decide)]; rfl] at hC
    have hmr : mendR L kn mn = if presC L L.length < kn then ([], 15) else (mendF kn mn L (firstK (presT L) kn (kn + mn)), 0) := if_neg hno
    rw [hmr]
    obtain ⟨X, hX⟩ : ∃ X : Mx × Nat, X = if presC L L.length < kn then ([], 15) else (mendF kn mn L (firstK (presT L) kn (kn + mn)), 0) := ⟨_, rfl⟩
    rw [← hX]
    have HNO := Lib.hid hno
    have HF := Lib.hid hfit
    have HR := Lib.hid hr
    have HS := Lib.hid hs
    have HC := Lib.hid hC
    have HX := Lib.hid hX
    have HLK := Lib.hid hLk
    have hcl : (codeL kn mn).length = kn + mn := codeL_length kn mn
    have HCL := Lib.hid hcl
    obtain ⟨G, hG⟩ : ∃ G, G = w.heap.size := ⟨_, rfl⟩
    have HG := Lib.hid hG
    rw [hLk]
    clear hfit hno hr hs hC hX hLk hcb hodd hmr hk hm hLl hcl hG
    go_enter Tryd.func10, Tryd.ntmps10
    go_wp2_with fail
    rw [← HLK.out]
    refine HF.out.mono ?_
    rintro e w1 ⟨n, b, rfl, hb, hb1⟩
    rw [HLK.out]
    have hbt : b = true := hb.2 HNO.out
    subst hbt
    clear hb HF
    go_wp2_with fail
    refine (HC.out w1).mono ?_
    intro e w2 h
    obtain ⟨ac, cc, rfl, hrc, hb2⟩ := MxP.rd h
    rw [show ((codeL kn mn, 0) : Mx × Nat).1.length = kn + mn from HCL.out]
    have hrc' : RdLL w2 ac cc (codeL kn mn) := hrc
    have HRC := Lib.hid hrc'
    have hbw2 : Below G w w2 := HG.out ▸ hb1.trans (hb2.mono hb1.size)
    obtain ⟨K, hK⟩ : ∃ K, K = w2.heap.size := ⟨_, rfl⟩
    have HK := Lib.hid hK
    have hGK : G ≤ K := by rw [hK, HG.out]; have := hbw2.size; exact this
    clear h hrc hrc' hb1 hb2 hK HC
    go_wp2
    go_loopw [12, 13, 14] (fun s12 s13 s14 wr => ∃ (i : Nat) (R : List Nat) (vs us : List Value), i ≤ kn + mn ∧ s14 = .int .i64 i ∧ Hid (R = firstK (presT L) kn i) ∧ R.length ≤ kn ∧ wr.ownsRow K 34 1 s12 R.length vs ∧ wr.ownsRow K 34 1 s13 R.length us ∧ Sep s12 s13 ∧
      Hid (∀ (r q : Nat), R[r]? = some q → ∃ ad cd, vs[r]? = some (.slice ad s cd) ∧ Rd w2 ad cd (B8 (L.getD q []))) ∧ Hid (∀ (r q : Nat), R[r]? = some q → ∃ ad cd, us[r]? = some (.slice ad kn cd) ∧ Rd w2 ad cd (B8 ((codeL kn mn).getD q []))) ∧ Below K w2 wr) (fun _ _ s14 _ => kn + mn - (intOf s14).toNat)
    case atStart => exact ⟨0, [], [], [], by omega, rfl, Lib.hid (firstK_zero _ _).symm, by simp, World.ownsRow_nil _ _ _ _, World.ownsRow_nil _ _ _ _, sep_nil _, Lib.hid (fun r q h => by simp at h), Lib.hid (fun r q h => by simp at h), Below.refl _ _⟩
    case round =>
      obtain ⟨i, R, vs, us, hi, rfl, HRD, hRl, ho, hs, hsep, HVS, HUS, hb⟩ := hrel
      have hKs : K ≤ wr.heap.size := by have := hb.size; have := HK.out; omega
      by_cases hc : i < kn + mn ∧ R.length < kn
      · obtain ⟨hlt, hlk⟩ := hc
        have hii : (i : Int) < (kn : Int) + (mn : Int) := by omega
        have hli : (R.length : Int) < (kn : Int) := by omega
        obtain ⟨b3, o3, ad0, cd0, rfl, hc3, hr3⟩ := RdLL.row HR.out i (by rw [HLK.out]; exact hlt)
        have hbw : Below G w wr := hbw2.trans (hb.mono hGK)
        have hc3' := (hbw.cell (p := ⟨b3, o3 + i, none⟩) (by rw [HG.out]; exact World.block_lt_of_cell? w _ hc3)).trans hc3
        obtain ⟨a12, c12, rfl, _⟩ := Rd.ofOwn ho
        obtain ⟨a13, c13, rfl, _⟩ := Rd.ofOwn hs
        cases hp : presT L i with
        | false =>
          have hl0 : (L.getD i []).length = 0 := by unfold presT at hp; simpa using of_decide_eq_false hp
          rw [hl0] at hc3'
          have H2 : Hid (R = firstK (presT L) kn (i + 1)) := Lib.hid (by rw [firstK_no (.inl hp)]; exact HRD.out)
          clear hc3 hr3 hp hl0
          go_wp2
          go_roundw
          case rel => exact ⟨i + 1, R, vs, us, by omega, by go_num, H2, hRl, ho, hs, hsep, HVS, HUS, hb⟩
          case measure => simp [intOf]; omega
        | true =>
          have hl0 : (L.getD i []).length = s := HS.out i hp
          have hs0 : (0 : Int) < (s : Int) := by
            have : (L.getD i []).length ≠ 0 := of_decide_eq_true (by unfold presT at hp; exact hp)
            omega
          rw [hl0] at hc3'
          have HR3 := Lib.hid (hr3.kept (HG.out ▸ hbw2 : Below w.heap.size w w2))
          obtain ⟨b4, o4, ad4, cd4, rfl, hc4, hr4⟩ := RdLL.row HRC.out i (by rw [HCL.out]; exact hlt)
          have hk4 : ((codeL kn mn).getD i []).length = kn := by
            rw [List.getD_eq_getElem?_getD, List.getElem?_eq_getElem (by rw [HCL.out]; exact hlt)]
            exact (codeL_dim kn mn).2 _ (List.getElem_mem _)
          have HR4 := Lib.hid hr4
          have H2 : Hid (R ++ [i] = firstK (presT L) kn (i + 1)) := Lib.hid (by rw [firstK_yes hp (by rw [← HRD.out]; exact hlk), HRD.out])
          have hbk4 : b4 < K := by rw [HK.out]; exact World.block_lt_of_cell? w2 _ hc4
          rw [hk4] at hc4
          have HC4 := Lib.hid hc4
          clear hc3 hr3 hp hl0 hc4 hr4 hk4
          go_wp2_with (with_reducible refine At.slot 61 ?_)
          refine At.out (wpList_appA rfl (.tmp 55) (.tmp 60) 22 rfl elemR rfl K _ R.length vs rfl (ho.alloc _) _ 1 1 [.slice ad0 s cd0] rfl rfl (Rd.one _ _ _) (by intro u hu; rw [List.mem_singleton.1 hu]; rfl) (by unfold maxLen; omega) (by omega) (by simp; omega) ?_)
          intro v4 w4 ho4 hb4 hg4 hat4
          obtain ⟨hs4, hsep4⟩ := sep_app hsep.symm (hs.alloc (.cells #[.slice ad0 s cd0] 34)) hg4 hat4
          have hb5 : Below K w2 w4 := (hb.alloc hKs _).trans hb4
          have hK4 : K ≤ w4.heap.size := by have := hb5.size; have := HK.out; omega
          have hc5 := (hb5.cell (p := ⟨b4, o4 + i, none⟩) hbk4).trans HC4.out
          have hil : (i : Int) < (kn : Int) + (mn : Int) := by omega
          have hvl : vs.length = R.length := by simpa using ho.1
          have hul : us.length = R.length := by simpa using hs.1
          clear ho hs hb4 hg4 hat4 hsep hb hc3'
          go_wp2_with (with_reducible refine At.slot 68 ?_)
          refine At.out (wpList_appA rfl (.tmp 62) (.tmp 67) 22 rfl elemR rfl K _ R.length us rfl (hs4.alloc _) _ 1 1 [.slice ad4 kn cd4] rfl rfl (Rd.one _ _ _) (by intro u hu; rw [List.mem_singleton.1 hu]; rfl) (by unfold maxLen; omega) (by omega) (by simp; omega) ?_)
          intro v5 w5 hs5 hb6 hg5 hat5
          obtain ⟨ho5, hsep5⟩ := sep_app hsep4.symm (ho4.alloc (.cells #[.slice ad4 kn cd4] 34)) hg5 hat5
          have hb7 : Below K w2 w5 := (hb5.alloc hK4 _).trans hb6
          have hll : (R ++ [i]).length = R.length + 1 := by simp
          have ho6 := own_len ho5 hll.symm
          have hs6 := own_len hs5 hll.symm
          have HVS2 : Hid (∀ (r q : Nat), (R ++ [i])[r]? = some q → ∃ ad cd, (vs ++ [.slice ad0 s cd0])[r]? = some (.slice ad s cd) ∧ Rd w2 ad cd (B8 (L.getD q []))) := Lib.hid (snoc_rows hvl HVS.out ⟨ad0, cd0, rfl, HR3.out⟩)
          have HUS2 : Hid (∀ (r q : Nat), (R ++ [i])[r]? = some q → ∃ ad cd, (us ++ [.slice ad4 kn cd4])[r]? = some (.slice ad kn cd) ∧ Rd w2 ad cd (B8 ((codeL kn mn).getD q []))) := Lib.hid (snoc_rows hul HUS.out ⟨ad4, cd4, rfl, HR4.out⟩)
          have hll2 : (R ++ [i]).length ≤ kn := by rw [hll]; omega
          clear ho4 hs4 hb5 ho5 hs5 hb6 hg5 hat5 hsep4 hll hvl hul
          go_wp2
          go_roundw
          case rel => exact ⟨i + 1, R ++ [i], _, _, by omega, by go_num, H2, hll2, ho6, hs6, hsep5, HVS2, HUS2, hb7⟩
          case measure => simp [intOf]; omega
      · have hend : Hid (R = firstK (presT L) kn (kn + mn)) := Lib.hid (by
          by_cases hik : i = kn + mn
          · rw [← hik]; exact HRD.out
          · have h1 : kn ≤ (firstK (presT L) kn i).length := by rw [← HRD.out]; omega
            obtain ⟨d, hd⟩ : ∃ d, kn + mn = i + d := ⟨kn + mn - i, by omega⟩
            rw [hd, firstK_full h1]; exact HRD.out)
        obtain ⟨a12, c12, rfl, hr12⟩ := Rd.ofOwn ho
        obtain ⟨a13, c13, rfl, hr13⟩ := Rd.ofOwn hs
        go_upto_region 8 with (fail)
        go_cut [46] from 36 to 68 (fun s46 wx => s46 = .bool false ∧ wx = wr)
        case first =>
          by_cases hlt : i < kn + mn
          · have hii : (i : Int) < (kn : Int) + (mn : Int) := by omega
            have hli : (kn : Int) ≤ (R.length : Int) := by omega
            go_wp2_with fail
            go_meet
            exact ⟨by rw [decide_eq_false (by omega)], rfl⟩
          · have hii : (kn : Int) + (mn : Int) ≤ (i : Int) := by omega
            go_wp2_with fail
            go_meet
            exact ⟨rfl, rfl⟩
        case rest =>
          obtain ⟨rfl, rfl⟩ := hcut
          have hlen : R.length = min kn (presC L L.length) := by rw [hend.out, firstK_len, HLK.out]; rfl
          have hbw : Below G w wc := hbw2.trans (hb.mono hGK)
          by_cases hlk : R.length < kn
          · have hli : (R.length : Int) < (kn : Int) := by omega
            have hx : Hid (X = ([], 15)) := Lib.hid (by rw [HX.out, if_pos (by omega)])
            have HBW := Lib.hid hbw
            clear hlen ho hs hsep hr12 hr13
            go_wp2
            go_ret2
            rw [hx.out]
            exact MxP.no 15 (HG.out ▸ HBW.out)
          · have hRk : R.length = kn := by omega
            have hx : Hid (X = (mendF kn mn L R, 0)) := Lib.hid (by rw [HX.out, if_neg (by omega), ← hend.out])
            have hok : PickOk kn mn R := by
              rw [hend.out]
              refine firstK_ok ?_
              have : presC L L.length = ((List.range (kn + mn)).filter (presT L)).length := by rw [HLK.out]; rfl
              omega
            have hpd := hok.dim
            have hd9 : Dim (rowsOf L R) kn s := ⟨by rw [rowsOf_length]; exact hRk, fun r hr => by
              obtain ⟨q, hq, rfl⟩ := List.mem_map.1 hr
              rw [hend.out] at hq
              exact HS.out q (firstK_mem hq).1⟩
            have hbz : Below w2.heap.size w2 wc := HK.out ▸ hb
            rw [hRk] at ho hs ⊢
            have hLLs : RdLL wc a13 c13 (pickM kn mn R) := rdLL_of hpd.1 hs hbz (fun r l hl => by
              unfold pickM at hl
              rw [List.getElem?_map] at hl
              cases hq : R[r]? with
              | none => rw [hq] at hl; cases hl
              | some q =>
                rw [hq] at hl
                obtain rfl := Option.some.inj hl
                have hdim : ((codeL kn mn).getD q []).length = kn := hpd.2 _ (by unfold pickM; exact List.mem_map.2 ⟨q, List.mem_of_getElem? hq, rfl⟩)
                rw [hdim]
                exact HUS.out r q hq)
            have hLLh : RdLL wc a12 c12 (rowsOf L R) := rdLL_of hd9.1 ho hbz (fun r l hl => by
              cases hq : R[r]? with
              | none => unfold rowsOf at hl; rw [List.getElem?_map, hq] at hl; cases hl
              | some q =>
                rw [rowsOf_get hq] at hl
                obtain rfl := Option.some.inj hl
                rw [HS.out q (by have := List.mem_of_getElem? hq; rw [hend.out] at this; exact (firstK_mem this).1)]
                exact HVS.out r q hq)
            have hinv := refInvert_any wc a13 c13 (pickM kn mn R) hLLs
            rw [hpd.1] at hinv
            have HINV := Lib.hid hinv
            have HOK := Lib.hid hok
            have HD9 := Lib.hid hd9
            have HLLH := Lib.hid hLLh
            have HRC2 := Lib.hid (HRC.out.kept hbz)
            have hnli : ¬ (kn : Int) < (kn : Int) := by omega
            have HBW := Lib.hid hbw
            clear hlen ho hs hsep hr12 hr13 hpd hLLs hLLh hinv hok hd9 hbz hb hbw HX HVS HUS HRD hend
            go_wp2_with fail
            refine HINV.out.mono ?_
            rintro e w3 ⟨Bm, f, a15, c15, hio, rfl, hr15, hb3⟩
            obtain ⟨rfl, hBm, hBl⟩ := pick_invR HOK.out hk1 hkm hio
            rw [hBl]
            have hu := undo_dim HOK.out.dim (HOK.out.undo hk1 hkm)
            have hr15' : RdLL w3 a15 c15 (invM (pickM kn mn R)) := hBm ▸ hr15
            have HB3 : Hid (Below wc.heap.size wc w3) := Lib.hid hb3
            have HU := Lib.hid hu
            have HR15 := Lib.hid hr15'
            have HH3 := Lib.hid (HLLH.out.kept hb3)
            have HC3 := Lib.hid (HRC2.out.kept hb3)
            have HBW3 : Hid (Below G w w3) := Lib.hid (HBW.out.trans (hb3.mono (by have := HBW.out.size; have := HG.out; omega)))
            obtain ⟨GW, hGW⟩ : ∃ GW, GW = w3.heap.size := ⟨_, rfl⟩
            have HGW := Lib.hid hGW
            clear hu hr15' hio hr15 hb3 HINV HRC HRC2 HLLH HBW hGW
            go_wp2
            go_loopw [17, 18] (fun s17 s18 wr => ∃ (i : Nat), i ≤ kn ∧ s18 = .int .i64 i ∧ OwnLL wr GW 34 5 s17 (timesL ((invM (pickM kn mn R)).take i) (rowsOf L R)) ∧ Below GW w3 wr) (fun _ s18 _ => kn - (intOf s18).toNat)
            case atStart => exact ⟨0, by omega, rfl, OwnLL.nil _ _ _ _, Below.refl _ _⟩
            case round =>
              obtain ⟨i, hi, rfl, hO, hb⟩ := hrel
              have hGs : GW ≤ wr.heap.size := by have := hb.size; have := HGW.out; omega
              by_cases hlti : i < kn
              · have hii : (i : Int) < (kn : Int) := by omega
                obtain ⟨b2, o2, ad2, cd2, rfl, hc2, hr2⟩ := (HR15.out.kept (HGW.out ▸ hb : Below w3.heap.size w3 wr)).cell i (by rw [HU.out.1]; exact hlti)
                have hl2 := HU.out.2 _ (List.getElem_mem (by rw [HU.out.1]; exact hlti))
                have hbl := blend_any wr ad2 cd2 _ a12 c12 (rowsOf L R) hr2 (HH3.out.kept (HGW.out ▸ hb : Below w3.heap.size w3 wr)) (by rw [hl2, HD9.out.1]) (by rw [HD9.out.1]; exact hk1) (by rw [HD9.out.1]; omega) (fun r hr => by rw [HD9.out.2 r hr, HD9.out.wid hk1]) (by rw [HD9.out.wid hk1]; exact hs1)
                have hnx := timesL_take (invM (pickM kn mn R)) (rowsOf L R) i (by rw [HU.out.1]; exact hlti)
                have hbll : (blendL ((invM (pickM kn mn R))[i]'(by rw [HU.out.1]; exact hlti)) (rowsOf L R)).length = s := by rw [blendL_length]; exact HD9.out.wid hk1
                obtain ⟨B, hB⟩ : ∃ B, B = blendL ((invM (pickM kn mn R))[i]'(by rw [HU.out.1]; exact hlti)) (rowsOf L R) := ⟨_, rfl⟩
                rw [← hB] at hbl hnx hbll
                rw [hl2] at hc2 hbl
                rw [HD9.out.1, HD9.out.wid hk1] at hbl
                have hlen : (timesL ((invM (pickM kn mn R)).take i) (rowsOf L R)).length = i := by rw [timesL_length, List.length_take, HU.out.1]; omega
                have HBl := Lib.hid hbl
                have HNx := Lib.hid hnx
                have HBll := Lib.hid hbll
                have HLen := Lib.hid hlen
                clear hl2 hr2 hbl hnx hbll hB hlen
                go_wp2_with fail
                refine HBl.out.mono ?_
                rintro e w4 ⟨v3, rfl, ho3, hb3⟩
                have hO3 := hO.kept hb3
                have hbw3 : Below GW w3 w4 := hb.trans (hb3.mono hGs)
                have ho3' := own_base ho3 hGs
                have hGs3 : GW ≤ w4.heap.size := by have := hbw3.size; have := HGW.out; omega
                obtain ⟨ar, cr, rfl, _⟩ := Rd.ofOwn ho3'
                clear hO ho3 hb3 HBl hb
                go_wp2_with (with_reducible refine At.slot 91 ?_)
                obtain ⟨vs, hv1, hv2⟩ := hO3.kept ((Below.refl w4.heap.size w4).alloc (Nat.le_refl _) (.cells #[.slice ar s cr] 34))
                refine At.out (wpList_app rfl (.tmp 83) (.tmp 90) 22 rfl elemR rfl GW _ i vs rfl (own_len hv1 HLen.out) _ 1 1 [.slice ar s cr] rfl rfl (Rd.one _ _ _) (by intro u hu; rw [List.mem_singleton.1 hu]; exact own_one ho3') (by unfold maxLen; omega) (by omega) (by simp; omega) ?_)
                intro v5 w5 hv3 hb4 hg4
                have hO4 := own_app (l := B) hv1 hv2 (own_len (ho3'.alloc _) HBll.out.symm) (by decide) (by rw [HLen.out]; exact hv3) hg4
                rw [← HNx.out] at hO4
                have hb5 : Below GW w3 w5 := (hbw3.alloc hGs3 _).trans hb4
                clear hv1 hv2 hv3 hO3 ho3' hg4 hb4 hbw3
                go_wp2
                go_roundw
                case rel => exact ⟨i + 1, by omega, by go_num, hO4, hb5⟩
                case measure => simp [intOf]; omega
              · obtain rfl : kn = i := by omega
                rw [List.take_of_length_le (by rw [HU.out.1]; exact Nat.le_refl _)] at hO
                have hd2 : Dim (timesL (invM (pickM kn mn R)) (rowsOf L R)) kn s := HU.out.times HD9.out hk1
                obtain ⟨a17, c17, rfl, hr17⟩ := hO.rd
                rw [hd2.1]
                have HD2 := Lib.hid hd2
                have HR17 := Lib.hid hr17
                have HC5 := Lib.hid (HC3.out.kept (HGW.out ▸ hb : Below w3.heap.size w3 wr))
                have hGW3 : G ≤ GW := by rw [HGW.out, HG.out]; exact HBW3.out.size
                have HBWr : Hid (Below G w wr) := Lib.hid (HBW3.out.trans (hb.mono hGW3))
                obtain ⟨GX, hGX⟩ : ∃ GX, GX = wr.heap.size := ⟨_, rfl⟩
                have hGX3 : G ≤ GX := by rw [hGX, HG.out]; exact HBWr.out.size
                have HGX := Lib.hid hGX
                have hX2 : timesL (codeL kn mn) (timesL (invM (pickM kn mn R)) (rowsOf L R)) = mendF kn mn L R := rfl
                obtain ⟨D, hD⟩ : ∃ D, D = timesL (invM (pickM kn mn R)) (rowsOf L R) := ⟨_, rfl⟩
                rw [← hD] at HD2 HR17 hX2
                have HX2 := Lib.hid hX2
                have hkk : ¬ (kn : Int) < (kn : Int) := by omega
                clear hd2 hr17 hO hb hGX hX2 hD HC3 HH3 HR15 HU HD9 HBW3
                obtain ⟨wo, hwo⟩ : ∃ wo : World, wo = wr := ⟨_, rfl⟩
                subst hwo
                go_wp2
                go_loopw [19, 20] (fun s19 s20 wr => ∃ (i : Nat), i ≤ kn + mn ∧ s20 = .int .i64 i ∧ OwnLL wr GX 34 5 s19 (timesL ((codeL kn mn).take i) D) ∧ Below GX wo wr) (fun _ s20 _ => kn + mn - (intOf s20).toNat)
                case atStart => exact ⟨0, by omega, rfl, OwnLL.nil _ _ _ _, Below.refl _ _⟩
                case round =>
                  obtain ⟨i, hi, rfl, hO, hb⟩ := hrel
                  have hGs : GX ≤ wr.heap.size := by have := hb.size; have := HGX.out; omega
                  have hbx : Below wo.heap.size wo wr := HGX.out ▸ hb
                  by_cases hlti : i < kn + mn
                  · have hii : (i : Int) < (kn : Int) + (mn : Int) := by omega
                    obtain ⟨b2, o2, ad2, cd2, rfl, hc2, hr2⟩ := (HC5.out.kept hbx).cell i (by rw [HCL.out]; exact hlti)
                    have hl2 := (codeL_dim kn mn).2 _ (List.getElem_mem (by rw [HCL.out]; exact hlti))
                    have hbl := blend_any wr ad2 cd2 _ a17 c17 D hr2 (HR17.out.kept hbx) (by rw [hl2, HD2.out.1]) (by rw [HD2.out.1]; exact hk1) (by rw [HD2.out.1]; omega) (fun r hr => by rw [HD2.out.2 r hr, HD2.out.wid hk1]) (by rw [HD2.out.wid hk1]; exact hs1)
                    have hnx := timesL_take (codeL kn mn) D i (by rw [HCL.out]; exact hlti)
                    have hbll : (blendL ((codeL kn mn)[i]'(by rw [HCL.out]; exact hlti)) D).length = s := by rw [blendL_length]; exact HD2.out.wid hk1
                    obtain ⟨B, hB⟩ : ∃ B, B = blendL ((codeL kn mn)[i]'(by rw [HCL.out]; exact hlti)) D := ⟨_, rfl⟩
                    rw [← hB] at hbl hnx hbll
                    rw [hl2] at hc2 hbl
                    rw [HD2.out.1, HD2.out.wid hk1] at hbl
                    have hlen : (timesL ((codeL kn mn).take i) D).length = i := by rw [timesL_length, List.length_take, HCL.out]; omega
                    have HBl := Lib.hid hbl
                    have HNx := Lib.hid hnx
                    have HBll := Lib.hid hbll
                    have HLen := Lib.hid hlen
                    clear hl2 hr2 hbl hnx hbll hB hlen hbx
                    go_wp2_with fail
                    refine HBl.out.mono ?_
                    rintro e w4 ⟨v3, rfl, ho3, hb3⟩
                    have hO3 := hO.kept hb3
                    have hbw3 : Below GX wo w4 := hb.trans (hb3.mono hGs)
                    have ho3' := own_base ho3 hGs
                    have hGs3 : GX ≤ w4.heap.size := by have := hbw3.size; have := HGX.out; omega
                    obtain ⟨ar, cr, rfl, _⟩ := Rd.ofOwn ho3'
                    clear hO ho3 hb3 HBl hb
                    go_wp2_with (with_reducible refine At.slot 107 ?_)
                    obtain ⟨vs, hv1, hv2⟩ := hO3.kept ((Below.refl w4.heap.size w4).alloc (Nat.le_refl _) (.cells #[.slice ar s cr] 34))
                    refine At.out (wpList_app rfl (.tmp 99) (.tmp 106) 22 rfl elemR rfl GX _ i vs rfl (own_len hv1 HLen.out) _ 1 1 [.slice ar s cr] rfl rfl (Rd.one _ _ _) (by intro u hu; rw [List.mem_singleton.1 hu]; exact own_one ho3') (by unfold maxLen; omega) (by omega) (by simp; omega) ?_)
                    intro v5 w5 hv3 hb4 hg4
                    have hO4 := own_app (l := B) hv1 hv2 (own_len (ho3'.alloc _) HBll.out.symm) (by decide) (by rw [HLen.out]; exact hv3) hg4
                    rw [← HNx.out] at hO4
                    have hb5 : Below GX wo w5 := (hbw3.alloc hGs3 _).trans hb4
                    clear hv1 hv2 hv3 hO3 ho3' hg4 hb4 hbw3
                    go_wp2
                    go_roundw
                    case rel => exact ⟨i + 1, by omega, by go_num, hO4, hb5⟩
                    case measure => simp [intOf]; omega
                  · obtain rfl : kn + mn = i := by omega
                    rw [List.take_of_length_le (by rw [HCL.out]; exact Nat.le_refl _), HX2.out] at hO
                    have hO' := hO.base hGX3
                    have hend := HBWr.out.trans (hb.mono hGX3)
                    have HO := Lib.hid hO'
                    have HEND := Lib.hid hend
                    have hkk2 : ¬ (kn : Int) + (mn : Int) < (kn : Int) + (mn : Int) := by omega
                    obtain ⟨a2, c2, rfl, _⟩ := hO'.rd
                    clear hO hO' hend hb hbx
                    go_wp2
                    go_ret2
                    rw [hx.out]
                    exact MxP.mk HG.out HO.out HEND.out
end Go.Proofs.YtmeckdgigjjjbaaDoor
