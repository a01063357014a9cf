/- matrix's Invert: the contract. Conditions: its own premises. -/
import Derived.Test.YtmeckdgigjjjbaaDoorInvL
import Derived.Test.YtmeckdgigjjjbaaDoorOwnR
import Derived.Test.YtmeckdgigjjjbaaDoorTz
import Derived.Test.YtmeckdgigjjjbaaDoorSlice
import Derived.Test.YtmeckdgigjjjbaaDoorMatOne
import Derived.Test.YtmeckdgigjjjbaaDoorIsMat
import Derived.Deep.RegionLaw
namespace Go.Proofs.YtmeckdgigjjjbaaDoor
open Go Go.RowKit

theorem elemI : ElemT Tryd.prog 32 3 1 (.int .i64 0) 8 := ⟨Tryd.underlying32, info_parts (by kernel_rfl)⟩
/-- make([]int, n). -/
theorem wpList_makeI {P : Program} {w : World} {ops : Array Oper} {rest : List Oper} {o : Oper} {a : Act} {Q : Exit → Act → World → Prop} (hgd : o.guard = none) (l c : Operand) (t : TypeId) (hop : o.op = Op.makeSlice t l c) {e : TypeId} (T : ElemT P t e 1 (.int .i64 0) 8)
    (kl kc : IntKind) (L C : Int) (n : Nat) (hl : a.eval l = .int kl L) (hc : a.eval c = .int kc C) (hL : L = (n : Int)) (hC : C = (n : Int)) (hn : n ≤ 1000000000)
    (h : ∀ w', w'.ownsRow w.heap.size e 1 (.slice (some ⟨w.heap.size, 0, none⟩) n n) n (BI (List.replicate n 0)) → Below w.heap.size w w' → wpList P ops Q rest (a.put o.dst (.slice (some ⟨w.heap.size, 0, none⟩) n n)) w') : wpList P ops Q (o :: rest) a w := by
  obtain ⟨i, hi, hz, hs, hb⟩ := T.hi
  refine wpList_make_full w hgd l c t hop w.heap.size e i (.int .i64 0) 1 T.ht hi hz hs kl kc L C n hl hc hL hC (by rw [hb]; omega) (by unfold maxLen; omega) (Nat.le_refl _) ?_
  intro w' ho hg
  rw [madeI] at ho
  exact h w' ho (below_grown hg (Nat.le_refl _) (fun k h => by cases h))
theorem own_setIn {w : World} {base : Nat} {e : TypeId} {g cap n : Nat} {l : List Int} (h : w.ownsRow base e 1 (.slice (some ⟨g, 0, none⟩) n cap) n (BI l)) (k : Nat) (x : Int) :
    (w.setCell ⟨g, k, none⟩ (.int .i64 x)).ownsRow base e 1 (.slice (some ⟨g, 0, none⟩) n cap) n (BI (l.set k x)) := by
  have := (h.stored k (.int .i64 x)).1
  have e : (BI l).set k (.int .i64 x) = BI (l.set k x) := by simp [BI, List.map_set]
  rwa [e] at this
/-- What Invert gives. -/
def InvP (ok : Mx → Nat → Prop) (w : World) (e : Ending) (w' : World) : Prop := ∃ B f, ok B f ∧ MxP w (B, f) e w'

set_option maxRecDepth 100000 in
set_option maxHeartbeats 2000000 in
theorem invert_no (w : World) (a : Option Addr) (c : Nat) (A : Mx) (hr : RdLL w a c A) (hno : ¬ (IsM A ∧ wid A = A.length)) :
    Calls Tryd.prog 43 #[.slice a A.length c] w (InvP (InvOk A) w) := by
  have hok : InvOk A [] 1 := .inl ⟨hno, rfl, rfl⟩
  have hA := isMatrix_any w a c A hr
  by_cases iA : IsM A
  · rw [show isMat A = true from decide_eq_true iA] at hA
    have hne : wid A ≠ A.length := fun h => hno ⟨iA, h⟩
    obtain ⟨b0, o0, ad0, cd0, rfl, hc0, hr0⟩ := hr.cell 0 (by have := iA.1; omega)
    rw [← wid_get (by have := iA.1; omega)] at hc0
    simp only [Nat.add_zero] at hc0
    have hi : ((wid A : Int) != (A.length : Int)) = true := by rw [bne_iff_ne]; omega
    have hAi : (1 : Int) ≤ (A.length : Int) := by have := iA.1; omega
    have HA := Lib.hid hA
    clear hA hne hno hr0 iA
    go_enter Tryd.func43, Tryd.ntmps43
    go_wp2_with fail
    refine HA.out.mono ?_
    rintro e w' ⟨rfl, rfl⟩
    go_wp2
    go_ret2
    exact ⟨_, _, hok, MxP.no 1 (Below.refl _ _)⟩
  · rw [isM_not iA] at hA
    have HA := Lib.hid hA
    clear hA hno iA
    go_enter Tryd.func43, Tryd.ntmps43
    go_wp2_with fail
    refine HA.out.mono ?_
    rintro e w' ⟨rfl, rfl⟩
    go_wp2
    go_ret2
    exact ⟨_, _, hok, MxP.no 1 (Below.refl _ _)⟩

set_option maxRecDepth 100000 in
set_option maxHeartbeats 4000000 in
theorem invert_yes (w : World) (a : Option Addr) (c : Nat) (A : Mx) (hr : RdLL w a c A) (iA : IsM A) (hsq : wid A = A.length) (hT : TabAt 0 Lib.deBruijn64tab w) :
    Calls Tryd.prog 43 #[.slice a A.length c] w (InvP (InvOk A) w) := by
  have hA := isMatrix_any w a c A hr
  rw [show isMat A = true from decide_eq_true iA] at hA
  obtain ⟨b0, o0, ad0, cd0, rfl, hc0, hr0⟩ := hr.cell 0 (by have := iA.1; omega)
  rw [← wid_get (by have := iA.1; omega), hsq] at hc0
  simp only [Nat.add_zero] at hc0
  obtain ⟨n, hn⟩ : ∃ n, n = A.length := ⟨_, rfl⟩
  have hd := sq_dim iA hsq
  rw [← hn] at hd
  have hn1 : 1 ≤ n := by have := iA.1; omega
  have hn64 : n ≤ 64 := by have := iA.2.1; omega
  rw [← hn] at hA hc0 ⊢
  have hi : ((n : Int) != (n : Int)) = false := by simp
  have hni : (1 : Int) ≤ (n : Int) := by omega
  have hn6 : (n : Int) ≤ 64 := by omega
  have hone := one_any w n
  rw [show oneR n = (oneL n, 0) from by unfold oneR; rw [if_neg (by omega)]; rfl] at hone
  have HA := Lib.hid hA
  have HN := Lib.hid hn
  have HONE := Lib.hid hone
  have HT := Lib.hid hT
  have HD := Lib.hid hd
  clear hA hn hone hT hd hr0
  go_enter Tryd.func43, Tryd.ntmps43
  go_wp2_with fail
  refine HA.out.mono ?_
  rintro e w' ⟨rfl, hw⟩
  have hw := hw.symm
  subst hw
  go_wp2_with fail
  refine (HONE.out).mono ?_
  rintro e w1 ⟨v1, rfl, hO1, hb1⟩
  obtain ⟨gI, cI, vI, rfl, hI1⟩ := OwnR.ofLL hO1 (by rw [(oneL_dim n).1]; omega)
  rw [(oneL_dim n).1] at hI1 ⊢
  clear HA HONE hO1 hc0 hi hni
  go_wp2_with (with_reducible refine At.slot 40 ?_)
  refine At.out (wpList_makeR rfl (.tmp 39) (.tmp 39) 22 rfl elemR .i64 .i64 (n : Int) (n : Int) n rfl rfl rfl rfl (by omega) 5 ?_)
  intro w2 hO2 hb2
  obtain ⟨G1, hG1⟩ : ∃ G, G = w1.heap.size := ⟨_, rfl⟩
  have hb2w : Below w.heap.size w w2 := hb1.trans (hb2.mono hb1.size)
  have hR2 := hO2.ownR
  rw [show List.replicate n ([] : List UInt8) = augK A 0 from by rw [HN.out, augK_start]] at hR2
  have hlt1 := hI1.lt (by omega)
  rw [← hG1] at hb2 hR2 hlt1 ⊢
  have hsz1 : w.heap.size ≤ G1 := by rw [hG1]; exact hb1.size
  have HG1 := Lib.hid hG1
  clear hO2 hG1
  go_wp2_with fail
  go_loopw [43] (fun s43 wr => ∃ (i : Nat) (vs : List Value), i ≤ n ∧ s43 = .int .i64 i ∧ OwnR wr G1 34 5 G1 n n vs (augK A i) ∧ Below G1 w1 wr) (fun s43 _ => n - (intOf s43).toNat)
  case atStart => exact ⟨0, _, by omega, rfl, hR2, hb2⟩
  case round =>
    clear hR2 hb2 hb2w
    obtain ⟨i, vs, hi, rfl, hR, hb⟩ := hrel
    by_cases hlt : i < n
    · have hii : (i : Int) < (n : Int) := by omega
      obtain ⟨b1, o1, ad1, cd1, he, hc1, hrA⟩ := (hr.kept (hb1.trans (hb.mono (HG1.out ▸ hsz1)))).cell i (by have := HN.out; omega)
      simp only [Option.some.injEq, Addr.mk.injEq, and_true] at he
      obtain ⟨rfl, rfl⟩ := he
      have hlA := HD.out.2 (A[i]'(by have := HN.out; omega)) (List.getElem_mem _)
      obtain ⟨lA, hlAe⟩ : ∃ l, l = A[i]'(by have := HN.out; omega) := ⟨_, rfl⟩
      rw [← hlAe] at hlA hrA hc1
      rw [hlA] at hc1
      obtain ⟨ad2, cd2, hc2, hrI⟩ := (hI1.kept (HG1.out ▸ hb : Below w1.heap.size w1 wr)).rd i hlt (unitL n i) (by unfold oneL; rw [List.getElem?_map, List.getElem?_range hlt]; rfl)
      rw [unitL_length] at hc2
      obtain ⟨u, hu0, hc3, hf3, hrow0⟩ := hR.at i hlt
      clear hu0 hrow0
      have hmem2 := World.block_lt_of_cell? wr _ hc2
      have hmem1 := World.block_lt_of_cell? wr _ hc1
      have hmem3 := World.block_lt_of_cell? wr _ hc3
      have hkk : ∀ V, Below wr.heap.size wr.drew V → V.cell? ⟨b0, o0 + i, none⟩ = some (.slice ad1 n cd1) ∧ V.cell? ⟨gI, i, none⟩ = some (.slice ad2 n cd2) ∧ V.cell? ⟨G1, i, none⟩ = some u ∧ V.frozen? ⟨G1, i, none⟩ = false ∧ Rd V ad2 cd2 (B8 (unitL n i)) := fun V hv0 => by
        have hv : Below wr.heap.size wr V := (Below.refl _ _).drew.trans hv0
        exact ⟨(hv.cell (p := ⟨b0, o0 + i, none⟩) hmem1).trans hc1, (hv.cell (p := ⟨gI, i, none⟩) hmem2).trans hc2, (hv.cell (p := ⟨G1, i, none⟩) hmem3).trans hc3, (hv.frozen (p := ⟨G1, i, none⟩) hmem3).trans hf3, hrI.kept hv⟩
      have HK := Lib.hid hkk
      have hdz : wr.heap.size ≤ wr.drew.heap.size := Nat.le_of_eq (by simp)
      have HLA := Lib.hid hlA
      have HLAE := Lib.hid hlAe
      clear hkk hlA hlAe hf3 hc3
      go_wp2_with fail
      go_region_law (first
        | ((with_reducible refine StepAt 52 ?_)
           (refine At.out (step_app (by rfl) (.const (.slice none 0 0)) (.tmp 51) 34 (by rfl) elemB rfl wr.heap.size (.slice none 0 0) 0 [] (by rfl) (World.ownsRow_nil _ _ _ _) ad1 n cd1 (B8 lA) (by rfl) (by rw [B8_length, HLA.out]) (hrA.kept (Below.refl _ _).drew) (B8_one _) (by unfold maxLen; omega) (by omega) (Nat.le_refl _) ?_))
           (intro v3 w3 ho3 hb3)
           (obtain ⟨d1, d2, d3, f3, r3⟩ := HK.out _ hb3))
        | ((with_reducible refine StepAt 57 ?_)
           (refine At.out (step_app (by rfl) (.tmp 52) (.tmp 56) 34 (by rfl) elemB rfl wr.heap.size v3 (0 + n) ([] ++ B8 lA) (by rfl) ho3 ad2 n cd2 (B8 (unitL n i)) (by rfl) (by rw [B8_length, unitL_length]) r3 (B8_one _) (by unfold maxLen; omega) (by omega) (by have := hb3.size; omega) ?_))
           (intro v4 w4 ho4 hb4)
           (obtain ⟨e1, e2, e3, f4, r4⟩ := HK.out _ (hb3.trans hb4))
           (obtain ⟨a4, c4, rfl, _⟩ := Rd.ofOwn ho4)))
      all_goals
        have hb5 : Below wr.heap.size wr w4 := (Below.refl _ _).drew.trans (hb3.trans hb4)
        have hz4 : G1 ≤ wr.heap.size := by omega
        simp only [Nat.zero_add] at ho4
        have hu4 : w4.ownsRow G1 5 1 (.slice a4 (n + n) c4) (n + n) (B8 (lA ++ unitL n i)) := by
          rw [B8_append]; exact own_base ho4 hz4
        have hR5 := (hR.kept hb5).put (by decide) i hlt (.slice a4 (n + n) c4) (lA ++ unitL n i) (n + n) (by rw [List.length_append, unitL_length, HLA.out]) hu4
        rw [show (augK A i).set i (lA ++ unitL n i) = augK A (i + 1) from by
          have := augK_set A i (by have := HN.out; omega)
          rw [← HLAE.out, ← HN.out] at this
          exact this] at hR5
        have hb6 := (hb.trans (hb5.mono hz4)).setCell (p := ⟨G1, i, none⟩) (Nat.le_refl _) (.slice a4 (n + n) c4)
        clear hR hb hb3 hb4 hb5 hu4 ho3 ho4 d1 d2 d3 f3 r3 e1 e2 e3 f4 r4 hrA hrI hc1 hc2
        go_wp2
        go_roundw
        case rel => exact ⟨i + 1, _, by omega, by go_num, hR5, hb6⟩
        case measure => simp [intOf]; omega
    · obtain rfl : n = i := by omega
      have hnl : ¬ (n : Int) < (n : Int) := by omega
      clear hlt
      have hlf := lf_eq n hn64
      have HLF := Lib.hid hlf
      clear hlf
      go_wp2_with (with_reducible refine At.slot 65 ?_)
      refine At.out (wpList_makeI rfl (.tmp 64) (.tmp 64) 32 rfl elemI .i64 .i64 (n : Int) (n : Int) n rfl rfl rfl rfl (by omega) ?_)
      intro w3 hTk hb3
      have hR3 := hR.kept hb3
      have hz3 : G1 ≤ wr.heap.size := by have := hb.size; have := HG1.out; omega
      have hb4 := hb.trans (hb3.mono hz3)
      have hTk := own_base hTk hz3
      obtain ⟨G2, hG2⟩ : ∃ G, G = wr.heap.size := ⟨_, rfl⟩
      rw [← hG2] at hTk hz3 ⊢
      rw [HLF.out]
      obtain ⟨lf0, hl0⟩ : ∃ l, l = 2 ^ n - 1 := ⟨_, rfl⟩
      rw [← hl0]
      have hst : St n A (augK A n) (fun _ => 0) (List.replicate n 0) lf0 0 := by rw [hl0]; exact St.start HD.out hn64
      have HST := Lib.hid hst
      have hG12 : G1 ≤ G2 := hz3
      clear hl0 HLF hst hR hb3 hb hz3 hG2 hnl
      have hbT : 0 < w.heap.size := World.block_lt_of_cell? w _ (HT.out 0 (by decide))
      go_wp2_with fail
      go_loopw [9, 67] (fun s9 s67 wr => ∃ (j lf : Nat) (vs : List Value) (W : Mx) (T : Nat → Nat) (TK : List Int), j ≤ n ∧ s67 = .int .i64 j ∧ s9 = .int .u64 (lf : Int) ∧ OwnR wr G1 34 5 G1 n n vs W ∧ wr.ownsRow G1 3 1 (.slice (some ⟨G2, 0, none⟩) n n) n (BI TK) ∧ Hid (St n A W T TK lf j) ∧ Below G1 w1 wr) (fun _ s67 _ => n - (intOf s67).toNat)
      case atStart => exact ⟨0, lf0, _, _, _, _, by omega, rfl, rfl, hR3, hTk, HST, hb4⟩
      case round =>
        clear hR3 hTk HST hb4
        obtain ⟨j, lf, vs, W, T, TK, hj, rfl, rfl, hR, hTk, HST, hb⟩ := hrel
        by_cases hlt : j < n
        · have hji : (j : Int) < (n : Int) := by omega
          go_wp2_with fail
          go_loopw [12, 13] (fun s12 s13 w' => ∃ S : Nat, s12 = .int .i64 (-1) ∧ s13 = .int .u64 (S : Int) ∧ w' = wr ∧ Hid (S < 2 ^ 64 ∧ (∀ i, S.testBit i = true → lf.testBit i = true) ∧ (∀ i, lf.testBit i = true → S.testBit i = false → ent W i j = 0))) (fun _ s13 _ => (intOf s13).toNat)
          case atStart => exact ⟨lf, rfl, rfl, rfl, Lib.hid ⟨HST.out.lt, fun i h => h, fun i h1 h2 => by rw [h1] at h2; cases h2⟩⟩
          case round =>
            obtain ⟨S, rfl, rfl, rfl, HS⟩ := hrel
            by_cases hS0 : S = 0
            · -- no row is left for this column
              subst hS0
              have hflat : Flat n (ent A) := HST.out.flat hlt (fun i hi => HS.out.2.2 i hi (Nat.zero_testBit i))
              have HF := Lib.hid hflat
              clear hflat
              have hend := hb1.trans (hb.mono (HG1.out ▸ hsz1))
              go_wp2
              go_ret2
              exact ⟨_, _, .inr ⟨iA, hsq, .inl ⟨rfl, rfl, by rw [← HN.out]; exact HF.out⟩⟩, MxP.no 18 hend⟩
            · have hS1 : ((S : Int) != 0) = true := by rw [bne_iff_ne]; omega
              obtain ⟨k, hk, hk64, hkb, hand, hless⟩ := ctz_spec S hS0 HS.out.1
              have htz := tz64_any S HS.out.1 hS0 wr (fun q hq => (hb1.trans (hb.mono (HG1.out ▸ hsz1))).cell (p := ⟨0, q, none⟩) hbT |>.trans (HT.out q hq))
              rw [hk] at htz
              have hkl := HS.out.2.1 k hkb
              have hkn := ((HST.out.left k).1 hkl).1
              have HTZ := Lib.hid htz
              clear htz hk
              go_wp2_with fail
              refine HTZ.out.mono ?_
              rintro e w' ⟨rfl, hw⟩
              have hw := hw.symm
              subst hw
              obtain ⟨lk, hlk⟩ : ∃ l, W[k]? = some l := ⟨_, List.getElem?_eq_getElem (by have := hR.len; omega)⟩
              have hlkn := HST.out.dim.2 lk (List.mem_of_getElem? hlk)
              obtain ⟨ak, ck, hck, hrk⟩ := hR.rd k hkn lk hlk
              rw [hlkn] at hck
              obtain ⟨b9, o9, rfl, hcx⟩ := hrk.cs.b8 j (by omega)
              obtain ⟨x, hx⟩ : ∃ x, x = lk[j]'(by omega) := ⟨_, rfl⟩
              rw [← hx] at hcx
              have hxe : x = ent W k j := by rw [← ent_row hlk, hx, List.getD_eq_getElem?_getD, List.getElem?_eq_getElem]; rfl
              have hj2 : (j : Int) < (n : Int) + (n : Int) := by omega
              have hki : (k : Int) < (n : Int) := by omega
              have HLK := Lib.hid hlk
              have HX := Lib.hid hxe
              clear hx hlk hlkn hxe
              by_cases hx0 : x.toNat = 0
              · have hx1 : ((x.toNat : Int) != 0) = false := by simp; omega
                have hxz : x = 0 := UInt8.toNat_inj.1 hx0
                have HXZ := Lib.hid hxz
                have HLOW := Lib.hid (and_low S hS0 HS.out.1)
                have HBIT := Lib.hid hand
                clear hx0 hxz hand
                go_wp2
                rw [HLOW.out]
                refine ⟨⟨S &&& (S - 1), rfl, rfl, trivial, Lib.hid ⟨Nat.lt_trans hless HS.out.1, fun i h => ?_, fun i h1 h2 => ?_⟩⟩, ?_⟩
                · rw [HBIT.out, Bool.and_eq_true] at h
                  exact HS.out.2.1 i h.1
                · rw [HBIT.out] at h2
                  by_cases e : i = k
                  · rw [e, ← HX.out, HXZ.out]
                  · refine HS.out.2.2 i h1 ?_
                    simpa [e] using h2
                · simp only [intOf, Int.toNat_natCast]; exact hless
              · have hx1 : ((x.toNat : Int) != 0) = true := by rw [bne_iff_ne]; omega
                have hxne : x ≠ 0 := fun e => hx0 (by rw [e]; rfl)
                have hinv := inv_some x hxne
                have HINV := Lib.hid hinv
                have HXN := Lib.hid hxne
                obtain ⟨t0, ht0⟩ : ∃ u, wr.cell? ⟨G2, j, none⟩ = some u := by
                  have h0 := hTk.cellAt j (by omega)
                  rw [List.getElem?_eq_getElem (by rw [BI_length]; have := HST.out.tkl; omega)] at h0
                  exact ⟨_, h0⟩
                have hft := hTk.frozenAt j
                have hR2 := hR.setT hTk (g' := G2) rfl (by decide) (by decide) j (.int .i64 (k : Int))
                have hTk2 := own_setIn hTk j (k : Int)
                have hb2 := hb.setCell (p := ⟨G2, j, none⟩) hG12 (.int .i64 (k : Int))
                obtain ⟨ak2, ck2, hck2, hrk2⟩ := hR2.rd k hkn lk HLK.out
                have hlkn := HST.out.dim.2 lk (List.mem_of_getElem? HLK.out)
                rw [hlkn] at hck2
                obtain ⟨b8, o8, rfl, hcx2⟩ := hrk2.cs.b8 j (by omega)
                have hxl : lk[j]'(by omega) = x := by
                  have := HX.out
                  rw [← ent_row HLK.out, List.getD_eq_getElem?_getD, List.getElem?_eq_getElem (by omega)] at this
                  exact this.symm
                rw [hxl] at hcx2
                clear hxl
                clear hx0 hxne hinv hR hTk hb hlkn
                go_wp2_with fail
                obtain ⟨V, hV⟩ : ∃ V, V = wr.setCell ⟨G2, j, none⟩ (.int .i64 (k : Int)) := ⟨_, rfl⟩
                rw [← hV] at hR2 hTk2 hb2 hck2 hcx2 hrk2 ⊢
                have HHV := Lib.hid hV
                clear hV ht0 hft hck hcx
                refine (HINV.out _).mono ?_
                rintro e V' ⟨rfl, hw⟩
                have hw := hw.symm
                subst hw
                have hlkn := HST.out.dim.2 lk (List.mem_of_getElem? HLK.out)
                have hsc := scale_any V (some ⟨b8, o8, none⟩) ck2 lk (ginv x) hrk2 (by omega)
                rw [hlkn] at hsc
                have HSC := Lib.hid hsc
                clear hsc hlkn
                go_wp2_with fail
                refine HSC.out.mono ?_
                rintro e V3 ⟨g3, rfl, ho3, hb3⟩
                have hR3 := hR2.kept hb3
                have hTk3 := own_below hTk2 hb3
                have hz3 : G1 ≤ V.heap.size := Nat.le_trans (by have := HG1.out; omega) hb2.size
                have hb3' := hb2.trans (hb3.mono hz3)
                obtain ⟨u3, hu3, hc3, hf3, hrow3⟩ := hR3.at k hkn
                clear hu3 hrow3
                have hR4 := hR3.put (by decide) k hkn (.slice (some ⟨g3, 0, none⟩) (n + n) (n + n)) (lk.map (gm · (ginv x))) (n + n) (by rw [List.length_map]; exact (HST.out.dim.2 lk (List.mem_of_getElem? HLK.out)).symm) (own_base ho3 hz3)
                have hTk4 := own_setT hTk3 hR3.outer rfl (by decide) k (.slice (some ⟨g3, 0, none⟩) (n + n) (n + n))
                have hb4 := hb3'.setCell (p := ⟨G1, k, none⟩) (Nat.le_refl _) (.slice (some ⟨g3, 0, none⟩) (n + n) (n + n))
                have hmid := Mid.start HST.out.dim hkn lk HLK.out (j := j)
                rw [← HX.out] at hmid
                have HMID := Lib.hid hmid
                clear hmid hR2 hTk2 hb2 hR3 hTk3 hb3 hb3' ho3 hck2 hrk2 hcx2
                go_wp2_with fail
                obtain ⟨V4, hV4⟩ : ∃ W, W = V3.setCell ⟨G1, k, none⟩ (.slice (some ⟨g3, 0, none⟩) (n + n) (n + n)) := ⟨_, rfl⟩
                rw [← hV4] at hR4 hTk4 hb4 ⊢
                clear hV4 hc3 hf3
                go_loopw [120] (fun s120 wr => ∃ (i : Nat) (vs : List Value) (L : Mx), i ≤ n ∧ s120 = .int .i64 i ∧ OwnR wr G1 34 5 G1 n n vs L ∧ wr.ownsRow G1 3 1 (.slice (some ⟨G2, 0, none⟩) n n) n (BI (TK.set j (k : Int))) ∧ Hid (Mid n W L k j i) ∧ Below G1 w1 wr) (fun s120 _ => n - (intOf s120).toNat)
                case atStart => exact ⟨0, _, _, by omega, rfl, hR4, hTk4, HMID, hb4⟩
                case round =>
                  clear hR4 hTk4 HMID hb4
                  obtain ⟨i, vs, L, hi, rfl, hR, hTk, HMID, hb⟩ := hrel
                  by_cases hilt : i < n
                  · have hii : (i : Int) < (n : Int) := by omega
                    have hjnn : (j : Int) < (n : Int) + (n : Int) := by omega
                    by_cases hik : i = k
                    · have hm2 := HMID.out.skip (.inl hik) (by omega) hilt
                      have HM2 := Lib.hid hm2
                      have hik2 : ((i : Int) != (k : Int)) = false := by rw [hik]; simp
                      clear hm2 hik
                      go_wp2
                      go_roundw
                      case rel => exact ⟨i + 1, _, _, by omega, by go_num, hR, hTk, HM2, hb⟩
                      case measure => simp [intOf]; omega
                    · have hik2 : ((i : Int) != (k : Int)) = true := by rw [bne_iff_ne]; omega
                      obtain ⟨li, hli⟩ : ∃ l, L[i]? = some l := ⟨_, List.getElem?_eq_getElem (by have := hR.len; omega)⟩
                      obtain ⟨lp, hlp⟩ : ∃ l, L[k]? = some l := ⟨_, List.getElem?_eq_getElem (by have := hR.len; omega)⟩
                      have hlin := HMID.out.1.2 li (List.mem_of_getElem? hli)
                      have hlpn := HMID.out.1.2 lp (List.mem_of_getElem? hlp)
                      obtain ⟨ai, ci, hci, hri⟩ := hR.rd i hilt li hli
                      obtain ⟨ap, cp, hcp, hrp⟩ := hR.rd k hkn lp hlp
                      rw [hlin] at hci
                      rw [hlpn] at hcp
                      obtain ⟨bi, oi, rfl, hcy⟩ := hri.cs.b8 j (by omega)
                      obtain ⟨y, hy⟩ : ∃ y, y = li[j]'(by omega) := ⟨_, rfl⟩
                      rw [← hy] at hcy
                      have hye : y = ent L i j := by rw [← ent_row hli, hy, List.getD_eq_getElem?_getD, List.getElem?_eq_getElem]; rfl
                      have HYE := Lib.hid hye
                      have HLI := Lib.hid hli
                      have HLP := Lib.hid hlp
                      clear hy hye hli hlp
                      by_cases hy0 : y.toNat = 0
                      · have hm2 := HMID.out.skip (.inr (by rw [← HYE.out]; exact UInt8.toNat_inj.1 hy0)) (by omega) hilt
                        have HM2 := Lib.hid hm2
                        have hy1 : ((y.toNat : Int) != 0) = false := by simp; omega
                        clear hm2 hik hlin hlpn hy0
                        go_wp2
                        go_roundw
                        case rel => exact ⟨i + 1, _, _, by omega, by go_num, hR, hTk, HM2, hb⟩
                        case measure => simp [intOf]; omega
                      · have hm2 := HMID.out.next hik hilt hkn (by omega) li lp HLI.out HLP.out y HYE.out
                        have HM2 := Lib.hid hm2
                        have hy1 : ((y.toNat : Int) != 0) = true := by rw [bne_iff_ne]; omega
                        have hmi := World.block_lt_of_cell? wr _ hci
                        have hmb := World.block_lt_of_cell? wr _ hcy
                        obtain ⟨u5, hu5, hc5, hf5, hrow5⟩ := hR.at i hilt
                        clear hu5 hrow5 hc5
                        have hkk : ∀ V, Below wr.heap.size wr.drew V → V.cell? ⟨G1, i, none⟩ = some (.slice (some ⟨bi, oi, none⟩) (n + n) ci) ∧ V.cell? ⟨G1, k, none⟩ = some (.slice ap (n + n) cp) ∧ V.cell? ⟨bi, oi + j, none⟩ = some (.int .u8 (y.toNat : Int)) ∧ V.frozen? ⟨G1, i, none⟩ = false ∧ Rd V (some ⟨bi, oi, none⟩) ci (B8 li) ∧ Rd V ap cp (B8 lp) := fun V hv0 => by
                          have hv : Below wr.heap.size wr V := (Below.refl _ _).drew.trans hv0
                          exact ⟨(hv.cell (p := ⟨G1, i, none⟩) hmi).trans hci, (hv.cell (p := ⟨G1, k, none⟩) hmi).trans hcp, (hv.cell (p := ⟨bi, oi + j, none⟩) hmb).trans hcy, (hv.frozen (p := ⟨G1, i, none⟩) hmi).trans hf5, hri.kept hv, hrp.kept hv⟩
                        have hsc5 : ∀ V, Below wr.heap.size wr.drew V → Calls Tryd.prog 39 #[.slice ap (n + n) cp, .int .u8 y.toNat] V fun e w' => ∃ g, e = .returned (.slice (some ⟨g, 0, none⟩) (n + n) (n + n)) ∧
                            w'.ownsRow V.heap.size 5 1 (.slice (some ⟨g, 0, none⟩) (n + n) (n + n)) (n + n) (B8 (lp.map (gm · y))) ∧ Below V.heap.size V w' := fun V hv => by
                          have := scale_any V ap cp lp y (hkk V hv).2.2.2.2.2 (by omega)
                          rwa [hlpn] at this
                        have hadd5 : ∀ V g, Below wr.heap.size wr.drew V → V.ownsRow wr.heap.size 5 1 (.slice (some ⟨g, 0, none⟩) (n + n) (n + n)) (n + n) (B8 (lp.map (gm · y))) → Calls Tryd.prog 38 #[.slice (some ⟨bi, oi, none⟩) (n + n) ci, .slice (some ⟨g, 0, none⟩) (n + n) (n + n)] V fun e w' => ∃ g', e = .returned (.tuple #[.slice (some ⟨g', 0, none⟩) (n + n) (n + n), .int .i64 0]) ∧
                            w'.ownsRow V.heap.size 5 1 (.slice (some ⟨g', 0, none⟩) (n + n) (n + n)) (n + n) (B8 (gadd li (lp.map (gm · y)))) ∧ Below V.heap.size V w' := fun V g hv ho => by
                          have := add_same V (some ⟨bi, oi, none⟩) (some ⟨g, 0, none⟩) ci (n + n) li (lp.map (gm · y)) (by rw [List.length_map]; omega) (hkk V hv).2.2.2.2.1 (Rd.ownS ho) (by omega)
                          rw [List.length_map, hlin, hlpn] at this
                          exact this
                        have HKK := Lib.hid hkk
                        have HSC5 := Lib.hid hsc5
                        have HADD5 := Lib.hid hadd5
                        have hdz : wr.heap.size ≤ wr.drew.heap.size := Nat.le_of_eq (by simp)
                        have hS0 : Below wr.heap.size wr.drew wr.drew := Below.refl _ _
                        clear hm2 hik hy0 hkk hsc5 hadd5 hf5 hri hrp
                        go_wp2_with fail
                        obtain ⟨d1, d2, d3, d4, d5, d6⟩ := HKK.out _ hS0
                        clear hci hcp hcy d4 d5 d6
                        go_region_law (first
                          | ((with_reducible refine StepAt 154 ?_); (refine At.out ?_); go_simp; go_at_call 39; refine (HSC5.out _ hS0).mono ?_
                             rintro e w5 ⟨g5, rfl, ho5, hb5⟩
                             (have hb5' : Below wr.heap.size wr.drew w5 := hb5.mono hdz)
                             (obtain ⟨e1, e2, e3, e4, e5, e6⟩ := HKK.out _ hb5')
                             clear e4 e5 e6)
                          | ((with_reducible refine StepAt 155 ?_); (refine At.out ?_); go_simp; go_at_call 38; refine (HADD5.out _ _ hb5' (own_base ho5 hdz)).mono ?_
                             rintro e w6 ⟨g6, rfl, ho6, hb6⟩
                             (have hb6' : Below wr.heap.size wr.drew w6 := hb5'.trans (hb6.mono (by have := hb5'.size; omega)))
                             (obtain ⟨f1, f2, f3, f4, f5, f6⟩ := HKK.out _ hb6')
                             clear f5 f6))
                        all_goals
                          have hb7 : Below wr.heap.size wr w6 := (Below.refl _ _).drew.trans hb6'
                          have hR7 := hR.kept hb7
                          have hTk7 := own_below hTk hb7
                          have hz7 : G1 ≤ wr.heap.size := by have := hb.size; have := HG1.out; omega
                          have hz5 : G1 ≤ w5.heap.size := by have := hb5'.size; omega
                          have hR8 := hR7.put (by decide) i hilt (.slice (some ⟨g6, 0, none⟩) (n + n) (n + n)) (gadd li (lp.map (gm · y))) (n + n) (by rw [gadd_length (by rw [List.length_map]; omega)]; omega) (own_base ho6 hz5)
                          have hTk8 := own_setT hTk7 hR7.outer rfl (by decide) i (.slice (some ⟨g6, 0, none⟩) (n + n) (n + n))
                          have hb8 := (hb.trans (hb7.mono hz7)).setCell (p := ⟨G1, i, none⟩) (Nat.le_refl _) (.slice (some ⟨g6, 0, none⟩) (n + n) (n + n))
                          clear hR hTk hb hb5 hb5' hb6 hb6' hb7 hR7 hTk7 ho5 ho6 d1 d2 d3 e1 e2 e3 f1 f2 f3 f4 hdz hlin hlpn
                          go_wp2
                          go_roundw
                          case rel => exact ⟨i + 1, _, _, by omega, by go_num, hR8, hTk8, HM2, hb8⟩
                          case measure => simp [intOf]; omega
                  · obtain rfl : n = i := by omega
                    have hnl : ¬ (n : Int) < (n : Int) := by omega
                    obtain ⟨lf', hl1, hl2, hl3⟩ := and_not_bit lf k HST.out.lt hk64
                    have hst' := HST.out.step hlt hkl (by rw [← HX.out]; exact HXN.out) HMID.out hl2 hl3
                    have HST2 := Lib.hid hst'
                    have HL1 := Lib.hid hl1
                    clear hl1 hl2 hl3 hst'
                    go_wp2
                    rw [HL1.out]
                    exact ⟨⟨j + 1, lf', _, _, _, _, by omega, by go_num, rfl, hR, hTk, HST2, hb⟩, by simp [intOf]; omega⟩
        · obtain rfl : n = j := by omega
          have hnl : ¬ (n : Int) < (n : Int) := by omega
          have hI2 := hI1.kept (HG1.out ▸ hb : Below w1.heap.size w1 wr)
          have hbw := hb1.trans (hb.mono (HG1.out ▸ hsz1))
          have hou : outK n W (oneL n) T 0 := ⟨oneL_dim n, fun r t hr ht => by omega⟩
          have HOU := Lib.hid hou
          have hzw : G1 ≤ wr.heap.size := by have := hb.size; have := HG1.out; omega
          clear hou hb
          go_wp2_with fail
          obtain ⟨wz, hwz⟩ : ∃ z, z = wr := ⟨_, rfl⟩
          rw [← hwz] at hI2 hbw hR hTk hzw ⊢
          clear hwz
          go_loopw [163] (fun s163 wr => ∃ (i : Nat) (vI : List Value) (LI : Mx), i ≤ n ∧ s163 = .int .i64 i ∧ OwnR wr w.heap.size 34 5 gI n cI vI LI ∧ OwnR wr G1 34 5 G1 n n vs W ∧ wr.ownsRow G1 3 1 (.slice (some ⟨G2, 0, none⟩) n n) n (BI TK) ∧ Hid (outK n W LI T i) ∧ G1 ≤ wr.heap.size ∧ Below w.heap.size w wr) (fun s163 _ => n - (intOf s163).toNat)
          case atStart => exact ⟨0, _, _, by omega, rfl, hI2, hR, hTk, HOU, hzw, hbw⟩
          case round =>
            clear hI2 hR hTk HOU hzw hbw
            obtain ⟨i, vI2, LI, hi, rfl, hI, hR, hTk, HOU, hzw, hb⟩ := hrel
            by_cases hilt : i < n
            · have hii : (i : Int) < (n : Int) := by omega
              have hTi := HST.out.gs.lt i hilt
              have htk := HST.out.tk i hilt
              have htc : wr.cell? ⟨G2, i, none⟩ = some (.int .i64 (T i : Int)) := by
                rw [hTk.cellAt i (by omega)]
                unfold BI
                rw [List.getElem?_map, htk]; rfl
              obtain ⟨p, hp⟩ : ∃ p, p = T i := ⟨_, rfl⟩
              rw [← hp] at hTi htc
              obtain ⟨lp, hlp⟩ : ∃ l, W[p]? = some l := ⟨_, List.getElem?_eq_getElem (by have := hR.len; omega)⟩
              have hlpn := HST.out.dim.2 lp (List.mem_of_getElem? hlp)
              obtain ⟨ap, cp, hcp, hrp⟩ := hR.rd p hTi lp hlp
              rw [hlpn] at hcp
              have ho2 := HOU.out.next hilt HST.out.dim lp (by rw [← hp]; exact hlp)
              have HO2 := Lib.hid ho2
              have hpi : (p : Int) < (n : Int) := by omega
              have HP := Lib.hid hp
              clear hlp ho2 htk hp
              go_wp2_with (with_reducible refine At.slot 175 ?_)
              refine At.out (wpList_pl rfl (.tmp 173) (.tmp 174) rfl elemB ap (n + n) cp (B8 lp) rfl (by rw [B8_length]; omega) hrp .i64 n rfl (by rw [B8_length]; omega) ?_)
              intro ad' hpart
              have hdl : (lp.drop n).length = n := by rw [List.length_drop]; omega
              have hrd := hpart.rd
              rw [← B8_drop] at hrd
              rw [show n + n - n = n by omega]
              clear hpart hcp htc
              go_wp2_with (with_reducible refine At.slot 176 ?_)
              refine At.out (wpList_app rfl (.const (.slice none 0 0)) (.tmp 175) 34 rfl elemB rfl wr.heap.size _ 0 [] rfl (World.ownsRow_nil _ _ _ _) ad' n (cp - n) (B8 (lp.drop n)) rfl (by rw [B8_length, hdl]) hrd (B8_one _) (by unfold maxLen; omega) (by omega) (Nat.le_refl _) ?_)
              intro v2 w2 ho2 hb2 _
              simp only [Nat.zero_add, List.nil_append] at ho2
              obtain ⟨a2, c2, rfl, _⟩ := Rd.ofOwn ho2
              have hI3 := hI.kept hb2
              have hR3 := hR.kept hb2
              have hTk3 := own_below hTk hb2
              have hb3 := hb.trans (hb2.mono hb.size)
              obtain ⟨u3, hu3, hc3, hf3, hrow3⟩ := hI3.at i hilt
              clear hu3 hrow3
              have hI4 := hI3.put (by decide) i hilt (.slice a2 n c2) (lp.drop n) n hdl.symm (own_base ho2 hb.size)
              have hR4 : OwnR (w2.setCell ⟨gI, i, none⟩ (.slice a2 n c2)) G1 34 5 G1 n n vs W := ⟨own_setFar hR3.outer hlt1.2 i _, hR3.len, fun r u l hu hl => own_setFar (hR3.row r u l hu hl) hlt1.2 i _⟩
              have hTk4 := own_setFar hTk3 hlt1.2 i (.slice a2 n c2)
              have hb4 := hb3.setCell (p := ⟨gI, i, none⟩) hlt1.1 (.slice a2 n c2)
              have hz4 : G1 ≤ (w2.setCell ⟨gI, i, none⟩ (.slice a2 n c2)).heap.size := by simp; have := hb2.size; omega
              clear hI hR hTk hb hI3 hR3 hTk3 hb3 hb2 ho2 hrd hdl hlpn
              go_wp2
              go_roundw
              case rel => exact ⟨i + 1, _, _, by omega, by go_num, hI4, hR4, hTk4, HO2, hz4, hb4⟩
              case measure => simp [intOf]; omega
            · obtain rfl : n = i := by omega
              have hnl2 : ¬ (n : Int) < (n : Int) := by omega
              have hun := HOU.out.undo HD.out hn1 HST.out.gs
              have HUN := Lib.hid hun
              clear hun
              go_wp2
              go_ret2
              refine ⟨_, _, .inr ⟨iA, hsq, .inr ⟨rfl, HUN.out⟩⟩, ?_⟩
              have := MxP.mk (w := w) (w' := wr) rfl hI.ownLL hb
              exact this
/-- matrix's Invert. -/
theorem invert_any (w : World) (a : Option Addr) (c : Nat) (A : Mx) (hr : RdLL w a c A) (hT : TabAt 0 Lib.deBruijn64tab w) :
    Calls Tryd.prog 43 #[.slice a A.length c] w (InvP (InvOk A) w) := by
  by_cases h : IsM A ∧ wid A = A.length
  · exact invert_yes w a c A hr h.1 h.2 hT
  · exact invert_no w a c A hr h
end Go.Proofs.YtmeckdgigjjjbaaDoor
