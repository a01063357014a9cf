/- The document's Invert: the contract. Conditions: its own premises. -/
import Derived.Test.YtmeckdgigjjjbaaDoorInvL
import Derived.Test.YtmeckdgigjjjbaaDoorOwnR
import Derived.Test.YtmeckdgigjjjbaaDoorRefSc
import Derived.Test.YtmeckdgigjjjbaaDoorRefCode
import Derived.Test.YtmeckdgigjjjbaaDoorRefIs
import Derived.Deep.RegionHeld3
namespace Go.Proofs.YtmeckdgigjjjbaaDoor
open Go Go.RowKit

/-- What the document's Invert gives: rows that read. -/
def InvR (ok : Mx → Nat → Prop) (w : World) (e : Ending) (w' : World) : Prop := ∃ B f a c, ok B f ∧ e = .returned (.tuple #[.slice a B.length c, .int .i64 (f : Nat)]) ∧ RdLL w' a c B ∧ Below w.heap.size w w'
theorem RdLL.none (w : World) : RdLL w none 0 [] := ⟨[], ⟨Nat.le_refl _, by unfold maxLen; omega, fun _ => rfl, fun j u hu => by simp at hu⟩, rfl, fun i l h => by simp at h⟩
theorem InvR.no {ok : Mx → Nat → Prop} {w w' : World} (f : Nat) (h : ok [] f) (hb : Below w.heap.size w w') : InvR ok w (.returned (.tuple #[.slice none 0 0, .int .i64 (f : Nat)])) w' := ⟨[], f, none, 0, h, rfl, RdLL.none w', hb⟩

set_option maxRecDepth 100000 in
set_option maxHeartbeats 2000000 in
theorem refInvert_no (w : World) (a : Option Addr) (c : Nat) (A : Mx) (hr : RdLL w a c A) (hno : ¬ (IsM A ∧ wid A = A.length)) :
    Calls Tryd.prog 22 #[.slice a A.length c] w (InvR (InvRef A) w) := by
  have hok : InvRef A [] 1 := .inl ⟨hno, rfl, rfl⟩
  have hA := refIs_any w a c A hr
  by_cases iA : IsM A
  · rw [show isMat A = true from decide_eq_true iA] at hA
    have hne : wid A ≠ A.length := fun h => hno ⟨iA, h⟩
    obtain ⟨b0, o0, ad0, cd0, rfl, hc0, hr0⟩ := hr.cell 0 (by have := iA.1; omega)
    rw [← wid_get (by have := iA.1; omega)] at hc0
    simp only [Nat.add_zero] at hc0
    have hi : ((A.length : Int) != (wid A : Int)) = true := by rw [bne_iff_ne]; omega
    have hAi : (1 : Int) ≤ (A.length : Int) := by have := iA.1; omega
    have HA := Lib.hid hA
    clear hA hne hno hr0 iA
    go_enter Tryd.func22, Tryd.ntmps22
    go_wp2_with fail
    refine HA.out.mono ?_
    rintro e w' ⟨rfl, n, rfl⟩
    go_wp2
    go_ret2
    exact InvR.no 1 hok (below_drewN (Below.refl _ _) n)
  · rw [isM_not iA] at hA
    have HA := Lib.hid hA
    clear hA hno iA
    go_enter Tryd.func22, Tryd.ntmps22
    go_wp2_with fail
    refine HA.out.mono ?_
    rintro e w' ⟨rfl, n, rfl⟩
    go_wp2
    go_ret2
    exact InvR.no 1 hok (below_drewN (Below.refl _ _) n)

/-- x[l:], of what read so in an older world. -/
theorem wpList_plWr {P : Program} {w : World} {ops : Array Oper} {rest : List Oper} {o : Oper} {a : Act} {Q : Exit → Act → World → Prop} {t e : TypeId} {z : Value} {bytes : Nat}
    (hgd : o.guard = none) (x lo : Operand) (ho : o.op = .slice t x (some lo) none none) (T : ElemT P t e 1 z bytes)
    (ad : Option Addr) (n c : Nat) (xs : List Value) (hx : a.eval x = .slice ad n c) (hn : n = xs.length) (w0 : World) (hr : Rd w0 ad c xs)
    (kl : IntKind) (l : Nat) (hl : a.eval lo = .int kl (l : Int)) (h2 : l ≤ xs.length)
    (K : ∀ ad', Part w0 ad ad' (c - l) (xs.drop l) → wpList P ops Q rest (a.put o.dst (.slice ad' (n - l) (c - l))) w) : wpList P ops Q (o :: rest) a w := by
  refine wpList_plain hgd fun _ hK => ?_
  obtain ⟨ad', hs, hp⟩ := part_mk hr l n (by omega) (by omega)
  unfold Oper.wp execOp
  simp only [ho, hx, Option.map_some, Option.map_none, hl, Sem.run_bind, run_part_l T w ad n c kl l (by omega), Sem.run_pure, Result.andThen_ok, hs]
  rw [List.take_of_length_le (by rw [List.length_drop]; omega)] at hp
  exact hK _ _ (K ad' hp)
theorem take_snoc_at {α : Type} (l : List α) (i : Nat) (x : α) (h : l[i]? = some x) : l.take (i + 1) = l.take i ++ [x] := by
  obtain ⟨h1, h2⟩ := List.getElem?_eq_some_iff.1 h
  rw [List.take_succ_eq_append_getElem h1, h2]

set_option maxRecDepth 100000 in
set_option maxHeartbeats 8000000 in
theorem refInvert_yes (w : World) (a : Option Addr) (c : Nat) (A : Mx) (hr : RdLL w a c A) (iA : IsM A) (hsq : wid A = A.length) :
    Calls Tryd.prog 22 #[.slice a A.length c] w (InvR (InvRef A) w) := by
  have hA := refIs_any w a c A hr
  rw [show isMat A = true from decide_eq_true iA] at hA
  obtain ⟨b0, o0, ad0, cd0, rfl, hc0, hr0⟩ := hr.cell 0 (by have := iA.1; omega)
  rw [← wid_get (by have := iA.1; omega), hsq] at hc0
  simp only [Nat.add_zero] at hc0
  obtain ⟨n, hn⟩ : ∃ n, n = A.length := ⟨_, rfl⟩
  have hd := sq_dim iA hsq
  rw [← hn] at hd
  have hn1 : 1 ≤ n := by have := iA.1; omega
  have hn64 : n ≤ 64 := by have := iA.2.1; omega
  rw [← hn] at hA hc0 ⊢
  have hi : ((n : Int) != (n : Int)) = false := by simp
  have hni : (1 : Int) ≤ (n : Int) := by omega
  have hn6 : (n : Int) ≤ 64 := by omega
  have HA := Lib.hid hA
  have HN := Lib.hid hn
  have HD := Lib.hid hd
  clear hA hn hd hr0
  go_enter Tryd.func22, Tryd.ntmps22
  go_wp2_with fail
  refine HA.out.mono ?_
  rintro e w' ⟨rfl, q, rfl⟩
  have hbq : Below w.heap.size w (w.drewN q) := below_drewN (Below.refl _ _) q
  go_wp2_with fail
  have hone := refOne_any (w.drewN q) n
  rw [show oneR n = (oneL n, 0) from by unfold oneR; rw [if_neg (by omega)]; rfl] at hone
  refine hone.mono ?_
  clear hone
  rintro e w1 ⟨v1, rfl, hO1, hb1⟩
  have hb1w : Below w.heap.size w w1 := hbq.trans (hb1.mono hbq.size)
  obtain ⟨gI, cI, vI, rfl, hI1⟩ := OwnR.ofLL hO1 (by rw [(oneL_dim n).1]; omega)
  rw [(oneL_dim n).1] at hI1 ⊢
  have hlt1 := hI1.lt (by omega)
  have hsz1 := hb1w.size
  obtain ⟨G1, hG1⟩ : ∃ G, G = w1.heap.size := ⟨_, rfl⟩
  rw [← hG1] at hsz1 hlt1
  have hbs : Below G1 w1 w1 := Below.refl _ _
  have HG1 := Lib.hid hG1
  clear HA hO1 hc0 hi hni hb1 hbq hG1
  obtain ⟨AU, hAU⟩ : ∃ L, L = augK A n := ⟨_, rfl⟩
  have hAUl : AU.length = n := by rw [hAU, augK_length, ← HN.out]
  have HAU := Lib.hid hAU
  have HAUL := Lib.hid hAUl
  clear hAU hAUl
  go_wp2_with fail
  go_loopw [7, 8] (fun s7 s8 wr => ∃ i : Nat, i ≤ n ∧ s8 = .int .i64 i ∧ OwnLL wr G1 34 5 s7 (AU.take i) ∧ Below G1 w1 wr) (fun _ s8 _ => n - (intOf s8).toNat)
  case atStart => exact ⟨0, by omega, rfl, OwnLL.nil _ _ _ _, hbs⟩
  case round =>
    clear hbs
    obtain ⟨i, hi, rfl, hO, hb⟩ := hrel
    by_cases hlt : i < n
    · have hii : (i : Int) < (n : Int) := by omega
      obtain ⟨b1, o1, ad1, cd1, he, hc1, hrA⟩ := hr.cell i (by have := HN.out; omega)
      simp only [Option.some.injEq, Addr.mk.injEq, and_true] at he
      obtain ⟨rfl, rfl⟩ := he
      have hlA := HD.out.2 (A[i]'(by have := HN.out; omega)) (List.getElem_mem _)
      obtain ⟨lA, hlAe⟩ : ∃ l, l = A[i]'(by have := HN.out; omega) := ⟨_, rfl⟩
      rw [← hlAe] at hlA hrA hc1
      rw [hlA] at hc1
      obtain ⟨ad2, cd2, hc2, hrI⟩ := hI1.rd i hlt (unitL n i) (by unfold oneL; rw [List.getElem?_map, List.getElem?_range hlt]; rfl)
      rw [unitL_length] at hc2
      have hau : AU[i]? = some (lA ++ unitL n i) := by
        rw [HAU.out, hlAe]
        have hnn := HN.out
        subst hnn
        exact augK_row A i (by omega)
      have htk := take_snoc_at AU i _ hau
      have hlen : (AU.take i).length = i := by rw [List.length_take, HAUL.out]; omega
      obtain ⟨vs, hv1, hv2⟩ := hO
      rw [hlen] at hv1
      obtain ⟨a7, c7, rfl, _⟩ := Rd.ofOwn hv1
      have hmem2 := World.block_lt_of_cell? w1 _ hc2
      have hmem1 := World.block_lt_of_cell? w _ hc1
      have hz : G1 ≤ wr.heap.size := by have := hb.size; have := HG1.out; omega
      have hdz : wr.drew.heap.size = wr.heap.size := by simp
      have hkk : ∀ V, Below wr.heap.size wr.drew V → (V.cell? ⟨b0, o0 + i, none⟩ = some (.slice ad1 n cd1) ∧ V.cell? ⟨gI, i, none⟩ = some (.slice ad2 n cd2) ∧ Below G1 wr.drew V) ∧ Rd V ad1 cd1 (B8 lA) ∧ Rd V ad2 cd2 (B8 (unitL n i)) := fun V hv0 => by
        have hv2 : Below G1 wr.drew V := hv0.mono hz
        have hv1 : Below G1 w1 V := hb.drew.trans hv2
        have hvw : Below w.heap.size w V := hb1w.trans (hv1.mono hsz1)
        exact ⟨⟨(hvw.cell (p := ⟨b0, o0 + i, none⟩) hmem1).trans hc1, (hv1.cell (p := ⟨gI, i, none⟩) hlt1.2).trans hc2, hv2⟩, hrA.kept hvw, hrI.kept (HG1.out ▸ hv1 : Below w1.heap.size w1 V)⟩
      have hS0 : Below wr.heap.size wr.drew wr.drew := Below.refl _ _
      have hS0a : ∀ o, Below wr.heap.size wr.drew (wr.drew.alloc o) := fun o => hS0.alloc (Nat.le_of_eq hdz.symm) o
      have HKK := Lib.hid hkk
      have HLA := Lib.hid hlA
      have HTK := Lib.hid htk
      have HLEN := Lib.hid hlen
      have HV2 := Lib.hid hv2
      have hdz1 : wr.heap.size ≤ wr.drew.heap.size := Nat.le_of_eq hdz.symm
      have hdz2 : wr.drew.heap.size ≤ wr.heap.size := Nat.le_of_eq hdz
      clear hkk hlA htk hlen hv2 hlAe hau hc1 hc2 hrA hrI hdz
      go_wp2_with fail
      go_region_held3 (fun V => V.cell? ⟨b0, o0 + i, none⟩ = some (.slice ad1 n cd1) ∧ V.cell? ⟨gI, i, none⟩ = some (.slice ad2 n cd2) ∧ Below G1 wr.drew V)
        (first
          | exact (HKK.out _ hS0).1
          | exact (HKK.out _ (hS0a _)).1
          | exact (HKK.out _ hb4').1
          | exact (HKK.out _ hb5').1
          | exact (HKK.out _ (hb5a _)).1
          | exact ⟨d1, d2, hb6'⟩)
        (first
          | ((with_reducible refine StepAt 45 ?_)
             (refine At.out (step_app (by rfl) (.tmp 40) (.tmp 44) 34 (by rfl) elemB rfl wr.drew.heap.size _ 0 [] (by rfl) (own_empty wr.drew _) ad1 n cd1 (B8 lA) (by rfl) (by rw [B8_length, HLA.out]) (HKK.out _ (hS0a _)).2.1 (B8_one _) (by unfold maxLen; omega) (by omega) (by simp) ?_))
             (intro v4 w4 ho4 hb4)
             (have hb4' : Below wr.heap.size wr.drew w4 := (hS0a _).trans (hb4.mono hdz1)))
          | ((with_reducible refine StepAt 50 ?_)
             (refine At.out (step_app (by rfl) (.tmp 45) (.tmp 49) 34 (by rfl) elemB rfl wr.drew.heap.size v4 (0 + n) ([] ++ B8 lA) (by rfl) ho4 ad2 n cd2 (B8 (unitL n i)) (by rfl) (by rw [B8_length, unitL_length]) (HKK.out _ hb4').2.2 (B8_one _) (by unfold maxLen; omega) (by omega) (by have := hb4'.size; omega) ?_))
             (intro v5 w5 ho5 hb5)
             (simp only [Nat.zero_add, List.nil_append] at ho5)
             (have hb5' : Below wr.heap.size wr.drew w5 := hb4'.trans (hb5.mono hdz1))
             (have hb5a : ∀ o, Below wr.heap.size wr.drew (w5.alloc o) := fun o => hb5'.alloc (by have := hb5'.size; omega) o)
             (have hv5 : w5.ownsRow G1 34 1 (.slice a7 i c7) i vs := own_below (own_below hv1 (Below.refl _ _).drew) (hb5'.mono hdz1))
             (obtain ⟨a5, c5, rfl, _⟩ := Rd.ofOwn ho5))
          | ((with_reducible refine StepAt 52 ?_)
             (refine At.out (step_appG (by rfl) (.tmp 39) (.tmp 51) 22 (by rfl) elemR rfl G1 (.slice a7 i c7) i vs (by rfl) (hv5.alloc _) _ 1 1 [.slice a5 (n + n) c5] (by rfl) rfl (Rd.one w5 _ _) (by intro u hu; rw [List.mem_singleton.1 hu]; rfl) (by unfold maxLen; omega) (by omega) (by have := hb5'.size; simp; omega) ?_))
             (intro v6 w6 ho6 hb6 hg6)
             (have hb6' : Below G1 wr.drew w6 := ((hb5a _).mono hz).trans hb6)
             (have d1 : w6.cell? ⟨b0, o0 + i, none⟩ = some (.slice ad1 n cd1) := (hb6.cell (p := ⟨b0, o0 + i, none⟩) (by simp; omega)).trans (HKK.out _ (hb5a _)).1.1)
             (have d2 : w6.cell? ⟨gI, i, none⟩ = some (.slice ad2 n cd2) := (hb6.cell (p := ⟨gI, i, none⟩) hlt1.2).trans (HKK.out _ (hb5a _)).1.2.1)))
      have hrows : ∀ (r : Nat) (l : List UInt8), (AU.take i)[r]? = some l → ∃ u : Value, vs[r]? = some u ∧ (w5.alloc (.cells #[.slice a5 (n + n) c5] 34)).ownsRow G1 5 1 u l.length (B8 l) := fun r l hl => by
        obtain ⟨u, hu, ho⟩ := HV2.out r l hl
        exact ⟨u, hu, own_below (own_below ho (Below.refl _ _).drew) ((hb5a _).mono hdz2)⟩
      have hlen2 : (lA ++ unitL n i).length = n + n := by rw [List.length_append, unitL_length, HLA.out]
      have hnew : (w5.alloc (.cells #[.slice a5 (n + n) c5] 34)).ownsRow G1 5 1 (.slice a5 (n + n) c5) (lA ++ unitL n i).length (B8 (lA ++ unitL n i)) := by
        rw [hlen2, B8_append]; exact own_base (ho5.alloc _) (Nat.le_trans hz hdz1)
      have hO6 := own_app (own_len (hv5.alloc _) HLEN.out.symm) hrows hnew (by decide) (by rw [HLEN.out]; exact ho6) hg6
      rw [← HTK.out] at hO6
      have hb7 := hb.drew.trans hb6'
      clear hb hS0 hS0a hv1 ho4 hb4 hb4' ho5 hb5 hb5' hb5a hv5 ho6 hb6 hg6 hb6' d1 d2 hrows hlen2 hnew
      go_wp2
      go_roundw
      case rel => exact ⟨i + 1, by omega, by go_num, hO6, hb7⟩
      case measure => simp [intOf]; omega
    · obtain rfl : n = i := by omega
      have hnl : ¬ (n : Int) < (n : Int) := by omega
      rw [List.take_of_length_le (by rw [HAUL.out]; omega)] at hO
      obtain ⟨gW, cW, vW, rfl, hR⟩ := OwnR.ofLL hO (by rw [HAUL.out]; omega)
      rw [HAUL.out] at hR ⊢
      have hst : Rt n A AU 0 := by
        rw [HAU.out]
        exact Rt.start HD.out
      have HST := Lib.hid hst
      have hzz : G1 ≤ wr.heap.size := by have := hb.size; have := HG1.out; omega
      clear hst hO hlt
      go_wp2_with fail
      go_loopw [9] (fun s9 wr => ∃ (j : Nat) (vs : List Value) (W : Mx), j ≤ n ∧ s9 = .int .i64 j ∧ OwnR wr G1 34 5 gW n cW vs W ∧ Hid (Rt n A W j) ∧ Below G1 w1 wr) (fun s9 _ => n - (intOf s9).toNat)
      case atStart => exact ⟨0, _, _, by omega, rfl, hR, HST, hb⟩
      case round =>
        clear hR HST hb hzz
        obtain ⟨j, vs, W, hj, rfl, hR, HST, hb⟩ := hrel
        by_cases hlt : j < n
        · have hji : (j : Int) < (n : Int) := by omega
          go_wp2_with fail
          go_loopw [10] (fun s10 w' => ∃ p : Nat, j ≤ p ∧ p ≤ n ∧ s10 = .int .i64 p ∧ w' = wr ∧ Hid (∀ i, j ≤ i → i < p → ent W i j = 0)) (fun s10 _ => n - (intOf s10).toNat)
          case atStart => exact ⟨j, by omega, by omega, rfl, rfl, Lib.hid (fun i h1 h2 => by omega)⟩
          case round =>
            obtain ⟨p, hjp, hpn, rfl, rfl, HZ⟩ := hrel
            by_cases hpl : p < n
            · have hpi : (p : Int) < (n : Int) := by omega
              obtain ⟨lp, hlp⟩ : ∃ l, W[p]? = some l := ⟨_, List.getElem?_eq_getElem (by have := hR.len; omega)⟩
              have hlpn := HST.out.1.2 lp (List.mem_of_getElem? hlp)
              obtain ⟨ap, cp, hcp, hfp, hop, hrp⟩ := hR.all p hpl lp hlp
              rw [hlpn] at hcp hop
              obtain ⟨b8, o8, rfl, hcx⟩ := hrp.cs.b8 j (by omega)
              obtain ⟨x, hx⟩ : ∃ x, x = lp[j]'(by omega) := ⟨_, rfl⟩
              rw [← hx] at hcx
              have hxe : x = ent W p j := by rw [← ent_row hlp, hx, List.getD_eq_getElem?_getD, List.getElem?_eq_getElem]; rfl
              have hj2 : (j : Int) < (n : Int) + (n : Int) := by omega
              have HLP := Lib.hid hlp
              have HX := Lib.hid hxe
              clear hx hlp hxe
              by_cases hx0 : x.toNat = 0
              · have hx1 : ((x.toNat : Int) == 0) = true := by rw [beq_iff_eq]; omega
                have hxz : x = 0 := UInt8.toNat_inj.1 hx0
                have HZ2 : Hid (∀ i, j ≤ i → i < p + 1 → ent W i j = 0) := Lib.hid (fun i h1 h2 => by
                  by_cases e : i = p
                  · rw [e, ← HX.out, hxz]
                  · exact HZ.out i h1 (by omega))
                clear hx0 hxz hlpn hfp hop hrp
                go_wp2
                exact ⟨⟨p + 1, by omega, by omega, by go_num, trivial, HZ2⟩, by simp [intOf]; omega⟩
              · have hx1 : ((x.toNat : Int) == 0) = false := by rw [beq_eq_false_iff_ne]; omega
                have hxne : x ≠ 0 := fun e => hx0 (by rw [e]; rfl)
                have hpe : ((p : Int) == (n : Int)) = false := by rw [beq_eq_false_iff_ne]; omega
                obtain ⟨lc, hlc⟩ : ∃ l, W[j]? = some l := ⟨_, List.getElem?_eq_getElem (by have := hR.len; omega)⟩
                have hlcn := HST.out.1.2 lc (List.mem_of_getElem? hlc)
                obtain ⟨ac, cc, hcc, hfc, hoc, hrc⟩ := hR.all j hlt lc hlc
                rw [hlcn] at hcc hoc
                have hR1 := hR.put (by decide) p hpl (.slice ac (n + n) cc) lc (n + n) hlcn.symm hoc
                have hop1 := own_setT hop hR.outer rfl (by decide) p (.slice ac (n + n) cc)
                have hb1 := hb.setCell (p := ⟨gW, p, none⟩) (hR.lt (by omega)).1 (.slice ac (n + n) cc)
                have hsw := HST.out.swap hlt hpl hjp lp lc HLP.out hlc
                obtain ⟨V, hV⟩ : ∃ V, V = wr.setCell ⟨gW, p, none⟩ (.slice ac (n + n) cc) := ⟨_, rfl⟩
                have hrp1 : Rd (wr.setCell ⟨gW, p, none⟩ (.slice ac (n + n) cc)) (some ⟨b8, o8, none⟩) cp (B8 lp) := Rd.ownS hop1
                have hcx1 : (wr.setCell ⟨gW, p, none⟩ (.slice ac (n + n) cc)).cell? ⟨b8, o8 + j, none⟩ = some (.int .u8 (x.toNat : Int)) := by
                  obtain ⟨b', o', he, hc⟩ := hrp1.cs.b8 j (by omega)
                  simp only [Option.some.injEq, Addr.mk.injEq, and_true] at he
                  obtain ⟨rfl, rfl⟩ := he
                  rw [hc]
                  have := HX.out
                  rw [← ent_row HLP.out, List.getD_eq_getElem?_getD, List.getElem?_eq_getElem (by omega)] at this
                  rw [this]; rfl
                have HSW := Lib.hid hsw
                have HXN := Lib.hid hxne
                clear hx0 hsw hxne hlc hfc hoc hrc hop hrp hlcn
                go_wp2_with fail
                rw [← hV] at hR1 hb1 hrp1 hcx1 ⊢
                clear hV hcc hcp hfp hcx
                refine (refInv_any V x HXN.out).mono ?_
                rintro e V' ⟨rfl, hw⟩
                have hw := hw.symm
                subst hw
                have hsc := refScale_any V (some ⟨b8, o8, none⟩) cp lp (ginv x) hrp1 (by omega)
                rw [hlpn] at hsc
                have HSC := Lib.hid hsc
                clear hsc hrp1 hcx1
                go_wp2_with fail
                refine HSC.out.mono ?_
                rintro e V3 ⟨v3, rfl, ho3, hb3⟩
                obtain ⟨a3, c3, rfl, _⟩ := Rd.ofOwn ho3
                have hR3 := hR1.kept hb3
                have hz3 : G1 ≤ V.heap.size := Nat.le_trans (by have := HG1.out; omega) hb1.size
                have hb3' := hb1.trans (hb3.mono hz3)
                obtain ⟨u3, hu3, hc3, hf3, hrow3⟩ := hR3.at j hlt
                clear hu3 hrow3
                have hgW := (hR3.lt (by omega)).1
                have hR4 := hR3.put (by decide) j hlt (.slice a3 (n + n) c3) (lp.map (gm · (ginv x))) (n + n) (by rw [List.length_map]; exact hlpn.symm) (own_base ho3 hz3)
                have hb4 := hb3'.setCell (p := ⟨gW, j, none⟩) hgW (.slice a3 (n + n) c3)
                obtain ⟨hrt, hl1, he1⟩ := HSW.out
                have hmid := Mid.start hrt.1 hlt lp hl1 (j := j)
                rw [he1, ← HX.out, List.set_set] at hmid
                obtain ⟨W1, hW1⟩ : ∃ W1, W1 = (W.set p lc).set j lp := ⟨_, rfl⟩
                rw [← hW1] at hmid hrt he1
                have HMID := Lib.hid hmid
                have HRT := Lib.hid hrt
                have HE1 := Lib.hid he1
                clear hmid hrt he1 hl1 hW1 HSW hR1 hb1 hR3 hb3 hb3' ho3 hlpn
                go_wp2_with fail
                obtain ⟨V4, hV4⟩ : ∃ W, W = V3.setCell ⟨gW, j, none⟩ (.slice a3 (n + n) c3) := ⟨_, rfl⟩
                rw [← hV4] at hR4 hb4 ⊢
                clear hV4 hc3 hf3 hR hb
                go_loopw [12] (fun s12 wr => ∃ (i : Nat) (vs : List Value) (L : Mx), i ≤ n ∧ s12 = .int .i64 i ∧ OwnR wr G1 34 5 gW n cW vs L ∧ Hid (Mid n W1 L j j i) ∧ Below G1 w1 wr) (fun s12 _ => n - (intOf s12).toNat)
                case atStart => exact ⟨0, _, _, by omega, rfl, hR4, HMID, hb4⟩
                case round =>
                  clear hR4 HMID hb4
                  obtain ⟨i, vs, L, hi, rfl, hR, HMID, hb⟩ := hrel
                  by_cases hilt : i < n
                  · have hii : (i : Int) < (n : Int) := by omega
                    have hjnn : (j : Int) < (n : Int) + (n : Int) := by omega
                    by_cases hik : i = j
                    · have hm2 := HMID.out.skip (.inl hik) (by omega) hilt
                      have HM2 := Lib.hid hm2
                      have hik2 : ((i : Int) != (j : Int)) = false := by rw [hik]; simp
                      clear hm2 hik
                      go_wp2
                      go_roundw
                      case rel => exact ⟨i + 1, _, _, by omega, by go_num, hR, HM2, hb⟩
                      case measure => simp [intOf]; omega
                    · have hik2 : ((i : Int) != (j : Int)) = true := by rw [bne_iff_ne]; omega
                      obtain ⟨li, hli⟩ : ∃ l, L[i]? = some l := ⟨_, List.getElem?_eq_getElem (by have := hR.len; omega)⟩
                      obtain ⟨lq, hlq⟩ : ∃ l, L[j]? = some l := ⟨_, List.getElem?_eq_getElem (by have := hR.len; omega)⟩
                      have hlin := HMID.out.1.2 li (List.mem_of_getElem? hli)
                      have hlqn := HMID.out.1.2 lq (List.mem_of_getElem? hlq)
                      obtain ⟨ai, ci, hci, hfi, _, hri⟩ := hR.all i hilt li hli
                      obtain ⟨aq, cq, hcq, _, _, hrq⟩ := hR.all j hlt lq hlq
                      rw [hlin] at hci
                      rw [hlqn] at hcq
                      obtain ⟨bi, oi, rfl, hcy⟩ := hri.cs.b8 j (by omega)
                      obtain ⟨y, hy⟩ : ∃ y, y = li[j]'(by omega) := ⟨_, rfl⟩
                      rw [← hy] at hcy
                      have hye : y = ent L i j := by rw [← ent_row hli, hy, List.getD_eq_getElem?_getD, List.getElem?_eq_getElem]; rfl
                      have hm2 := HMID.out.next hik hilt hlt (by omega) li lq hli hlq y hye
                      have HM2 := Lib.hid hm2
                      have hmi := World.block_lt_of_cell? wr _ hci
                      have hmb := World.block_lt_of_cell? wr _ hcy
                      have hkk : ∀ V, Below wr.heap.size wr.drew V → V.cell? ⟨gW, i, none⟩ = some (.slice (some ⟨bi, oi, none⟩) (n + n) ci) ∧ V.cell? ⟨gW, j, none⟩ = some (.slice aq (n + n) cq) ∧ V.cell? ⟨bi, oi + j, none⟩ = some (.int .u8 (y.toNat : Int)) ∧ V.frozen? ⟨gW, i, none⟩ = false ∧ Rd V (some ⟨bi, oi, none⟩) ci (B8 li) ∧ Rd V aq cq (B8 lq) := fun V hv0 => by
                        have hv : Below wr.heap.size wr V := (Below.refl _ _).drew.trans hv0
                        exact ⟨(hv.cell (p := ⟨gW, i, none⟩) hmi).trans hci, (hv.cell (p := ⟨gW, j, none⟩) hmi).trans hcq, (hv.cell (p := ⟨bi, oi + j, none⟩) hmb).trans hcy, (hv.frozen (p := ⟨gW, i, none⟩) hmi).trans hfi, hri.kept hv, hrq.kept hv⟩
                      have hsc5 : ∀ V, Below wr.heap.size wr.drew V → Calls Tryd.prog 33 #[.slice aq (n + n) cq, .int .u8 y.toNat] V fun e w' => ∃ v, e = .returned v ∧
                          w'.ownsRow V.heap.size 5 1 v (n + n) (B8 (lq.map (gm · y))) ∧ Below V.heap.size V w' := fun V hv => by
                        have := refScale_any V aq cq lq y (hkk V hv).2.2.2.2.2 (by omega)
                        rwa [hlqn] at this
                      have hadd5 : ∀ V g cg, Below wr.heap.size wr.drew V → V.ownsRow wr.heap.size 5 1 (.slice g (n + n) cg) (n + n) (B8 (lq.map (gm · y))) → Calls Tryd.prog 34 #[.slice (some ⟨bi, oi, none⟩) (n + n) ci, .slice g (n + n) cg] V fun e w' => ∃ v, e = .returned v ∧
                          w'.ownsRow V.heap.size 5 1 v (n + n) (B8 (gadd li (lq.map (gm · y)))) ∧ Below V.heap.size V w' := fun V g cg hv ho => by
                        have := refAdd_any V (some ⟨bi, oi, none⟩) g ci cg li (lq.map (gm · y)) (by rw [List.length_map]; omega) (hkk V hv).2.2.2.2.1 (Rd.ownS ho) (by omega)
                        rw [List.length_map, hlin, hlqn] at this
                        exact this
                      have HKK := Lib.hid hkk
                      have HSC5 := Lib.hid hsc5
                      have HADD5 := Lib.hid hadd5
                      have hdz : wr.heap.size ≤ wr.drew.heap.size := Nat.le_of_eq (by simp)
                      have hS0 : Below wr.heap.size wr.drew wr.drew := Below.refl _ _
                      clear hm2 hik hkk hsc5 hadd5 hfi hri hrq hy hye hli hlq
                      go_wp2_with fail
                      obtain ⟨d1, d2, d3, d4, d5, d6⟩ := HKK.out _ hS0
                      clear hci hcq hcy d4 d5 d6
                      go_region_law (first
                        | ((with_reducible refine StepAt 123 ?_); (refine At.out ?_); go_simp; go_at_call 33; refine (HSC5.out _ hS0).mono ?_
                           rintro e w5 ⟨v5, rfl, ho5, hb5⟩
                           (have hb5' : Below wr.heap.size wr.drew w5 := hb5.mono hdz)
                           (obtain ⟨a5, c5, rfl, _⟩ := Rd.ofOwn ho5)
                           (obtain ⟨e1, e2, e3, e4, e5, e6⟩ := HKK.out _ hb5')
                           clear e4 e5 e6)
                        | ((with_reducible refine StepAt 124 ?_); (refine At.out ?_); go_simp; go_at_call 34; refine (HADD5.out _ _ _ hb5' (own_base ho5 hdz)).mono ?_
                           rintro e w6 ⟨v6, rfl, ho6, hb6⟩
                           (have hb6' : Below wr.heap.size wr.drew w6 := hb5'.trans (hb6.mono (by have := hb5'.size; omega)))
                           (obtain ⟨a6, c6, rfl, _⟩ := Rd.ofOwn ho6)
                           (obtain ⟨f1, f2, f3, f4, f5, f6⟩ := HKK.out _ hb6')
                           clear f5 f6))
                      all_goals
                        have hb7 : Below wr.heap.size wr w6 := (Below.refl _ _).drew.trans hb6'
                        have hR7 := hR.kept hb7
                        have hz7 : G1 ≤ wr.heap.size := by have := hb.size; have := HG1.out; omega
                        have hz5 : G1 ≤ w5.heap.size := by have := hb5'.size; omega
                        have hgW7 := (hR7.lt (by omega)).1
                        have hR8 := hR7.put (by decide) i hilt (.slice a6 (n + n) c6) (gadd li (lq.map (gm · y))) (n + n) (by rw [gadd_length (by rw [List.length_map]; omega)]; omega) (own_base ho6 hz5)
                        have hb8 := (hb.trans (hb7.mono hz7)).setCell (p := ⟨gW, i, none⟩) hgW7 (.slice a6 (n + n) c6)
                        clear hR hb hb5 hb5' hb6 hb6' hb7 hR7 ho5 ho6 d1 d2 d3 e1 e2 e3 f1 f2 f3 f4 hdz hlin hlqn
                        go_wp2
                        go_roundw
                        case rel => exact ⟨i + 1, _, _, by omega, by go_num, hR8, HM2, hb8⟩
                        case measure => simp [intOf]; omega
                  · obtain rfl : n = i := by omega
                    have hnl : ¬ (n : Int) < (n : Int) := by omega
                    have hst' := HRT.out.step hlt (by rw [HE1.out, ← HX.out]; exact HXN.out) HMID.out
                    have HST2 := Lib.hid hst'
                    clear hst'
                    go_wp2
                    exact ⟨⟨j + 1, _, _, by omega, by go_num, hR, HST2, hb⟩, by simp [intOf]; omega⟩
            · obtain rfl : n = p := by omega
              have hnl : ¬ (n : Int) < (n : Int) := by omega
              have hne : ((n : Int) == (n : Int)) = true := by simp
              have hflat : Flat n (ent A) := HST.out.flat hlt (fun i h1 h2 => HZ.out i h1 h2)
              have HF := Lib.hid hflat
              have hend := hb1w.trans (hb.mono hsz1)
              clear hflat
              go_wp2
              go_ret2
              exact InvR.no 18 (.inr ⟨iA, hsq, .inl ⟨rfl, rfl, by rw [← HN.out]; exact HF.out⟩⟩) hend
        · obtain rfl : n = j := by omega
          have hnl : ¬ (n : Int) < (n : Int) := by omega
          have hbw := hb1w.trans (hb.mono hsz1)
          obtain ⟨wz, hwz⟩ : ∃ z, z = wr := ⟨_, rfl⟩
          rw [← hwz] at hbw hR ⊢
          clear hwz hb
          obtain ⟨BZ, hBZ⟩ : ∃ B, B = wz.heap.size := ⟨_, rfl⟩
          have hbz : Below BZ wz wz := Below.refl _ _
          have HBZ := Lib.hid hBZ
          clear hBZ
          go_wp2_with fail
          go_loopw [13, 14] (fun s13 s14 wr => ∃ (i : Nat) (vs : List Value), i ≤ n ∧ s14 = .int .i64 i ∧ wr.ownsRow BZ 34 1 s13 i vs ∧ Hid (∀ r l, r < i → (outL n W)[r]? = some l → ∃ ad cd, vs[r]? = some (.slice ad l.length cd) ∧ Rd wz ad cd (B8 l)) ∧ Below BZ wz wr) (fun _ s14 _ => n - (intOf s14).toNat)
          case atStart => exact ⟨0, [], by omega, rfl, World.ownsRow_nil _ _ _ _, Lib.hid (fun r l h _ => by omega), hbz⟩
          case round =>
            clear hbz
            obtain ⟨i, vs, hi, rfl, ho, HV, hb⟩ := hrel
            have hz : BZ ≤ wr.heap.size := by have := hb.size; have := HBZ.out; omega
            by_cases hilt : i < n
            · have hii : (i : Int) < (n : Int) := by omega
              obtain ⟨lp, hlp⟩ : ∃ l, W[i]? = some l := ⟨_, List.getElem?_eq_getElem (by have := hR.len; omega)⟩
              have hlpn := HST.out.1.2 lp (List.mem_of_getElem? hlp)
              obtain ⟨ap, cp, hcp0, _, _, hrp0⟩ := hR.all i hilt lp hlp
              rw [hlpn] at hcp0
              have hmem := World.block_lt_of_cell? wz _ hcp0
              have hcp := (hb.cell (p := ⟨gW, i, none⟩) (by have := HBZ.out; omega)).trans hcp0
              have hvl : vs.length = i := by simpa using ho.1
              have hdl : (lp.drop n).length = n := by rw [List.length_drop]; omega
              have HLP := Lib.hid hlp
              obtain ⟨a13, c13, rfl, _⟩ := Rd.ofOwn ho
              clear hlp hcp0
              go_wp2_with (with_reducible refine At.slot 137 ?_)
              refine At.out (wpList_plWr rfl (.tmp 135) (.tmp 136) rfl elemB ap (n + n) cp (B8 lp) rfl (by rw [B8_length]; omega) wz hrp0 .i64 n rfl (by rw [B8_length]; omega) ?_)
              intro ad' hpart
              have hrd := hpart.rd
              rw [← B8_drop] at hrd
              rw [show n + n - n = n by omega]
              have HRD := Lib.hid hrd
              clear hpart hcp hrd hrp0
              go_wp2_with (with_reducible refine At.slot 139 ?_)
              refine At.out (wpList_app rfl (.tmp 131) (.tmp 138) 22 rfl elemR rfl BZ _ i vs rfl (ho.alloc _) _ 1 1 [.slice ad' n (cp - n)] rfl rfl (Rd.one _ _ _) (by intro u hu; rw [List.mem_singleton.1 hu]; rfl) (by unfold maxLen; omega) (by omega) (by simp; omega) ?_)
              intro v4 w4 ho4 hb4 _
              have hb5 : Below BZ wz w4 := (hb.alloc hz _).trans hb4
              have HV2 : Hid (∀ r l, r < i + 1 → (outL n W)[r]? = some l → ∃ ad cd, (vs ++ [.slice ad' n (cp - n)])[r]? = some (.slice ad l.length cd) ∧ Rd wz ad cd (B8 l)) := Lib.hid (fun r l hri hl => by
                by_cases e : r = i
                · subst e
                  have hl2 : l = lp.drop n := by
                    unfold outL at hl
                    rw [List.getElem?_map, HLP.out] at hl
                    exact (Option.some.inj hl).symm
                  subst hl2
                  refine ⟨ad', cp - n, ?_, HRD.out⟩
                  rw [List.getElem?_append_right (by omega), hvl, Nat.sub_self, hdl]; rfl
                · obtain ⟨ad, cd, h1, h2⟩ := HV.out r l (by omega) hl
                  exact ⟨ad, cd, by rw [List.getElem?_append_left (by omega)]; exact h1, h2⟩)
              clear ho hb hb4
              go_wp2
              go_roundw
              case rel => exact ⟨i + 1, _, by omega, by go_num, ho4, HV2, hb5⟩
              case measure => simp [intOf]; omega
            · obtain rfl : n = i := by omega
              have hnl2 : ¬ (n : Int) < (n : Int) := by omega
              have hok := outL_ok HST.out.1
              have hun := hok.undo HD.out hn1 HST.out.2
              have hri := hok.right HD.out hn1 HST.out.2 (fun c _ => rfl)
              have HUN := Lib.hid hun
              have HRI := Lib.hid hri
              obtain ⟨a13, c13, rfl, hrd⟩ := Rd.ofOwn ho
              have hvl : vs.length = n := by simpa using ho.1
              have hLL : RdLL wr a13 c13 (outL n W) := ⟨vs, hrd, by rw [hvl]; exact hok.1.1.symm, fun r l hl => by
                obtain ⟨ad, cd, h1, h2⟩ := HV.out r l (by have := (List.getElem?_eq_some_iff.1 hl).1; have := hok.1.1; omega) hl
                exact ⟨ad, cd, h1, h2.kept (HBZ.out ▸ hb : Below wz.heap.size wz wr)⟩⟩
              have hlen := hok.1.1
              have hend := hbw.trans (hb.mono (by have := HBZ.out; have := hbw.size; omega))
              have HLEN := Lib.hid hlen
              clear hun hri hok hlen
              go_wp2
              go_ret2
              exact ⟨outL n W, 0, a13, c13, .inr ⟨iA, hsq, .inr ⟨rfl, HUN.out, by rw [HRI.out, HN.out]⟩⟩, by rw [HLEN.out]; rfl, hLL, hend⟩
/-- The document's Invert. -/
theorem refInvert_any (w : World) (a : Option Addr) (c : Nat) (A : Mx) (hr : RdLL w a c A) :
    Calls Tryd.prog 22 #[.slice a A.length c] w (InvR (InvRef A) w) := by
  by_cases h : IsM A ∧ wid A = A.length
  · exact refInvert_yes w a c A hr h.1 h.2
  · exact refInvert_no w a c A hr h
end Go.Proofs.YtmeckdgigjjjbaaDoor
