/- FsmGrows: for every script the law returns true. Conditions: none. -/
import Derived.Test.YteenbobblbehoaaFsmGx
namespace Go.Proofs.Yteenbobblbehoaa
open Go Go.RowKit

theorem stepG {w X : World} {b o : Nat} {x0 x1 : Value} (h : Below w.heap.size w X) (hb : b < w.heap.size) (c0 : w.cell? ⟨b, o, none⟩ = some x0) (c1 : w.cell? ⟨b, o + 1, none⟩ = some x1) :
    X.cell? ⟨b, o, none⟩ = some x0 ∧ X.cell? ⟨b, o + 1, none⟩ = some x1 ∧ Below w.heap.size w X := ⟨(h.cell hb).trans c0, (h.cell hb).trans c1, h⟩
theorem elemA : ElemT Try.prog 47 48 2 (.agg #[.int .i64 0, .int .i64 0]) 16 := ⟨Try.underlying47, info_parts (by kernel_rfl)⟩

theorem pairS {w X : World} {b o : Nat} {x0 x1 : Value} (h : Below w.heap.size w X) (hb : b < w.heap.size) (c0 : w.cell? ⟨b, o, none⟩ = some x0) (c1 : w.cell? ⟨b, o + 1, none⟩ = some x1) :
    X.cell? ⟨b, o, none⟩ = some x0 ∧ X.cell? ⟨b, o + 1, none⟩ = some x1 := ⟨(h.cell hb).trans c0, (h.cell hb).trans c1⟩
theorem pairG {w w' : World} {b o : Nat} {x0 x1 : Value} {v : Value} (hv : v.ownBlock ≠ some b) (hg : w.grownBy w' v.ownBlock) (h : w.cell? ⟨b, o, none⟩ = some x0 ∧ w.cell? ⟨b, o + 1, none⟩ = some x1) (hb : b < w.heap.size) :
    w'.cell? ⟨b, o, none⟩ = some x0 ∧ w'.cell? ⟨b, o + 1, none⟩ = some x1 := by
  have hk := hg.block b hb fun e => hv e.symm
  exact ⟨(World.cell?_of_block hk).trans h.1, (World.cell?_of_block hk).trans h.2⟩
theorem pushG {w W w4 : World} {F : Nat → Prop} {t : Nat} {L : List Vl} {wa : Option Addr} {wq : Nat} {WL : List Vl} {ga a4 : Option Addr} {gc c4 gl : Nat} {g : List (Int × Int)} {k : Nat} {x y : Int} (h : GrI w W F t L wa wq WL ga gc g k) (hgl : gl = g.length) (hgv : Gv L (g ++ [(x, y)]))
    (ho : w4.ownsRow w.heap.size 48 2 (.slice a4 (gl + 1) c4) (gl + 1) (prC g ++ [.int .i64 x, .int .i64 y])) (hg : (W.drew.alloc (.cells #[.int .i64 x, .int .i64 y] 48)).grownBy w4 (Value.slice ga gl gc).ownBlock)
    (hat : (Value.slice a4 (gl + 1) c4).ownBlock = (Value.slice ga gl gc).ownBlock ∨ (Value.slice a4 (gl + 1) c4).ownBlock = some (W.drew.alloc (.cells #[.int .i64 x, .int .i64 y] 48)).heap.size) : GrI w w4 F t L wa wq WL a4 c4 (g ++ [(x, y)]) (k + 1) := by
  subst hgl
  refine GrI.push (h.kept ((Below.refl _ _).drew.alloc (Nat.le_refl _) (.cells #[.int .i64 x, .int .i64 y] 48))) ho (Off.ofGrown hg fun _ h => h) ?_ hgv
  rcases hat with e | e
  · exact .inl e
  · exact .inr ⟨_, e, Nat.le_refl _⟩

set_option maxRecDepth 100000 in
set_option maxHeartbeats 400000000 in
theorem fsmGrows_any (a : Option Addr) (c : Nat) (S : List Stp) (w : World) (hr : RdS w a c S) :
    Calls Try.prog 6 #[.slice a S.length c] w fun e w' => e = .returned (.bool true) ∧ Below w.heap.size w w' := by
  have hhv := heavy_any w a c S hr
  have hle : S.length ≤ 9223372036854775807 := by have := hr.1; have := hr.2.1; unfold maxLen at this; omega
  obtain ⟨N, hN⟩ : ∃ N, N = S.length := ⟨_, rfl⟩
  rw [← hN] at hhv hle ⊢
  have HHV := Lib.hid hhv
  have HR := Lib.hid hr
  have HN := Lib.hid hN
  clear hhv hr hN
  go_enter Try.func6, Try.ntmps6
  go_wp2_with fail
  refine HHV.out.mono ?_
  rintro e w1 ⟨hv, rfl, hq1⟩
  have hb1 : Below w.heap.size w w1 := hq1.below _
  have HB1 := Lib.hid hb1
  have hz1 : w1.heap.size = w.heap.size := hq1.size
  clear hq1 hb1
  cases hv with
  | true =>
    go_wp2_with fail
    refine (fsmKnown_any _).mono ?_
    rintro e w2 ⟨rfl, hb2⟩
    have HB2 := Lib.hid (HB1.out.trans (hb2.mono (by omega)))
    clear hb2
    go_wp2
    go_ret
    exact ⟨rfl, HB2.out⟩
  | false =>
  have H0 := Lib.hid (fun W => new_any W (fun k => k = W.heap.size) rfl)
  unfold ptrV at H0
  obtain ⟨t, ht⟩ : ∃ t, t = w1.heap.size := ⟨_, rfl⟩
  have HT := Lib.hid ht
  clear ht
  go_wp2_with fail
  refine (H0.out w1).mono ?_
  rintro e w2 ⟨rfl, hT2, hb2, hs2⟩
  rw [← HT.out] at hT2 hb2 hs2 ⊢
  have hGI : GrI w w2 (fun k => k = t) t [] none 0 [] none 0 [] 0 := by
    have e1 := HT.out
    refine ⟨⟨hT2, fun k hk => by omega, fun k hk => by omega, HB1.out.trans (hb2.mono (by omega))⟩, okV0, by simp, ⟨by simp, by unfold maxLen; omega, fun i V h => by simp at h⟩, GeL.refl _, World.ownsRow_nil _ _ _ _, fun q hq => by simp [Value.ownBlock] at hq, fun p hp => by simp at hp, by simp⟩
  have HGI := Lib.hid hGI
  clear hGI hT2 hb2 hs2 H0
  go_wp2
  go_loopw [4, 5, 6] (fun s4 s5 s6 wr => ∃ (k : Nat) (L : List Vl) (F : Nat → Prop) (wa : Option Addr) (wcap : Nat) (WL : List Vl) (ga : Option Addr) (gc : Nat) (g : List (Int × Int)), k ≤ N ∧ k ≤ 150 ∧ s6 = .int .i64 k ∧ s4 = .slice wa WL.length wcap ∧ s5 = .slice ga g.length gc ∧ Hid (GrI w wr F t L wa wcap WL ga gc g k)) (fun _ _ s6 _ => N - (intOf s6).toNat)
  case atStart => exact ⟨0, [], _, none, 0, [], none, 0, [], by omega, by omega, rfl, rfl, rfl, HGI.out⟩
  case round =>
    obtain ⟨k, L, F, wa, wcap, WL, ga, gc, g, hk, hk150, rfl, rfl, rfl, hI⟩ := hrel
    have hcases : (k < N ∧ k < 150) ∨ (¬ k < N) ∨ (k < N ∧ ¬ k < 150) := by omega
    rcases hcases with ⟨hlt, h150⟩ | hex
    case inr =>
      have HBW := Lib.hid hI.out.st.bel
      rcases hex with hx | ⟨hx, hx2⟩
      case' inl => have hki : ¬ (k : Int) < (N : Int) := by omega
      case' inr =>
        have hki : (k : Int) < (N : Int) := by omega
        have h15i : ¬ (k : Int) < 150 := by omega
      all_goals
        go_wp2_with fail
        refine (fsmKnown_any _).mono ?_
        rintro e w6 ⟨rfl, hb6⟩
        have HB6 := Lib.hid (HBW.out.trans (hb6.mono HBW.out.size))
        clear hb6
        go_wp2
        go_ret
        exact ⟨rfl, HB6.out⟩
    have hkl : k < S.length := by have := HN.out; omega
    have hki : (k : Int) < (N : Int) := by omega
    have h15i : (k : Int) < 150 := by omega
    obtain ⟨b, o, an, cn, ar, cr, rfl, h2, h3, h4, _, h6, h7, _⟩ := HR.out.2.2 k S[k] (List.getElem?_eq_getElem hkl)
    obtain ⟨stp, hstp⟩ : ∃ stp, stp = S[k] := ⟨_, rfl⟩
    rw [← hstp] at h3 h4 h6 h7
    obtain ⟨kd, hkd⟩ : ∃ kd, kd = stp.kd := ⟨_, rfl⟩
    rw [← hkd] at h3
    have hdo : ∀ W F' t', TabI W F' t' L → Below w.heap.size w W → Calls Try.prog 11 #[.pointer (some ⟨t', 0, none⟩), .int .i64 kd, .slice an stp.nums.length cn] W (AnsP W F' t' (doL L kd stp.nums)) := by
      intro W F' t' h hb
      exact do_any W F' t' L h hI.out.ok kd an cn stp.nums (h6.kept hb) h7
    have HNX := Lib.hid (fun (w' : World) (e : Ending) (h : AnsP wr.drew F t (doL L kd stp.nums) e w') => GrI.next (hI.out.kept (Below.refl _ _).drew) h)
    have hgiv := fun (h0 : (doL L 3 stp.nums).1.2 = 0) => doL_assign (l := stp.nums) hI.out.gv h0
    have hgelen := (hI.out.ge.trans (doL_ge L kd stp.nums))
    obtain ⟨X, hX⟩ : ∃ X, X = doL L kd stp.nums := ⟨_, rfl⟩
    rw [← hX] at hdo HNX hgelen
    obtain ⟨m, hm⟩ : ∃ m, m = stp.nums.length := ⟨_, rfl⟩
    rw [← hm] at h4 hdo
    have HDO := Lib.hid hdo
    have HXX := Lib.hid hX
    have HGV := Lib.hid hgiv
    have HGL := Lib.hid hgelen
    have HBW := Lib.hid hI.out.st.bel
    have HTB := Lib.hid hI.out.st.tab
    have c0 := (HBW.out.cell (p := ⟨b, o + k * 3, none⟩) h2).trans h3
    have c1 := (HBW.out.cell (p := ⟨b, o + k * 3 + 1, none⟩) h2).trans h4
    have hbl : b < wr.heap.size := by have := HBW.out.size; omega
    have hgl : g.length ≤ 150 := by have := hI.out.glen; omega
    clear hstp hkd hX hm hdo hgiv hgelen h6 h7 hI
    go_upto_region 9 with (fail)
    go_region_held3 (fun Y => Y.cell? ⟨b, o + k * 3, none⟩ = some (.int .i64 kd) ∧ Y.cell? ⟨b, o + k * 3 + 1, none⟩ = some (.slice an m cn) ∧ Below w.heap.size w Y)
      (first
        | exact stepG HBW.out.drew h2 h3 h4
        | exact stepG I3.st.bel h2 h3 h4)
      (first
        | (go_at_call 11; refine (HDO.out _ F t (HTB.out.kept (Below.refl _ _).drew) HBW.out.drew).mono ?_; intro e w3 h3'; obtain ⟨a3, c3, F3, rfl, R3, I3, A3⟩ := HNX.out w3 e h3'; clear h3'))
    have HI3 := Lib.hid I3
    have HR3 := Lib.hid R3
    have HBW3 := Lib.hid I3.st.bel
    have d0 := (HBW3.out.cell (p := ⟨b, o + k * 3, none⟩) h2).trans h3
    have d1 := (HBW3.out.cell (p := ⟨b, o + k * 3 + 1, none⟩) h2).trans h4
    obtain ⟨n3, hn3⟩ : ∃ n3, n3 = X.1.1.length := ⟨_, rfl⟩
    obtain ⟨er, her⟩ : ∃ er, er = X.1.2 := ⟨_, rfl⟩
    have hbl3 : b < w3.heap.size := by have := HBW3.out.size; omega
    rw [← hn3, ← her]
    have HN3 := Lib.hid hn3
    have HER := Lib.hid her
    clear I3 R3 c0 c1 hbl HDO HNX hn3 her
    go_upto_region 10 with (fail)
    have hvs := fun W (h : TabI W F3 t X.2) => volumes_any W F3 t X.2 h HI3.out.ok HI3.out.len
    unfold ptrV at hvs
    have HVS := Lib.hid hvs
    clear hvs
    obtain ⟨N2, hN2⟩ : ∃ N2, N2 = X.2.length := ⟨_, rfl⟩
    obtain ⟨N1, hN1⟩ : ∃ N1, N1 = WL.length := ⟨_, rfl⟩
    have hN12 : N1 ≤ N2 := by rw [hN1, hN2]; exact HGL.out.len
    have hnlt : ¬ (N2 : Int) < (N1 : Int) := by omega
    have HN2 := Lib.hid hN2
    have HN1 := Lib.hid hN1
    have hN24 : N2 ≤ 4096 := by rw [hN2]; exact HI3.out.len
    clear hN2
    obtain ⟨B, hB⟩ : ∃ B : Bool, B = (decide (er = 0) && decide (kd = 3)) := ⟨_, rfl⟩
    have HBB := Lib.hid hB
    clear hB
    go_cut [50] from 41 to 50 (fun s50 wx => s50 = .bool B ∧ w3 = wx)
    case first =>
      by_cases hB1 : er = 0
      case neg =>
        have b1 : ((er : Int) == 0) = false := by simpa using hB1
        have hBf : B = false := by rw [HBB.out]; simp [hB1]
        clear hB1
        have HBF := Lib.hid hBf
        clear hBf
        go_wp2_with fail
        go_meet
        exact ⟨congrArg Value.bool HBF.out.symm, rfl⟩
      have b1 : ((er : Int) == 0) = true := by rw [hB1]; rfl
      by_cases hB2 : kd = 3
      case neg =>
        have b2 : (kd == 3) = false := by simpa using hB2
        have hBf : B = false := by rw [HBB.out]; simp [hB2]
        clear hB1 hB2
        have HBF := Lib.hid hBf
        clear hBf
        go_wp2_with fail
        go_meet
        exact ⟨congrArg Value.bool HBF.out.symm, rfl⟩
      have b2 : (kd == 3) = true := by rw [hB2]; rfl
      have hBf : B = true := by rw [HBB.out]; simp [hB1, hB2]
      clear hB1 hB2
      have HBF := Lib.hid hBf
      clear hBf
      go_wp2_with fail
      go_meet
      exact ⟨congrArg Value.bool HBF.out.symm, rfl⟩
    case rest =>
    obtain ⟨rfl, rfl⟩ := hcut
    go_upto_if 50 with (fail)
    go_cut [5] from 51 to 81 (fun s5 wx => ∃ (gx : Option Addr) (gy : Nat) (gz : List (Int × Int)), s5 = .slice gx gz.length gy ∧ Hid (GrI w wx F3 t X.2 wa wcap WL gx gy gz (k + 1)))
    case first =>
      cases B with
      | false =>
        go_wp2_with fail
        go_meet
        exact ⟨ga, gc, g, rfl, HI3.out.more⟩
      | true =>
      have hBB := HBB.out.symm
      simp only [Bool.and_eq_true, decide_eq_true_eq] at hBB
      obtain ⟨hB1, hB2⟩ := hBB
      clear hN1
      have hx3 : X.1.2 = 0 := by rw [← HER.out]; exact hB1
      rw [hB2] at HXX
      have hgv := HGV.out (by rw [← HXX.out]; exact hx3)
      rw [← HXX.out] at hgv
      obtain ⟨x, y, r, s, rest, hxl, hfresh, hgv2⟩ := hgv
      have hr3 := HR3.out
      rw [hxl] at hr3
      have hn34 : ¬ (n3 : Int) < 4 := by have := HN3.out; rw [hxl] at this; simp at this; omega
      have hn30 : (0 : Int) < (n3 : Int) := by omega
      have hn31 : (1 : Int) < (n3 : Int) := by omega
      have hn30n : 0 < n3 := by omega
      have hn31n : 1 < n3 := by omega
      obtain ⟨bx, ox, hax, ux0⟩ := hr3.cs.bi 0 (by simp)
      obtain ⟨bx', ox', hax', ux1⟩ := hr3.cs.bi 1 (by simp)
      have hA3 := A3 bx ox hax
      subst hax
      cases hax'
      simp only [List.getElem_cons_zero, List.getElem_cons_succ, Nat.add_zero] at ux0 ux1
      have hbx : bx < w3.heap.size := by
        by_cases hb' : bx < w3.heap.size
        · exact hb'
        · unfold World.cell? at ux0
          rw [Array.getElem?_eq_none (by simpa using hb')] at ux0
          simp at ux0
      have HFR := Lib.hid hfresh
      have HG2 := Lib.hid hgv2
      obtain ⟨gl, hgl2⟩ : ∃ gl, gl = g.length := ⟨_, rfl⟩
      rw [← hgl2] at hA3
      have HA3 := Lib.hid hA3
      have HGLN := Lib.hid hgl2
      have hglm : gl ≤ 150 := by omega
      have HOWN := Lib.hid HI3.out.own
      rw [← hgl2] at HOWN ⊢
      clear hB1 hB2 hx3 hr3 hxl hfresh hgv2 hA3 A3 HXX HGV hgl2 hgl
      go_wp2
      go_loopw [9] (fun s9 wr => ∃ j : Nat, j ≤ gl ∧ s9 = .int .i64 j ∧ Hid (Qt w3 wr)) (fun s9 _ => gl - (intOf s9).toNat)
      case atStart => exact ⟨0, by omega, rfl, Qt.refl _⟩
      case round =>
        obtain ⟨j, hj, rfl, hq⟩ := hrel
        have hqb := hq.out.below w3.heap.size
        have vx0 : wr.cell? ⟨bx, ox, none⟩ = some (.int .i64 x) := (hqb.cell (p := ⟨bx, ox, none⟩) hbx).trans ux0
        have vx1 : wr.cell? ⟨bx, ox + 1, none⟩ = some (.int .i64 y) := (hqb.cell (p := ⟨bx, ox + 1, none⟩) hbx).trans ux1
        have hbxr : bx < wr.heap.size := by have := hqb.size; omega
        by_cases hjl : j < gl
        · have hji : (j : Int) < (gl : Int) := by omega
          obtain ⟨p, hp⟩ : ∃ p, g[j]? = some p := ⟨_, List.getElem?_eq_getElem (by have := HGLN.out; omega)⟩
          obtain ⟨bg, rfl, hbg, hg0, hg1⟩ := own_pr HOWN.out hp
          have vg0 := (hqb.cell (p := ⟨bg, j * 2, none⟩) hbg).trans hg0
          have vg1 := (hqb.cell (p := ⟨bg, j * 2 + 1, none⟩) hbg).trans hg1
          have hfr := HFR.out p (List.mem_of_getElem? hp)
          obtain ⟨p1, hp1⟩ : ∃ p1, p1 = p.1 := ⟨_, rfl⟩
          obtain ⟨p2, hp2⟩ : ∃ p2, p2 = p.2 := ⟨_, rfl⟩
          rw [← hp1] at vg0 hfr
          rw [← hp2] at vg1 hfr
          have hpx : ((p1 == x) && (p2 == y)) = false := by
            rw [Bool.and_eq_false_iff]
            by_cases h1 : p1 = x
            · right
              simpa using fun h2 => hfr ⟨h1, h2⟩
            · left; simpa using h1
          have qa : ∀ W, (binOp .eql 48 (.agg #[.int .i64 p1, .int .i64 p2]) (.agg #[.int .i64 x, .int .i64 y])).run Try.prog W = .ok (.bool false) W := fun W => by
            have h : (binOp .eql 48 (.agg #[.int .i64 p1, .int .i64 p2]) (.agg #[.int .i64 x, .int .i64 y])).run Try.prog W = .ok (.bool ((p1 == x) && (p2 == y))) W := eqArr p1 p2 x y W
            rw [h, hpx]
          clear hp hg0 hg1 hfr hp1 hp2
          go_wp2
          go_quiet (fail)
          go_wp2
          go_roundw
          case rel => exact ⟨j + 1, by omega, by go_num, Qt.drew hq.out _⟩
          case measure => simp [intOf]; omega
        · have hji : ¬ (j : Int) < (gl : Int) := by omega
          have hgi := HI3.out.kept (hq.out.below _)
          have HGI := Lib.hid hgi
          have HOW := Lib.hid (own_below HOWN.out hqb)
          have hww : w.heap.size ≤ wr.heap.size := hgi.st.bel.size
          clear hgi
          go_upto_region 18 with (fail)
          go_region_held3 (fun Y => Y.cell? ⟨bx, ox, none⟩ = some (.int .i64 x) ∧ Y.cell? ⟨bx, ox + 1, none⟩ = some (.int .i64 y))
            (first
              | exact pairS (Below.refl _ _).drew hbxr vx0 vx1
              | exact pairS ((Below.refl _ _).drew.alloc (Nat.le_refl _) _) hbxr vx0 vx1
              | exact hx4)
            (first
              | ((with_reducible refine StepAt 81 ?_)
                 (refine At.out (step_appH (by rfl) (.tmp 72) (.tmp 80) 47 (by rfl) elemA rfl (by decide) w.heap.size (.slice ga gl gc) gl (prC g) (by rfl) (own_below HOW.out ((Below.refl _ _).drew.alloc (Nat.le_refl _) (.cells #[.int .i64 x, .int .i64 y] 48))) ⟨wr.heap.size, 0, none⟩ 1 1 [.int .i64 x, .int .i64 y] (by rfl) rfl (cells6 wr.drew [.int .i64 x, .int .i64 y] 48) (by simp [Value.oneCell']) (by unfold maxLen; omega) (by omega) (by simp; omega) ?_))
                 (intro a4 c4 w4 ho4 hb4 hg4 hat4)
                 (have hx4 := pairG HA3.out hg4 (pairS ((Below.refl wr.heap.size wr).drew.alloc (Nat.le_refl _) (.cells #[.int .i64 x, .int .i64 y] 48)) hbxr vx0 vx1) (by simp; omega))))
          have hfin := pushG HGI.out HGLN.out HG2.out ho4 hg4 hat4
          have HFIN := Lib.hid hfin
          clear hfin ho4 hb4 hg4 hat4 hx4
          go_wp2_with fail
          go_meet
          exact ⟨a4, c4, g ++ [(x, y)], by rw [List.length_append, ← HGLN.out]; rfl, HFIN.out⟩
    case rest =>
      obtain ⟨ga', gc', g', rfl, HQ⟩ := hcut
      have d0' := trivial
      rw [← hN1]
      clear hN1
      go_wp2_with fail
      refine (HVS.out _ HQ.out.st.tab).mono ?_
      rintro e w8 ⟨v8, xs8, rfl, ho8, hR8, hb8⟩
      obtain ⟨a8, c8, rfl, hV8⟩ := VlsB.ofOwn (F := Hs F3 (.slice ga' g'.length gc')) ho8 hR8 (fun q hq => hq.elim (HQ.out.st.lt q) fun h => (HQ.out.own.lt q h).2)
      have HQ8 := Lib.hid (HQ.out.kept hb8)
      have HV8 := Lib.hid hV8
      rw [← HN2.out]
      clear ho8 hR8 hb8 hV8
      go_wp2
      go_loopw [11] (fun s11 wr => ∃ j : Nat, j ≤ N1 ∧ s11 = .int .i64 j ∧ Hid (Qt w8 wr)) (fun s11 _ => N1 - (intOf s11).toNat)
      case atStart => exact ⟨0, by omega, rfl, Qt.refl _⟩
      case round =>
        obtain ⟨j, hj, rfl, hq⟩ := hrel
        by_cases hjl : j < N1
        · have hji : (j : Int) < (N1 : Int) := by omega
          have hjj : (j : Int) < (N2 : Int) := by omega
          have hj0 : j < WL.length := by have := HN1.out; omega
          obtain ⟨V, hVd⟩ : ∃ V, V = WL[j] := ⟨_, rfl⟩
          have hV : WL[j]? = some V := by rw [hVd]; exact List.getElem?_eq_getElem hj0
          obtain ⟨U, hU, gep, gst, gsh, _⟩ := HQ8.out.ge j V hV
          have hvl := HV8.out.reads.kept (hq.out.below _)
          have hwl := HQ8.out.vls.reads.kept (hq.out.below _)
          obtain ⟨b8, o8, n8, k8, rfl, e8, _⟩ := hvl.2.2 j U hU
          obtain ⟨b9, o9, n9, k9, rfl, e9, _⟩ := hwl.2.2 j V hV
          have x0 := e8 0 (by omega)
          have x1 := e8 1 (by omega)
          have x2 := e8 2 (by omega)
          have y0 := e9 0 (by omega)
          have y1 := e9 1 (by omega)
          have y2 := e9 2 (by omega)
          simp only [volC, List.getElem?_toArray, List.getElem?_cons_succ, List.getElem?_cons_zero, Nat.add_zero] at x0 x1 x2 y0 y1 y2
          obtain ⟨I, hI⟩ : ∃ I : Int, I = ((0 + j : Nat) : Int) + 1 := ⟨_, rfl⟩
          rw [← hI] at x0 y0
          obtain ⟨ue, hue⟩ : ∃ ue, ue = U.ep := ⟨_, rfl⟩
          obtain ⟨ve, hve⟩ : ∃ ve, ve = V.ep := ⟨_, rfl⟩
          obtain ⟨us, hus⟩ : ∃ us, us = U.st := ⟨_, rfl⟩
          obtain ⟨vs, hvs⟩ : ∃ vs, vs = V.st := ⟨_, rfl⟩
          rw [← hue] at x2 gep
          rw [← hve] at y2 gep
          rw [← hus] at x1 gst
          rw [← hvs] at y1 gst
          have z0 : (I != I) = false := by simp
          have z1 : ¬ ue < ve := by omega
          have z2 : ¬ us < vs := by omega
          have hcv := hvl.1
          have hcw := hwl.1
          have hc8 : j + 1 ≤ c8 := by have := HN2.out; omega
          have hc9 : j + 1 ≤ wcap := by have := HN1.out; omega
          by_cases heq : ue = ve
          · have z3 : (ue == ve) = true := by simp [heq]
            have HVQ := Lib.hid (fun n => vols_quiet wr n _ _ _ _ _ U V (hvl.one hU) (hwl.one hV) (gsh (by rw [← hue, ← hve]; exact heq.symm)).symm)
            have hw1 : IntKind.i64.wrap ((j : Int) + 1) = (j : Int) + 1 := IntWalk.i64_in _ (by omega)
            have hi8 : (j : Int) + 1 ≤ (c8 : Int) := by omega
            have hi9 : (j : Int) + 1 ≤ (wcap : Int) := by omega
            have hne8 : ¬ c8 = j := by omega
            have hne9 : ¬ wcap = j := by omega
            have hp0 : (0 : Int) ≤ (j : Int) := by omega
            have hp1 : (0 : Int) ≤ (j : Int) + 1 := by omega
            have hp2 : (j : Int) ≤ (j : Int) + 1 := by omega
            have htn : ((j : Int) + 1).toNat = j + 1 := by omega
            clear gsh hI hue hve hus hvs e8 e9 hvl hwl hU hV hVd heq hcv hcw gep gst
            (try clear HR); (try clear HN); (try clear HB1); (try clear HT); (try clear HXX); (try clear HGV); (try clear HGL); (try clear HBW); (try clear HTB); (try clear HI3); (try clear HR3); (try clear HBW3); (try clear HVS); (try clear HN2); (try clear HN1); (try clear HN3); (try clear HER); (try clear A3); (try clear HQ); (try clear HQ8); (try clear HV8); (try clear HBB); (try clear d0); (try clear d1); (try clear h2); (try clear h3); (try clear h4); (try clear hgl); (try clear hbl3); (try clear hnlt); (try clear hN12); (try clear hN24); (try clear hk150); (try clear hk); (try clear hle); (try clear HOK); (try clear c0); (try clear c1); (try clear h15i); (try clear hki); (try clear h150); (try clear hlt); (try clear hkl); (try clear hj0); (try clear hc8); (try clear hc9)
            go_wp2
            have z1' : ¬ ue < ve := by omega
            have z2' : ¬ us < vs := by omega
            go_quiet ((go_at_call 16; exact HVQ.out _))
            go_wp2
            go_roundw
            case rel => exact ⟨j + 1, by omega, by go_num, Qt.drew hq.out _⟩
            case measure => simp [intOf]; omega
          · have z3 : (ue == ve) = false := by simpa using heq
            have hw1 : IntKind.i64.wrap ((j : Int) + 1) = (j : Int) + 1 := IntWalk.i64_in _ (by omega)
            clear gsh hI hue hve hus hvs e8 e9 hvl hwl hU hV hVd heq hcv hcw gep gst
            (try clear HR); (try clear HN); (try clear HB1); (try clear HT); (try clear HXX); (try clear HGV); (try clear HGL); (try clear HBW); (try clear HTB); (try clear HI3); (try clear HR3); (try clear HBW3); (try clear HVS); (try clear HN2); (try clear HN1); (try clear HN3); (try clear HER); (try clear A3); (try clear HQ); (try clear HQ8); (try clear HV8); (try clear HBB); (try clear d0); (try clear d1); (try clear h2); (try clear h3); (try clear h4); (try clear hgl); (try clear hbl3); (try clear hnlt); (try clear hN12); (try clear hN24); (try clear hk150); (try clear hk); (try clear hle); (try clear HOK); (try clear c0); (try clear c1); (try clear h15i); (try clear hki); (try clear h150); (try clear hlt); (try clear hkl); (try clear hj0); (try clear hc8); (try clear hc9)
            go_wp2
            have z1' : ¬ ue < ve := by omega
            have z2' : ¬ us < vs := by omega
            go_quiet (fail)
            go_wp2
            go_roundw
            case rel => exact ⟨j + 1, by omega, by go_num, Qt.drew hq.out _⟩
            case measure => simp [intOf]; omega
        · have hji : ¬ (j : Int) < (N1 : Int) := by omega
          have hfin : GrI w wr F3 t X.2 a8 c8 X.2 ga' gc' g' (k + 1) := by
            have h := HQ8.out.kept (hq.out.below _)
            refine ⟨h.st, h.ok, h.len, ?_, GeL.refl _, h.own, h.far, h.gv, h.glen⟩
            exact HV8.out.kept (hq.out.below _)
          have HF := Lib.hid hfin
          clear hfin
          go_wp2
          go_roundw
          case rel => exact ⟨k + 1, X.2, F3, a8, c8, X.2, ga', gc', g', by omega, by omega, by go_num, by rw [HN2.out], rfl, HF⟩
          case measure => simp [intOf]; omega
end Go.Proofs.Yteenbobblbehoaa
