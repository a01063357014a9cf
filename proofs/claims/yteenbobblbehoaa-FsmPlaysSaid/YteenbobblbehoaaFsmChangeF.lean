/- fsm's change, frozen := false: the contract. Conditions: its own premises. -/
import Derived.Test.YteenbobblbehoaaFsmChange
namespace Go.Proofs.Yteenbobblbehoaa
open Go Go.RowKit

set_option maxRecDepth 100000 in
set_option maxHeartbeats 20000000 in
theorem changeF_any (w : World) (F : Nat → Prop) (t : Nat) (L : List Vl) (hT : TabI w F t L) (a : Option Addr) (c n : Nat) (id ep st : Int) (nodes : List Int) (hn : n = nodes.length + 3) (hr : Rd w a c (BI (id :: ep :: st :: nodes))) (hl : nodes.length ≤ 64) (hok : OkL L) :
    Calls Try.prog 49 #[ptrV t, .slice a n c, .bool false] w (AnsP w F t (changeL L id ep st nodes false)) := by
  have HT := Lib.hid hT
  have hle := hr.1
  simp only [BI_length, List.length_cons] at hle
  obtain ⟨b, o, rfl, u0⟩ := hr.cs.bi 0 (by simp)
  obtain ⟨b', o', hab, u1⟩ := hr.cs.bi 1 (by simp)
  cases hab
  obtain ⟨b', o', hab, u2⟩ := hr.cs.bi 2 (by simp)
  cases hab
  simp only [List.getElem_cons_zero, List.getElem_cons_succ, Nat.add_zero] at u0 u1 u2
  have hn0 : (0 : Int) < (n : Int) := by omega
  cases hof : ofL L id with
  | none =>
    have hX : changeL L id ep st nodes false = (([], 7), L) := by unfold changeL; rw [hof]
    rw [hX]
    have hO := of_none w F t L hT id hof
    have HO := Lib.hid hO
    clear hO hX hof hT hr hle
    unfold ptrV at HO ⊢
    go_enter Try.func49, Try.ntmps49
    go_wp2_with fail
    refine HO.out.mono ?_
    rintro e w1 ⟨rfl, hw1⟩
    have hw1 := hw1.symm
    subst hw1
    go_wp2
    go_ret2
    exact AnsP.no 7 HT.out (Below.refl _ _)
  | some V =>
    obtain ⟨i, rfl, hV, hi⟩ := ofL_some hof
    obtain ⟨ra, rc, p, r1, ⟨rb, ro, rfl, r2⟩, r3, r4, r5, r6⟩ := hT.row hV
    have hlt : i < L.length := (List.getElem?_eq_some_iff.1 hV).1
    obtain ⟨_, _, _, hLm⟩ := hT.head
    have hO := of_some w t rb ro L.length rc p i r1 r2 hlt hLm
    have HO := Lib.hid hO
    obtain ⟨an, cn, v1, v2, v3⟩ := r5
    have c1 := v1.cell 1
    have c2 := v1.cell 2
    have c3 := v1.cell 3
    have c4 := v1.cell 4
    simp only [List.getElem?_toArray, List.getElem?_cons_succ, List.getElem?_cons_zero] at c1 c2 c3 c4
    obtain ⟨X, hX⟩ : ∃ X, X = changeL L ((i : Int) + 1) ep st nodes false := ⟨_, rfl⟩
    rw [← hX]
    unfold changeL at hX
    rw [hof] at hX
    dsimp only at hX
    have HX := Lib.hid hX
    have HVL := Lib.hid hV
    have HV1 := Lib.hid v1
    have HV2 := Lib.hid v2
    have HV3 := Lib.hid v3
    have HR6 := Lib.hid r6
    have HHR := Lib.hid hr
    have HHN := Lib.hid hn
    clear hO hX hof hT hr v1 v2 v3 r6 hi r1 r2 r3 hV hLm hlt
    unfold ptrV at HO ⊢
    have hn3 : (3 : Int) ≤ (n : Int) := by omega
    have hn2 : (2 : Int) < (n : Int) := by omega
    have hn1 : (1 : Int) < (n : Int) := by omega

    have hnc : (n : Int) ≤ (c : Int) := by omega
    clear hn
    have hrn : Rd w (some ⟨b, o, none⟩) (c - 3) (BI nodes) ∨ True := .inr trivial
    clear hrn
    have hfar := nodes_far HHR.out HV1.out
    have hep1 : IntKind.i64.wrap (V.ep + 1) = V.ep + 1 := IntWalk.i64_in _ (by have := hok V (List.mem_of_getElem? HVL.out); unfold OkV at this; omega)
    have hmn : n - 3 = nodes.length := by have := HHN.out; omega
    have HM := Lib.hid hmn
    clear hok hmn
    have hrd3 : ∃ o3 c3, (c = 3 → o3 = o ∧ c3 = 0) ∧ (c ≠ 3 → o3 = o + 3 ∧ c3 = c - 3) ∧ Rd w (some ⟨b, o3, none⟩) c3 (BI nodes) := by
      by_cases hc3 : c = 3
      · refine ⟨o, 0, fun _ => ⟨rfl, rfl⟩, fun h => absurd hc3 h, ?_⟩
        obtain rfl : nodes = [] := List.eq_nil_of_length_eq_zero (by have := HHN.out; omega)
        exact ⟨by simp [BI], by unfold maxLen; omega, fun h => by simp at h, Cs.nil _ _⟩
      · refine ⟨o + 3, c - 3, fun h => absurd h hc3, fun _ => ⟨rfl, rfl⟩, ?_⟩
        refine ⟨by rw [BI_length]; have := HHN.out; omega, by have := HHR.out.2.1; omega, fun h => by simp at h, ?_⟩
        intro j u hu
        have hj : j < nodes.length := by have := (List.getElem?_eq_some_iff.1 hu).1; simpa [BI] using this
        obtain ⟨b', o', hab, u'⟩ := HHR.out.cs (j + 3) u (by simpa [BI] using hu)
        cases hab
        exact ⟨b, o + 3, rfl, by rw [show o + 3 + j = o + (j + 3) by omega]; exact u'⟩
    obtain ⟨o3, c3, ho3a, ho3b, hr3⟩ := hrd3
    have hD := fun W (hb : Below w.heap.size w W) => different_any W (some ⟨b, o3, none⟩) c3 (n - 3) nodes HM.out (hr3.kept hb)
    have hCo := fun W (hb : Below w.heap.size w W) => contains_any W (some ⟨b, o3, none⟩) c3 (n - 3) nodes HM.out (-1) (hr3.kept hb)
    have hKe := fun W (hb : Below w.heap.size w W) => keeps_any W p i V.nodes.length V an cn (HV1.out.below hb) rfl (HV2.out.1.kept hb) st (some ⟨b, o3, none⟩) c3 (n - 3) nodes HM.out (hr3.kept hb)
    have hCl := fun W (ho : Off (· = p) w W) => cloneN_any W (some ⟨b, o3, none⟩) c3 (n - 3) nodes HM.out (hr3.offB ho (fun b' o' hne e => by cases e; exact hfar (by rintro rfl; exact hne rfl))) (by omega)
    have HD := Lib.hid hD
    have HC := Lib.hid hCo
    have HKe := Lib.hid hKe
    have hCl2 : ∀ W, Off (· = p) w W → BlkV W p 65 #[.int .i64 ((i : Int) + 1), .int .i64 V.st, .int .i64 (V.ep + 1), .slice an V.nodes.length cn, .bool V.fr, .int .i64 0, .int .i64 V.key] →
        Calls Try.prog 47 #[.slice (some ⟨b, o3, none⟩) (n - 3) c3] W fun e w' => ∃ a' c' B, e = .returned (.slice a' (n - 3) c') ∧ w'.ownsRow B 3 1 (.slice a' (n - 3) c') (n - 3) (BI nodes) ∧ w.heap.size ≤ B ∧ Off (· = p) w w' ∧
          BlkV w' p 65 #[.int .i64 ((i : Int) + 1), .int .i64 V.st, .int .i64 (V.ep + 1), .slice an V.nodes.length cn, .bool V.fr, .int .i64 0, .int .i64 V.key] := by
      intro W ho hBW
      refine (hCl W ho).mono ?_
      rintro e w' ⟨a', c', rfl, ho', hb'⟩
      exact ⟨a', c', W.heap.size, rfl, ho', ho.size, ho.below hb', hBW.below hb'⟩
    have HCl2 := Lib.hid hCl2
    have HR3 := Lib.hid hr3
    have hdr : ∀ q, Below w.heap.size w (w.drewN q) := fun q => below_drewN (Below.refl _ _) q
    have HDR := Lib.hid hdr
    have HP := Lib.hid r4
    clear hD hCo hKe hCl hCl2 hr3 hfar hdr r4
    by_cases hc3 : c = 3
    case' pos =>
      obtain ⟨rfl, rfl⟩ := ho3a hc3
      clear ho3a ho3b
      subst hc3
    case' neg =>
      obtain ⟨rfl, rfl⟩ := ho3b hc3
      clear ho3a ho3b
    all_goals
      go_enter Try.func49, Try.ntmps49
      go_wp2_with fail
      refine HO.out.mono ?_
      rintro e w1 ⟨rfl, hw1⟩
      have hw1 := hw1.symm
      subst hw1
      go_upto_region 4 with (fail)
      go_quiet (fail)
      go_upto_region 5 with (fail)
      by_cases g1 : ep = V.ep
      case neg =>
        have b1 : (ep != V.ep) = true := by simpa using g1
        have hx := HX.out
        rw [if_pos (.inl g1)] at hx
        have HXX := Lib.hid hx
        clear hx g1
        go_quiet (fail)
        go_wp2
        go_ret2
        rw [HXX.out]
        exact AnsP.no 12 HT.out (by first | exact HDR.out _ | exact below_drewN (HDR.out _) _ | exact below_drewN (below_drewN (HDR.out _) _) _)
      have b1 : (ep != V.ep) = false := by simp [g1]
      by_cases g2 : V.fr = false
      case pos =>
        have hx := HX.out
        rw [if_pos (.inr ⟨by trivial, g2⟩)] at hx
        have HXX := Lib.hid hx
        clear hx
        clear g1
        go_quiet (fail)
        go_wp2
        go_ret2
        rw [HXX.out]
        exact AnsP.no 12 HT.out (by first | exact HDR.out _ | exact below_drewN (HDR.out _) _ | exact below_drewN (below_drewN (HDR.out _) _) _)
      have hvf : V.fr = true := by simpa using g2
      have hx := HX.out
      rw [if_neg (by rintro (h | h) <;> first | exact h g1 | exact g2 h.2)] at hx
      clear HX
      have HX := Lib.hid hx
      clear hx
      clear g1 g2
      go_quiet (fail)
      go_upto_region 7 with (fail)
      by_cases g3 : 2147483646 < V.ep
      case pos =>
        have hx := HX.out
        rw [if_pos g3] at hx
        have HXX := Lib.hid hx
        clear hx
        go_wp2
        go_ret2
        rw [HXX.out]
        exact AnsP.no 17 HT.out (by first | exact HDR.out _ | exact below_drewN (HDR.out _) _ | exact below_drewN (below_drewN (HDR.out _) _) _)
      have hx := HX.out
      rw [if_neg g3] at hx
      clear HX
      have HX := Lib.hid hx
      clear hx
      go_upto_region 9 with (fail)
      by_cases g4 : st < V.st
      case pos =>
        have hx := HX.out
        rw [if_pos (.inl g4)] at hx
        have HXX := Lib.hid hx
        clear hx
        go_wp2
        go_ret2
        rw [HXX.out]
        exact AnsP.no 1 HT.out (by first | exact HDR.out _ | exact below_drewN (HDR.out _) _ | exact below_drewN (below_drewN (HDR.out _) _) _)
      by_cases g5 : 2 < st
      case pos =>
        have hx := HX.out
        rw [if_pos (.inr (.inl g5))] at hx
        have HXX := Lib.hid hx
        clear hx
        go_wp2
        go_ret2
        rw [HXX.out]
        exact AnsP.no 1 HT.out (by first | exact HDR.out _ | exact below_drewN (HDR.out _) _ | exact below_drewN (below_drewN (HDR.out _) _) _)
      cases g6 : diffF nodes 0
      case false =>
        have hx := HX.out
        rw [if_pos (.inr (.inr (.inl g6)))] at hx
        have HXX := Lib.hid hx
        clear hx
        have HDD := HD.out
        rw [g6] at HDD
        have HDD := Lib.hid HDD
        clear g6
        go_wp2_with fail
        refine (HDD.out _ (by first | exact HDR.out _ | exact below_drewN (HDR.out _) _ | exact below_drewN (below_drewN (HDR.out _) _) _)).mono ?_
        rintro e w2 ⟨rfl, hw2⟩
        have hw2 := hw2.symm
        subst hw2
        go_wp2
        go_ret2
        rw [HXX.out]
        exact AnsP.no 1 HT.out (by first | exact HDR.out _ | exact below_drewN (HDR.out _) _ | exact below_drewN (below_drewN (HDR.out _) _) _)
      have HDD := HD.out
      rw [g6] at HDD
      have HDD := Lib.hid HDD
      by_cases g7 : st = 2
      case pos =>
        have b7 : (st != 2) = false := by rw [g7]; rfl
        have hx := HX.out
        rw [if_neg (by rintro (h | h | h | h) <;> first | exact g4 h | exact g5 h | exact h.1 g7 | simp [g6] at h)] at hx
        clear HX
        have HX := Lib.hid hx
        clear hx
        clear g6 g7
        go_wp2_with fail
        refine (HDD.out _ (by first | exact HDR.out _ | exact below_drewN (HDR.out _) _ | exact below_drewN (below_drewN (HDR.out _) _) _)).mono ?_
        rintro e w2 ⟨rfl, hw2⟩
        have hw2 := hw2.symm
        subst hw2
        go_upto_region 11 with (fail)
        have hx := HX.out
        rw [if_neg (by simp)] at hx
        have HXF := Lib.hid hx
        clear hx
        have f2 := HV1.out.frozen 2
        go_wp2_with fail
        refine (HCl2.out _ ((Off.ofBelow (by first | exact HDR.out _ | exact below_drewN (HDR.out _) _ | exact below_drewN (below_drewN (HDR.out _) _) _)).then (Off.setCell (F := (· = p)) (p := ⟨p, 2, none⟩) rfl _)) ((HV1.out.below (by first | exact HDR.out _ | exact below_drewN (HDR.out _) _ | exact below_drewN (below_drewN (HDR.out _) _) _)).set 2 _)).mono ?_
        rintro e w3 ⟨a3, c3', B, rfl, ho3, hsB, hO3, hB3⟩
        have k1 := hB3.cell 1
        have k2 := hB3.cell 2
        have k3 := hB3.cell 3
        have k4 := hB3.cell 4
        have e1 := hB3.frozen 1
        have e3 := hB3.frozen 3
        have e4 := hB3.frozen 4
        simp only [List.getElem?_toArray, List.getElem?_cons_succ, List.getElem?_cons_zero] at k1 k2 k3 k4
        have HB3 := Lib.hid hB3
        have HO3 := Lib.hid ho3
        clear hB3 ho3
        go_wp2
        go_ret2
        rw [HXF.out]
        refine change_end HM.out HP.out HR6.out hO3 HO3.out hsB HB3.out ?_ ?_ ?_
        · exact ((Off.setCell (F := (· = p)) (p := ⟨p, 1, none⟩) rfl _).then (Off.setCell (F := (· = p)) (p := ⟨p, 3, none⟩) rfl _)).then (Off.setCell (F := (· = p)) (p := ⟨p, 4, none⟩) rfl _)
        · exact ((HB3.out.set 1 _).set 3 _).set 4 _
        · simp [World.setCell]
      have b7 : (st != 2) = true := by simpa using g7
      cases g8 : hasF (-1) nodes
      case true =>
        have hx := HX.out
        rw [if_pos (.inr (.inr (.inr ⟨g7, g8⟩)))] at hx
        have HXX := Lib.hid hx
        clear hx
        have HCC := HC.out
        rw [g8] at HCC
        have HCC := Lib.hid HCC
        clear g8 g7 g6
        go_wp2_with fail
        refine (HDD.out _ (by first | exact HDR.out _ | exact below_drewN (HDR.out _) _ | exact below_drewN (below_drewN (HDR.out _) _) _)).mono ?_
        rintro e w2 ⟨rfl, hw2⟩
        have hw2 := hw2.symm
        subst hw2
        go_wp2_with fail
        refine (HCC.out _ (by first | exact HDR.out _ | exact below_drewN (HDR.out _) _ | exact below_drewN (below_drewN (HDR.out _) _) _)).mono ?_
        rintro e w2 ⟨rfl, hw2⟩
        have hw2 := hw2.symm
        subst hw2
        go_wp2
        go_ret2
        rw [HXX.out]
        exact AnsP.no 1 HT.out (by first | exact HDR.out _ | exact below_drewN (HDR.out _) _ | exact below_drewN (below_drewN (HDR.out _) _) _)
      have hx := HX.out
      rw [if_neg (by rintro (h | h | h | h) <;> first | exact g4 h | exact g5 h | exact absurd h.2 (by simp [g8]) | simp [g6] at h)] at hx
      clear HX
      have HX := Lib.hid hx
      clear hx
      have HCC := HC.out
      rw [g8] at HCC
      have HCC := Lib.hid HCC
      clear g8 g7 g6
      go_wp2_with fail
      refine (HDD.out _ (by first | exact HDR.out _ | exact below_drewN (HDR.out _) _ | exact below_drewN (below_drewN (HDR.out _) _) _)).mono ?_
      rintro e w2 ⟨rfl, hw2⟩
      have hw2 := hw2.symm
      subst hw2
      go_wp2_with fail
      refine (HCC.out _ (by first | exact HDR.out _ | exact below_drewN (HDR.out _) _ | exact below_drewN (below_drewN (HDR.out _) _) _)).mono ?_
      rintro e w2 ⟨rfl, hw2⟩
      have hw2 := hw2.symm
      subst hw2
      go_upto_region 11 with (fail)
      have hx := HX.out
      rw [if_neg (by simp)] at hx
      have HXF := Lib.hid hx
      clear hx
      have f2 := HV1.out.frozen 2
      go_wp2_with fail
      refine (HCl2.out _ ((Off.ofBelow (by first | exact HDR.out _ | exact below_drewN (HDR.out _) _ | exact below_drewN (below_drewN (HDR.out _) _) _)).then (Off.setCell (F := (· = p)) (p := ⟨p, 2, none⟩) rfl _)) ((HV1.out.below (by first | exact HDR.out _ | exact below_drewN (HDR.out _) _ | exact below_drewN (below_drewN (HDR.out _) _) _)).set 2 _)).mono ?_
      rintro e w3 ⟨a3, c3', B, rfl, ho3, hsB, hO3, hB3⟩
      have k1 := hB3.cell 1
      have k2 := hB3.cell 2
      have k3 := hB3.cell 3
      have k4 := hB3.cell 4
      have e1 := hB3.frozen 1
      have e3 := hB3.frozen 3
      have e4 := hB3.frozen 4
      simp only [List.getElem?_toArray, List.getElem?_cons_succ, List.getElem?_cons_zero] at k1 k2 k3 k4
      have HB3 := Lib.hid hB3
      have HO3 := Lib.hid ho3
      clear hB3 ho3
      go_wp2
      go_ret2
      rw [HXF.out]
      refine change_end HM.out HP.out HR6.out hO3 HO3.out hsB HB3.out ?_ ?_ ?_
      · exact ((Off.setCell (F := (· = p)) (p := ⟨p, 1, none⟩) rfl _).then (Off.setCell (F := (· = p)) (p := ⟨p, 3, none⟩) rfl _)).then (Off.setCell (F := (· = p)) (p := ⟨p, 4, none⟩) rfl _)
      · exact ((HB3.out.set 1 _).set 3 _).set 4 _
      · simp [World.setCell]
end Go.Proofs.Yteenbobblbehoaa
