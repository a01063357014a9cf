/- fsm's assign: the contract. Conditions: its own premises. -/
import Derived.Test.YteenbobblbehoaaFsmLook
namespace Go.Proofs.Yteenbobblbehoaa
open Go Go.RowKit

theorem rowS2 {w V : World} {p : Nat} {x0 x1 x2 x3 x4 x6 y : Value} {b o : Nat} (h : Below w.heap.size w V) (hb : b < w.heap.size) (cy : w.cell? ⟨b, o, none⟩ = some y) (hp : p < w.heap.size) (c0 : w.cell? ⟨p, 0, none⟩ = some x0) (c1 : w.cell? ⟨p, 1, none⟩ = some x1) (c2 : w.cell? ⟨p, 2, none⟩ = some x2) (c3 : w.cell? ⟨p, 3, none⟩ = some x3) (c4 : w.cell? ⟨p, 4, none⟩ = some x4) (c6 : w.cell? ⟨p, 6, none⟩ = some x6) :
    V.cell? ⟨b, o, none⟩ = some y ∧ V.cell? ⟨p, 0, none⟩ = some x0 ∧ V.cell? ⟨p, 1, none⟩ = some x1 ∧ V.cell? ⟨p, 2, none⟩ = some x2 ∧ V.cell? ⟨p, 3, none⟩ = some x3 ∧ V.cell? ⟨p, 4, none⟩ = some x4 ∧ V.cell? ⟨p, 6, none⟩ = some x6 ∧ Below w.heap.size w V :=
  ⟨(h.cell hb).trans cy, rowS h hp c0 c1 c2 c3 c4 c6⟩

set_option maxRecDepth 100000 in
set_option maxHeartbeats 4000000 in
theorem assign_any (w : World) (F : Nat → Prop) (t : Nat) (L : List Vl) (hT : TabI w F t L) (a : Option Addr) (c : Nat) (id salt : Int) (htr : TRd w 3 a c (BI [id, salt])) (hok : OkL L) :
    Calls Try.prog 24 #[ptrV t, .slice a 2 c] w (AnsP w F t (assignL L id salt)) := by
  have HT := Lib.hid hT
  have hr := htr.1
  have hle := hr.1
  simp only [BI_length, List.length_cons, List.length_nil] at hle
  obtain ⟨b, o, rfl, u0⟩ := hr.cs.bi 0 (by simp)
  obtain ⟨b', o', hab, u1⟩ := hr.cs.bi 1 (by simp)
  cases hab
  simp only [List.getElem_cons_zero, List.getElem_cons_succ, Nat.add_zero] at u0 u1
  have hty := htr.2 b o (by simp [BI]) rfl
  have hbl : b < w.heap.size := by obtain ⟨cs, fr, hh⟩ := hty; exact (Array.getElem?_eq_some_iff.1 hh).1
  clear htr
  cases hof : ofL L id with
  | none =>
    have hX : assignL L id salt = (([], 7), L) := by unfold assignL; rw [hof]
    rw [hX]
    have hO := of_none w F t L hT id hof
    have HO := Lib.hid hO
    clear hO hX hof hT hr hle hty
    unfold ptrV at HO ⊢
    go_enter Try.func24, Try.ntmps24
    go_wp2_with fail
    refine HO.out.mono ?_
    rintro e w1 ⟨rfl, hw1⟩
    have hw1 := hw1.symm
    subst hw1
    go_wp2
    go_ret2
    exact AnsP.no 7 HT.out (Below.refl _ _)
  | some V' =>
    obtain ⟨i, rfl, hV, hi⟩ := ofL_some hof
    obtain ⟨ra, rc, p, r1, ⟨rb, ro, rfl, r2⟩, r3, r4, r5, r6⟩ := hT.row hV
    have hlt : i < L.length := (List.getElem?_eq_some_iff.1 hV).1
    obtain ⟨_, _, _, hLm⟩ := hT.head
    have hO := of_some w t rb ro L.length rc p i r1 r2 hlt hLm
    have HO := Lib.hid hO
    obtain ⟨an, cn, v1, v2, v3⟩ := r5
    obtain ⟨X, hX⟩ : ∃ X, X = assignL L ((i : Int) + 1) salt := ⟨_, rfl⟩
    rw [← hX]
    unfold assignL at hX
    rw [hof] at hX
    dsimp only at hX
    have HX := Lib.hid hX
    have hkey : 1 ≤ V'.key ∧ V'.key ≤ 1099511627777 := by have := hok V' (List.mem_of_getElem? hV); unfold OkV at this; omega
    have hml : V'.nodes.length ≤ 64 := by have := hok V' (List.mem_of_getElem? hV); unfold OkV at this; omega
    obtain ⟨m, hm⟩ : ∃ m, m = V'.nodes.length := ⟨_, rfl⟩
    rw [← hm] at v1 hml
    have c0 := v1.cell 0
    have c1 := v1.cell 1
    have c2 := v1.cell 2
    have c3 := v1.cell 3
    have c4 := v1.cell 4
    have c6 := v1.cell 6
    simp only [List.getElem?_toArray, List.getElem?_cons_succ, List.getElem?_cons_zero] at c0 c1 c2 c3 c4 c6
    have hpl : p < w.heap.size := v1.lt
    have hbp : b ≠ p := by
      obtain ⟨cs, fr, hh⟩ := hty
      rintro rfl
      exact v1.type (show 65 ≠ 3 by decide) _ cs fr rfl hh
    clear hty
    have HV1 := Lib.hid v1
    have HV2T := Lib.hid v2
    have HV3 := Lib.hid v3
    have HM := Lib.hid hm
    have HR6 := Lib.hid r6
    have HP := Lib.hid r4
    clear hX
    clear hO hof hT hr v1 v2 v3 r6 hi r1 r2 r3 r4 hV hLm hlt hm hle hok
    unfold ptrV at HO ⊢
    by_cases g1 : V'.st = 0
    case neg =>
      have b1 : (V'.st != 0) = true := by simpa using g1
      have hx := HX.out
      rw [if_pos g1] at hx
      have HXX := Lib.hid hx
      clear hx g1
      go_enter Try.func24, Try.ntmps24
      go_wp2_with fail
      refine HO.out.mono ?_
      rintro e w1 ⟨rfl, hw1⟩
      have hw1 := hw1.symm
      subst hw1
      go_wp2
      go_ret2
      rw [HXX.out]
      exact AnsP.no 11 HT.out (Below.refl _ _)
    have b1 : (V'.st != 0) = false := by simpa using g1
    have hx := HX.out
    rw [if_neg (fun h => h g1)] at hx
    clear HX g1
    cases g2 : V'.fr
    case true =>
      rw [if_pos g2] at hx
      have HXX := Lib.hid hx
      clear hx
      go_enter Try.func24, Try.ntmps24
      go_wp2_with fail
      refine HO.out.mono ?_
      rintro e w1 ⟨rfl, hw1⟩
      have hw1 := hw1.symm
      subst hw1
      go_wp2
      go_ret2
      rw [HXX.out]
      exact AnsP.no 12 HT.out (Below.refl _ _)
    rw [if_neg (by simp [g2])] at hx
    by_cases g3 : 1099511627776 < V'.key
    case pos =>
      rw [if_pos g3] at hx
      have HXX := Lib.hid hx
      clear hx
      go_enter Try.func24, Try.ntmps24
      go_wp2_with fail
      refine HO.out.mono ?_
      rintro e w1 ⟨rfl, hw1⟩
      have hw1 := hw1.symm
      subst hw1
      go_wp2
      go_ret2
      rw [HXX.out]
      exact AnsP.no 17 HT.out (Below.refl _ _)
    rw [if_neg g3] at hx
    have HXX := Lib.hid hx
    have hk1 : IntKind.i64.wrap (V'.key + 1) = V'.key + 1 := IntWalk.i64_in _ (by omega)
    have f6 := HV1.out.frozen 6
    obtain ⟨W1, hW1⟩ : ∃ W1, W1 = w.setCell ⟨p, 6, none⟩ (.int .i64 (V'.key + 1)) := ⟨_, rfl⟩
    have HW1 := Lib.hid hW1
    have hB1 : BlkV W1 p 65 #[.int .i64 ((i : Int) + 1), .int .i64 V'.st, .int .i64 V'.ep, .slice an m cn, .bool V'.fr, .int .i64 0, .int .i64 (V'.key + 1)] := by rw [hW1]; exact HV1.out.set 6 _
    have hO1 : Off (· = p) w W1 := by rw [hW1]; exact Off.setCell (F := (· = p)) (p := ⟨p, 6, none⟩) rfl _
    have hz1 : W1.heap.size = w.heap.size := by rw [hW1]; simp [World.setCell]
    have hu1 : W1.cell? ⟨b, o + 1, none⟩ = some (.int .i64 salt) := (World.cell?_of_block (hO1.block b hbl hbp)).trans u1
    have hv2 : TRd W1 3 an cn (BI V'.nodes) := HV2T.out.off hO1 (HV1.out.type (by decide))
    obtain ⟨ku, hku⟩ : ∃ ku, ku = UInt64.ofNat (V'.key % 18446744073709551616).toNat := ⟨_, rfl⟩
    obtain ⟨su, hsu⟩ : ∃ su, su = UInt32.ofNat (salt % 4294967296).toNat := ⟨_, rfl⟩
    have q1 : IntKind.u64.wrap V'.key = (ku.toNat : Int) := by rw [hku, UInt64.toNat_ofNat', IntKind.wrap_u64, Nat.mod_eq_of_lt (by omega)]; omega
    have q2 : IntKind.u32.wrap salt = (su.toNat : Int) := by rw [hsu, UInt32.toNat_ofNat', IntKind.wrap_u32, Nat.mod_eq_of_lt (by omega)]; omega
    have q3 : V'.key % 18446744073709551616 = (ku.toNat : Int) := by rw [← q1, IntKind.wrap_u64]
    have q4 : salt % 4294967296 = (su.toNat : Int) := by rw [← q2, IntKind.wrap_u32]
    have hck : ckI ((i : Int) + 1) V'.key salt = ((ck ((i : Int) + 1) ku su).toNat : Int) := by unfold ckI; rw [← hku, ← hsu]
    rw [hck] at hx
    have HXX := Lib.hid hx
    have hcu : ((ck ((i : Int) + 1) ku su).toNat : Int) < 4294967296 := by have := UInt32.toNat_lt (ck ((i : Int) + 1) ku su); omega
    have hcw : IntKind.i64.wrap ((ck ((i : Int) + 1) ku su).toNat : Int) = ((ck ((i : Int) + 1) ku su).toNat : Int) := IntWalk.i64_in _ (by omega)
    obtain ⟨D, hD⟩ : ∃ D : Nat, D = (ck ((i : Int) + 1) ku su).toNat := ⟨_, rfl⟩
    have hcok := fun W => cookie_any ((i : Int) + 1) ku su W
    rw [← hD] at hcw HXX
    have hcok' : ∀ W, Calls Try.prog 48 #[.int .i64 ((i : Int) + 1), .int .u64 ku.toNat, .int .u32 su.toNat] W fun e w' => e = .returned (.int .u32 (D : Int)) ∧ w' = W := by
      intro W; rw [hD]; exact hcok W
    have HCO := Lib.hid hcok'
    have HV2W := Lib.hid hv2.1
    have HV2X := Lib.hid hv2
    have HB1 := Lib.hid hB1
    have HO1 := Lib.hid hO1
    have d0 := hB1.cell 0
    have d1 := hB1.cell 1
    have d2 := hB1.cell 2
    have d3 := hB1.cell 3
    have d4 := hB1.cell 4
    have d6 := hB1.cell 6
    simp only [List.getElem?_toArray, List.getElem?_cons_succ, List.getElem?_cons_zero] at d0 d1 d2 d3 d4 d6
    have hpW : p < W1.heap.size := by omega
    have hbW : b < W1.heap.size := by omega
    have HZ := Lib.hid hz1
    have hcok := HCO
    clear hx hW1 hB1 hO1 hv2 hku hsu hck hcu hD hcok' hcok hz1
    go_enter Try.func24, Try.ntmps24
    go_wp2_with fail
    refine HO.out.mono ?_
    rintro e w1 ⟨rfl, hw1⟩
    have hw1 := hw1.symm
    subst hw1
    go_upto_region 12 with (fail)
    rw [← HW1.out]
    go_region_held3 (fun V => V.cell? ⟨b, o + 1, none⟩ = some (.int .i64 salt) ∧ V.cell? ⟨p, 0, none⟩ = some (.int .i64 ((i : Int) + 1)) ∧ V.cell? ⟨p, 1, none⟩ = some (.int .i64 V'.st) ∧ V.cell? ⟨p, 2, none⟩ = some (.int .i64 V'.ep) ∧ V.cell? ⟨p, 3, none⟩ = some (.slice an m cn) ∧ V.cell? ⟨p, 4, none⟩ = some (.bool V'.fr) ∧ V.cell? ⟨p, 6, none⟩ = some (.int .i64 (V'.key + 1)) ∧ Below W1.heap.size W1 V)
      (first
        | exact rowS2 (Below.refl _ _).drew hbW hu1 hpW d0 d1 d2 d3 d4 d6
        | exact rowS2 ((Below.refl _ _).drew.alloc (Nat.le_refl _) _) hbW hu1 hpW d0 d1 d2 d3 d4 d6
        | exact rowS2 (((Below.refl W1.heap.size W1).drew.alloc (Nat.le_refl _) _).trans hb4) hbW hu1 hpW d0 d1 d2 d3 d4 d6)
      (first
        | (go_at_call 48; refine (HCO.out _).mono ?_; rintro e w3 ⟨rfl, rfl⟩)
        | ((with_reducible refine StepAt 76 ?_)
           (refine At.out (step_app (by rfl) (.tmp 70) (.tmp 75) 27 (by rfl) elemN rfl W1.heap.size _ 4 [.int .i64 ((i : Int) + 1), .int .i64 V'.key, .int .i64 (D : Int), .int .i64 V'.ep] (by rfl) (World.ownsRow_lit (e := 3) (size := 1) W1.drew #[.int .i64 ((i : Int) + 1), .int .i64 V'.key, .int .i64 (D : Int), .int .i64 V'.ep] 4 (Nat.le_refl _) (by unfold maxLen; omega) rfl) an m cn (BI V'.nodes) (by rfl) (by rw [BI_length]; exact HM.out) (Rd.kept (w := W1.drew) HV2W.out ((Below.refl _ _).alloc (Nat.le_refl _) _)) (BI_one _) (by unfold maxLen; omega) (by omega) (by simp) ?_))
           (intro v4 w4 ho4 hb4)
           (obtain ⟨a4, c4', rfl, _⟩ := Rd.ofOwn ho4)))
    all_goals
      have hbf : Below W1.heap.size W1 w4 := ((Below.refl W1.heap.size W1).drew.alloc (Nat.le_refl _) _).trans hb4
      have HBF := Lib.hid hbf
      have HO4 := Lib.hid ho4
      clear hbf ho4 hb4
      go_wp2
      go_ret2
      rw [HXX.out]
      have hset : setL L ((i : Int) + 1) ⟨V'.st, V'.ep, V'.nodes, V'.fr, V'.key + 1⟩ = L.set i ⟨V'.st, V'.ep, V'.nodes, V'.fr, V'.key + 1⟩ := by
        unfold setL
        rw [show ((i : Int) + 1 - 1).toNat = i by omega]
      have hOf : Off (· = p) w w4 := HO1.out.below HBF.out
      have hBf := HB1.out.below HBF.out
      rw [HM.out] at hBf
      have hTf := HR6.out w4 ⟨V'.st, V'.ep, V'.nodes, V'.fr, V'.key + 1⟩ F (fun k h => h) hOf ⟨an, cn, hBf, HV2X.out.kept HBF.out, HV3.out⟩
      rw [← hset] at hTf
      exact ans_app (hd := [(i : Int) + 1, V'.key, (D : Int), V'.ep]) (by have := HM.out; simp only [List.length_cons, List.length_nil]; omega) (hTf.mono fun k h _ => .inl h) (HZ.out ▸ HO4.out) (hOf.mono fun k h _ => h ▸ HP.out)
end Go.Proofs.Yteenbobblbehoaa
