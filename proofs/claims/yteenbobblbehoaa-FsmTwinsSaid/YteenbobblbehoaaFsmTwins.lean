/- FsmTwins: for every script the law returns true. Conditions: none. -/
import Derived.Test.YteenbobblbehoaaFsmVt
namespace Go.Proofs.Yteenbobblbehoaa
open Go Go.RowKit

theorem stepS {w X : World} {b o : Nat} {x0 x1 : Value} (h : Below w.heap.size w X) (hb : b < w.heap.size) (c0 : w.cell? ⟨b, o, none⟩ = some x0) (c1 : w.cell? ⟨b, o + 1, none⟩ = some x1) :
    X.cell? ⟨b, o, none⟩ = some x0 ∧ X.cell? ⟨b, o + 1, none⟩ = some x1 ∧ Below w.heap.size w X := ⟨(h.cell hb).trans c0, (h.cell hb).trans c1, h⟩
theorem VolP.ret {w w' : World} {id : Int} {o : Option Vl} {e : Ending} (h : VolP w id o e w') : ∃ v, e = .returned v ∧ Below w.heap.size w w' := by
  obtain ⟨hb, h⟩ := h
  cases o with
  | none => exact ⟨_, h, hb⟩
  | some V => obtain ⟨a, c, h, _⟩ := h; exact ⟨_, h, hb⟩
theorem ints_same (w : World) (a1 a2 : Option Addr) (c1 c2 : Nat) (l : List Int) (h1 : Rd w a1 c1 (BI l)) (h2 : Rd w a2 c2 (BI l)) :
    Calls Try.prog 15 #[.slice a1 l.length c1, .slice a2 l.length c2] w fun e w' => e = .returned (.bool true) ∧ Qt w w' := by
  have h := ints_any w a1 a2 c1 c2 l l h1 h2
  rw [decide_eq_true rfl] at h
  exact h
theorem Beside.rd {w w' : World} {F G : Nat → Prop} {a : Option Addr} {c : Nat} {xs : List Value} (h : Beside w F a c xs) (ho : Off G w w') (hG : ∀ k, G k → F k) : Rd w' a c xs :=
  (h.off (F' := fun _ => False) (ho.mono fun k hk _ => hG k hk) fun _ h => h.elim).1

set_option maxRecDepth 100000 in
set_option maxHeartbeats 8000000 in
theorem fsmTwins_any (a : Option Addr) (c : Nat) (S : List Stp) (w : World) (hr : RdS w a c S) :
    Calls Try.prog 3 #[.slice a S.length c] w fun e w' => e = .returned (.bool true) ∧ Below w.heap.size w w' := by
  have hhv := heavy_any w a c S hr
  have hle : S.length ≤ 9223372036854775807 := by have := hr.1; have := hr.2.1; unfold maxLen at this; omega
  obtain ⟨N, hN⟩ : ∃ N, N = S.length := ⟨_, rfl⟩
  rw [← hN] at hhv hle ⊢
  have HHV := Lib.hid hhv
  have HR := Lib.hid hr
  have HN := Lib.hid hN
  clear hhv hr hN
  go_enter Try.func3, Try.ntmps3
  go_wp2_with fail
  refine HHV.out.mono ?_
  rintro e w1 ⟨hv, rfl, hq1⟩
  have hb1 : Below w.heap.size w w1 := hq1.below _
  have HB1 := Lib.hid hb1
  have hz1 : w1.heap.size = w.heap.size := hq1.size
  clear hq1 hb1
  cases hv with
  | true =>
    go_wp2_with fail
    refine (fsmKnown_any _).mono ?_
    rintro e w2 ⟨rfl, hb2⟩
    have HB2 := Lib.hid (HB1.out.trans (hb2.mono (by omega)))
    clear hb2
    go_wp2
    go_ret
    exact ⟨rfl, HB2.out⟩
  | false =>
  have H0 := Lib.hid (fun W => new_any W (fun k => k = W.heap.size) rfl)
  unfold ptrV at H0
  obtain ⟨t, ht⟩ : ∃ t, t = w1.heap.size := ⟨_, rfl⟩
  have HT := Lib.hid ht
  clear ht
  go_wp2_with fail
  refine (H0.out w1).mono ?_
  rintro e w2 ⟨rfl, hT2, hb2, hs2⟩
  obtain ⟨s, hs⟩ : ∃ s, s = w2.heap.size := ⟨_, rfl⟩
  have HS := Lib.hid hs
  clear hs
  rw [← HT.out] at hT2 hb2 hs2 ⊢
  go_wp2_with fail
  refine (H0.out w2).mono ?_
  rintro e w3 ⟨rfl, hT3, hb3, hs3⟩
  rw [← HS.out] at hT3 hb3 hs3 ⊢
  have hTw : Tw w w3 (fun k => k = t) (fun k => k = s) t s [] [] := by
    have e1 := HT.out
    have e2 := HS.out
    have hb3' : Below w2.heap.size w2 w3 := by rw [← e2]; exact hb3
    have hbw : Below w.heap.size w w3 := (HB1.out.trans (hb2.mono (by omega))).trans (hb3'.mono (by omega))
    exact ⟨⟨hT2.kept hb3', fun k hk => by omega, fun k hk => by omega, hbw⟩, ⟨hT3, fun k hk => by omega, fun k hk => by omega, hbw⟩, fun k h1 h2 => by omega⟩
  have HTW := Lib.hid hTw
  clear hTw hT2 hb2 hs2 hT3 hb3 hs3 H0
  go_wp2
  go_loopw [5] (fun s5 wr => ∃ (k : Nat) (L : List Vl) (F G : Nat → Prop), k ≤ N ∧ s5 = .int .i64 k ∧ Hid (Tw w wr F G t s L L ∧ OkL L ∧ L.length ≤ 4096)) (fun s5 _ => N - (intOf s5).toNat)
  case atStart => exact ⟨0, [], _, _, by omega, rfl, HTW.out, okV0, by simp⟩
  case round =>
    obtain ⟨k, L, F, G, hk, rfl, hI⟩ := hrel
    have hcases : (k < N ∧ k < 150) ∨ (¬ k < N) ∨ (k < N ∧ ¬ k < 150) := by omega
    have hvs : ∀ W F' t', TabI W F' t' L → Calls Try.prog 12 #[.pointer (some ⟨t', 0, none⟩)] W fun e w' => ∃ a c, e = .returned (.slice a L.length c) ∧ VlsB w' (fun _ => False) a c 0 L ∧ Below W.heap.size W w' := by
      intro W F' t' h
      refine (volumes_any W F' t' L h hI.out.2.1 hI.out.2.2).mono ?_
      rintro e w' ⟨v, xs, rfl, ho, hR, hb⟩
      obtain ⟨a, c, rfl, hV⟩ := VlsB.ofOwn (F := fun _ => False) ho hR fun _ h => h.elim
      exact ⟨a, c, rfl, hV, hb⟩
    have HVS := Lib.hid hvs
    clear hvs
    rcases hcases with ⟨hlt, h150⟩ | hex
    case inl =>
      have hkl : k < S.length := by have := HN.out; omega
      have hki : (k : Int) < (N : Int) := by omega
      have h15i : (k : Int) < 150 := by omega
      obtain ⟨b, o, an, cn, ar, cr, rfl, h2, h3, h4, _, h6, h7, _⟩ := HR.out.2.2 k S[k] (List.getElem?_eq_getElem hkl)
      obtain ⟨stp, hstp⟩ : ∃ stp, stp = S[k] := ⟨_, rfl⟩
      rw [← hstp] at h3 h4 h6 h7
      obtain ⟨kd, hkd⟩ : ∃ kd, kd = stp.kd := ⟨_, rfl⟩
      rw [← hkd] at h3
      obtain ⟨X, hX⟩ : ∃ X, X = doL L kd stp.nums := ⟨_, rfl⟩
      have hok := doL_ok (kd := kd) (l := stp.nums) hI.out.2.1 hI.out.2.2
      rw [← hX] at hok
      have hdo : ∀ W F' t', TabI W F' t' L → Below w.heap.size w W → Calls Try.prog 11 #[.pointer (some ⟨t', 0, none⟩), .int .i64 kd, .slice an stp.nums.length cn] W (AnsP W F' t' X) := by
        intro W F' t' h hb
        rw [hX]
        exact do_any W F' t' L h hI.out.2.1 kd an cn stp.nums (h6.kept hb) h7
      have hsum : ∀ W F' t', TabI W F' t' X.2 → Calls Try.prog 14 #[.pointer (some ⟨t', 0, none⟩)] W fun e w' => e = .returned (.int .u32 (sumL X.2).toNat) ∧ Below W.heap.size W w' := fun W F' t' h => fsmSum_any W F' t' X.2 h hok.1 hok.2
      have hsum0 : ∀ W F' t', TabI W F' t' L → Calls Try.prog 14 #[.pointer (some ⟨t', 0, none⟩)] W fun e w' => e = .returned (.int .u32 (sumL L).toNat) ∧ Below W.heap.size W w' := fun W F' t' h => fsmSum_any W F' t' L h hI.out.2.1 hI.out.2.2
      have hvol : ∀ W F' t', TabI W F' t' L → Calls Try.prog 13 #[.pointer (some ⟨t', 0, none⟩), .int .i64 1] W (VolP W 1 (ofL L 1)) := fun W F' t' h => volume_any W F' t' L h hI.out.2.1 1
      obtain ⟨m, hm⟩ : ∃ m, m = stp.nums.length := ⟨_, rfl⟩
      rw [← hm] at h4 hdo
      have HDO := Lib.hid hdo
      have HSM := Lib.hid hsum
      have HS0 := Lib.hid hsum0
      have HVO := Lib.hid hvol
      have HTWr := Lib.hid hI.out.1
      have HOK := Lib.hid hok
      have hbw := HTWr.out.one.bel
      have HBW := Lib.hid hbw
      have c0 := (hbw.cell (p := ⟨b, o + k * 3, none⟩) h2).trans h3
      have c1 := (hbw.cell (p := ⟨b, o + k * 3 + 1, none⟩) h2).trans h4
      have hbl : b < wr.heap.size := by have := hbw.size; omega
      have z1 : ((X.1.2 : Int) != (X.1.2 : Int)) = false := by simp
      have z2 : (((sumL X.2).toNat : Int) != ((sumL X.2).toNat : Int)) = false := by simp
      clear hstp hkd hX hm hdo hsum hsum0 hvol h6 h7 hok hbw
      go_upto_region 8 with (fail)
      go_region_held3 (fun Y => Y.cell? ⟨b, o + k * 3, none⟩ = some (.int .i64 kd) ∧ Y.cell? ⟨b, o + k * 3 + 1, none⟩ = some (.slice an m cn) ∧ Below w.heap.size w Y)
        (first
          | exact stepS HBW.out.drew h2 h3 h4
          | exact stepS T3.one.bel h2 h3 h4)
        (first
          | (go_at_call 11; refine (HDO.out _ F t (HTWr.out.one.tab.kept (Below.refl _ _).drew) HBW.out.drew).mono ?_; intro e w3 h3'; obtain ⟨a3, c3, F3, rfl, K3, T3, G3, O3⟩ := Tw.next (HTWr.out.kept (Below.refl _ _).drew) h3'; clear h3'))
      have HT3 := Lib.hid T3
      have HK3 := Lib.hid K3
      clear T3 K3 G3 O3
      go_wp2_with fail
      refine (HVS.out _ G s HT3.out.two.tab).mono ?_
      rintro e w4 ⟨av, cv, rfl, _, hb4⟩
      have HT4 := Lib.hid (HT3.out.kept hb4)
      have HK4 := Lib.hid (HK3.out.kept hb4)
      clear hb4
      go_wp2_with fail
      refine (HVO.out _ G s HT4.out.two.tab).mono ?_
      intro e w5 h5
      obtain ⟨v5, rfl, hb5⟩ := h5.ret
      have HT5 := Lib.hid (HT4.out.kept hb5)
      have HK5 := Lib.hid (HK4.out.kept hb5)
      clear h5 hb5
      go_wp2_with fail
      refine (HS0.out _ G s HT5.out.two.tab).mono ?_
      rintro e w6 ⟨rfl, hb6⟩
      have HT6 := Lib.hid (HT5.out.kept hb6)
      have HK6 := Lib.hid (HK5.out.kept hb6)
      have HBW6 := Lib.hid (HT5.out.kept hb6).one.bel
      clear hb6
      have d0 := (HBW6.out.cell (p := ⟨b, o + k * 3, none⟩) h2).trans h3
      have d1 := (HBW6.out.cell (p := ⟨b, o + k * 3 + 1, none⟩) h2).trans h4
      have hbl6 : b < w6.heap.size := by have := HBW6.out.size; omega
      have HDO6 := Lib.hid (HDO.out _ G s (HT6.out.two.tab.kept (Below.refl _ _).drew) HBW6.out.drew)
      clear c0 c1 hbl
      go_upto_region 12 with (fail)
      go_region_held3 (fun Y => Y.cell? ⟨b, o + k * 3, none⟩ = some (.int .i64 kd) ∧ Y.cell? ⟨b, o + k * 3 + 1, none⟩ = some (.slice an m cn) ∧ Below w.heap.size w Y)
        (first
          | exact stepS HBW6.out.drew h2 h3 h4
          | exact stepS T7.one.bel h2 h3 h4)
        (first
          | (go_at_call 11; refine HDO6.out.mono ?_; intro e w7 h7'; obtain ⟨a7, c7, G7, rfl, K7, T7, Q7, O7⟩ := Tw.next (HT6.out.symm.kept (Below.refl _ _).drew) h7'; clear h7'))
      have hr3 : Rd w7 a3 c3 (BI X.1.1) := (HK6.out.kept (Below.refl _ _).drew).rd O7 fun k h => .inr h
      have HIN := Lib.hid (ints_same w7 a3 a7 c3 c7 X.1.1 hr3 K7.1)
      have HT7 := Lib.hid T7
      clear K7 T7 Q7 O7 hr3
      go_wp2_with fail
      refine HIN.out.mono ?_
      rintro e w8 ⟨rfl, hq8⟩
      have HT8 := Lib.hid (HT7.out.kept (hq8.below _))
      clear hq8
      go_wp2_with fail
      refine (HSM.out _ F3 t HT8.out.two.tab).mono ?_
      rintro e w9 ⟨rfl, hb9⟩
      have HT9 := Lib.hid (HT8.out.kept hb9)
      clear hb9
      go_wp2_with fail
      refine (HSM.out _ G7 s HT9.out.one.tab).mono ?_
      rintro e w10 ⟨rfl, hb10⟩
      have HT10 := Lib.hid (HT9.out.kept hb10)
      clear hb10
      go_wp2
      go_roundw
      case rel => exact ⟨k + 1, X.2, F3, G7, by omega, by go_num, HT10.out.symm, HOK.out.1, HOK.out.2⟩
      case measure => simp [intOf]; omega
    case inr =>
      have hfin : ∀ W a1 a2 c1 c2, VlsB W (fun _ => False) a1 c1 0 L → VlsB W (fun _ => False) a2 c2 0 L → Calls Try.prog 16 #[.slice a1 L.length c1, .slice a2 L.length c2] W fun e w' => e = .returned (.bool true) ∧ Qt W w' := fun W a1 a2 c1 c2 h1 h2 => volsEq_any W a1 a2 c1 c2 0 L L h1.reads h2.reads rfl L.length rfl
      have HFIN := Lib.hid hfin
      have HTWr := Lib.hid hI.out.1
      obtain ⟨n, hn⟩ : ∃ n, n = L.length := ⟨_, rfl⟩
      rw [← hn] at HVS HFIN
      clear hfin hn hI
      rcases hex with hx | ⟨hx, hx2⟩
      case' inl => have hki : ¬ (k : Int) < (N : Int) := by omega
      case' inr =>
        have hki : (k : Int) < (N : Int) := by omega
        have h15i : ¬ (k : Int) < 150 := by omega
      all_goals
        go_wp2_with fail
        refine (HVS.out _ F t HTWr.out.one.tab).mono ?_
        rintro e w3 ⟨a3, c3, rfl, hv3, hb3⟩
        have HT3 := Lib.hid (HTWr.out.kept hb3)
        have HV3 := Lib.hid hv3
        clear hv3 hb3
        go_wp2_with fail
        refine (HVS.out _ G s HT3.out.two.tab).mono ?_
        rintro e w4 ⟨a4, c4, rfl, hv4, hb4⟩
        have HT4 := Lib.hid (HT3.out.kept hb4)
        have HQ := Lib.hid (HFIN.out w4 a3 a4 c3 c4 (HV3.out.kept hb4) hv4)
        clear hv4 hb4
        go_wp2_with fail
        refine HQ.out.mono ?_
        rintro e w5 ⟨rfl, hq5⟩
        have HB5 := Lib.hid (HT4.out.kept (hq5.below _)).one.bel
        clear hq5
        go_wp2_with fail
        refine (fsmKnown_any _).mono ?_
        rintro e w6 ⟨rfl, hb6⟩
        have HB6 := Lib.hid (HB5.out.trans (hb6.mono HB5.out.size))
        clear hb6
        go_wp2
        go_ret
        exact ⟨rfl, HB6.out⟩
end Go.Proofs.Yteenbobblbehoaa
