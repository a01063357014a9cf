/- The law's ints and known; what is kept beside a table. Conditions: each contract's own premises. -/
import Derived.Test.YteenbobblbehoaaFsmDo
import Derived.Test.YteenbobblbehoaaFsmNew
namespace Go.Proofs.Yteenbobblbehoaa
open Go Go.RowKit

/-- What reads, beside a table with blocks out of F. -/
def Beside (w : World) (F : Nat → Prop) (a : Option Addr) (c : Nat) (xs : List Value) : Prop := Rd w a c xs ∧ ∀ b o, xs ≠ [] → a = some ⟨b, o, none⟩ → ¬ F b ∧ b < w.heap.size
theorem Beside.off {w w' : World} {F F' : Nat → Prop} {a : Option Addr} {c : Nat} {xs : List Value} (h : Beside w F a c xs) (ho : Off F w w') (hF : ∀ k, F' k → F k ∨ w.heap.size ≤ k) : Beside w' F' a c xs :=
  ⟨h.1.offB ho fun b o hx ha => (h.2 b o hx ha).1, fun b o hx ha => ⟨fun hf => (hF b hf).elim (h.2 b o hx ha).1 (by have := (h.2 b o hx ha).2; omega), by have := (h.2 b o hx ha).2; have := ho.size; omega⟩⟩
theorem Beside.kept {w w' : World} {F : Nat → Prop} {a : Option Addr} {c : Nat} {xs : List Value} (h : Beside w F a c xs) (hb : Below w.heap.size w w') : Beside w' F a c xs :=
  h.off (Off.ofBelow hb) fun _ h => .inl h
theorem AnsP.next {w w' : World} {F : Nat → Prop} {t : Nat} {X : (List Int × Nat) × List Vl} {e : Ending} (h : AnsP w F t X e w') (hF : ∀ k, F k → k < w.heap.size) :
    ∃ a c F', e = .returned (.tuple #[.slice a X.1.1.length c, .int .i64 (X.1.2 : Int)]) ∧ Beside w' F' a c (BI X.1.1) ∧ TabI w' F' t X.2 ∧ (∀ k, F' k → k < w'.heap.size) ∧ (∀ k, F' k → F k ∨ w.heap.size ≤ k) ∧ Off F w w' := by
  obtain ⟨a, c, rfl, h1, h2, h3⟩ := h
  obtain ⟨a', c', hv, hr⟩ := TRd.ofOwn h1
  simp only [Value.slice.injEq, true_and] at hv
  obtain ⟨rfl, rfl⟩ := hv
  refine ⟨a, c, fun k => NewF F w a k ∧ k < w'.heap.size, rfl, ⟨hr.1, fun b o hx ha => ?_⟩, h2.mono fun k h hk => ⟨h, hk⟩, fun k h => h.2, fun k h => h.1.elim .inl fun h => .inr h.1, h3⟩
  obtain ⟨cs, fr, hh⟩ := hr.2 b o hx ha
  refine ⟨fun hf => ?_, (Array.getElem?_eq_some_iff.1 hh).1⟩
  rcases hf.1 with h | h
  · have h4 := hF b h
    rcases h1.2 with ⟨e, _⟩ | ⟨g, cap, cur, e, hg, _⟩
    · rw [ha] at e; simp at e
    · rw [ha] at e
      simp only [Value.slice.injEq, Option.some.injEq, Addr.mk.injEq] at e
      omega
  · exact h.2 o ha

set_option maxRecDepth 100000 in
set_option maxHeartbeats 1000000 in
theorem ints_any (w : World) (a1 a2 : Option Addr) (c1 c2 : Nat) (l1 l2 : List Int) (h1 : Rd w a1 c1 (BI l1)) (h2 : Rd w a2 c2 (BI l2)) :
    Calls Try.prog 15 #[.slice a1 l1.length c1, .slice a2 l2.length c2] w fun e w' => e = .returned (.bool (decide (l1 = l2))) ∧ Qt w w' := by
  obtain ⟨n1, hn1⟩ : ∃ n1, n1 = l1.length := ⟨_, rfl⟩
  obtain ⟨n2, hn2⟩ : ∃ n2, n2 = l2.length := ⟨_, rfl⟩
  rw [← hn1, ← hn2]
  have hle := h1.le
  rw [BI_length, ← hn1] at hle
  by_cases hn : n1 = n2
  case neg =>
    have hd : decide (l1 = l2) = false := decide_eq_false fun e => hn (by rw [hn1, hn2, e])
    have hb : ((n1 : Int) != (n2 : Int)) = true := by rw [bne_iff_ne]; omega
    rw [hd]
    clear hd hn hn1 hn2 h1 h2
    go_enter Try.func15, Try.ntmps15
    go_wp2
    go_ret
    exact ⟨rfl, Qt.refl _⟩
  subst hn
  obtain ⟨R, hR⟩ : ∃ R, R = decide (l1 = l2) := ⟨_, rfl⟩
  rw [← hR]
  have HR := Lib.hid hR
  have H1 := Lib.hid hn1
  have H2 := Lib.hid hn2
  clear hR hn1 hn2
  go_enter Try.func15, Try.ntmps15
  go_wp2
  go_loopw [5] (fun s5 wr => ∃ (k q : Nat), k ≤ n1 ∧ s5 = .int .i64 k ∧ wr = w.drewN q ∧ Hid (l1.take k = l2.take k)) (fun s5 _ => n1 - (intOf s5).toNat)
  case atStart => exact ⟨0, 0, by omega, rfl, rfl, rfl⟩
  case round =>
    obtain ⟨k, q, hk, rfl, rfl, hK⟩ := hrel
    by_cases hlt : k < n1
    · have hk1 : k < l1.length := by have := H1.out; omega
      have hk2 : k < l2.length := by have := H2.out; omega
      obtain ⟨b1, o1, rfl, u1⟩ := h1.cs.bi k hk1
      obtain ⟨b2, o2, rfl, u2⟩ := h2.cs.bi k hk2
      obtain ⟨x, hx⟩ : ∃ x, x = l1[k] := ⟨_, rfl⟩
      obtain ⟨y, hy⟩ : ∃ y, y = l2[k] := ⟨_, rfl⟩
      rw [← hx] at u1
      rw [← hy] at u2
      have HX := Lib.hid hx
      have HY := Lib.hid hy
      clear hx hy
      have hki : (k : Int) < (n1 : Int) := by omega
      by_cases he : x = y
      · have hne : (x != y) = false := by simp [he]
        have HE := Lib.hid he
        clear he
        go_wp2
        go_quiet (fail)
        go_wp2
        go_roundw
        case rel => exact ⟨k + 1, _, by omega, by go_num, rfl, by show l1.take (k + 1) = l2.take (k + 1); rw [List.take_succ_eq_append_getElem hk1, List.take_succ_eq_append_getElem hk2, hK.out, ← HX.out, ← HY.out, HE.out]⟩
        case measure => simp [intOf]; omega
      · have hne : (x != y) = true := by simpa using he
        have hRf : R = false := by
          rw [HR.out]
          refine decide_eq_false fun e => he ?_
          rw [HX.out, HY.out]
          simp only [e]
        have HRF := Lib.hid hRf
        clear he hRf
        go_wp2
        go_quiet (fail)
        go_wp2
        go_ret
        rw [HRF.out]
        exact ⟨rfl, Qt.drew ⟨_, rfl⟩ _⟩
    · have hRt : R = true := by
        rw [HR.out]
        refine decide_eq_true ?_
        have := hK.out
        rwa [List.take_of_length_le (by have := H1.out; omega), List.take_of_length_le (by have := H2.out; omega)] at this
      have HRT := Lib.hid hRt
      clear hRt
      go_wp2
      go_ret
      rw [HRT.out]
      exact ⟨rfl, _, rfl⟩

/-- A table in a world W that came out of w. -/
structure St (w W : World) (F : Nat → Prop) (t : Nat) (L : List Vl) : Prop where
  tab : TabI W F t L
  lt : ∀ k, F k → k < W.heap.size
  new : ∀ k, F k → w.heap.size ≤ k
  bel : Below w.heap.size w W
theorem St.kept {w W W' : World} {F : Nat → Prop} {t : Nat} {L : List Vl} (h : St w W F t L) (hb : Below W.heap.size W W') : St w W' F t L :=
  ⟨h.tab.kept hb, fun k hk => by have := h.lt k hk; have := hb.size; omega, h.new, h.bel.trans (hb.mono h.bel.size)⟩
theorem St.next {w W w' : World} {F : Nat → Prop} {t : Nat} {L : List Vl} {X : (List Int × Nat) × List Vl} {e : Ending} (hs : St w W F t L) (h : AnsP W F t X e w') :
    ∃ a c F', e = .returned (.tuple #[.slice a X.1.1.length c, .int .i64 (X.1.2 : Int)]) ∧ Beside w' F' a c (BI X.1.1) ∧ St w w' F' t X.2 ∧ (∀ k, F' k → F k ∨ W.heap.size ≤ k) ∧ Off F W w' := by
  obtain ⟨a, c, F', rfl, h1, h2, h3, h4, h5⟩ := h.next hs.lt
  refine ⟨a, c, F', rfl, h1, ⟨h2, h3, fun k hk => (h4 k hk).elim (hs.new k) (by have := hs.bel.size; omega), hs.bel.trans (h5.toBelow hs.bel.size hs.new)⟩, h4, h5⟩
theorem St.begin {w W : World} {t : Nat} (_ht : t = w.heap.size) (hT : TabI W (fun k => k = w.heap.size) t []) (hb : Below w.heap.size w W) (hz : w.heap.size < W.heap.size) : St w W (fun k => k = w.heap.size) t [] :=
  ⟨hT, fun k hk => by omega, fun k hk => by omega, hb⟩
theorem below_lit (w : World) (C : Array Value) (t : TypeId) : Below w.heap.size w (w.alloc (.cells C t)) := (Below.refl _ _).alloc (Nat.le_refl _) _
theorem okV1 : OkL [⟨0, 1, [3, 4], false, 1⟩] := by
  intro V hV
  simp only [List.mem_singleton] at hV
  subst hV
  simp [OkV]
theorem okV2 : OkL [⟨0, 2, [4], true, 1⟩] := by
  intro V hV
  simp only [List.mem_singleton] at hV
  subst hV
  simp [OkV]
theorem okV0 : OkL [] := fun V hV => by simp at hV

set_option maxRecDepth 100000 in
set_option maxHeartbeats 4000000 in
theorem fsmKnown_any (w : World) : Calls Try.prog 9 #[] w fun e w' => e = .returned (.bool true) ∧ Below w.heap.size w w' := by
  have hnew := new_any w (fun k => k = w.heap.size) rfl
  have d1 : doL [] 2 [3, 4] = (([1], 0), [⟨0, 1, [3, 4], false, 1⟩]) := by rfl
  have d2 : doL [⟨0, 1, [3, 4], false, 1⟩] 5 [1, 1, 0, 4] = (([2], 0), [⟨0, 2, [4], true, 1⟩]) := by rfl
  have d3 : doL [⟨0, 2, [4], true, 1⟩] 6 [1, 2, 0, 4, 5] = (([3], 0), [⟨0, 3, [4, 5], false, 1⟩]) := by rfl
  have H1 : Hid (∀ W F a c, TabI W F w.heap.size [] → Rd W a c (BI [3, 4]) → Calls Try.prog 11 #[.pointer (some ⟨w.heap.size, 0, none⟩), .int .i64 2, .slice a 2 c] W (AnsP W F w.heap.size (([1], 0), [⟨0, 1, [3, 4], false, 1⟩]))) := fun W F a c hT hr => d1 ▸ do_any W F w.heap.size [] hT okV0 2 a c [3, 4] hr (by simp)
  have H2 : Hid (∀ W F a c, TabI W F w.heap.size [⟨0, 1, [3, 4], false, 1⟩] → Rd W a c (BI [1, 1, 0, 4]) → Calls Try.prog 11 #[.pointer (some ⟨w.heap.size, 0, none⟩), .int .i64 5, .slice a 4 c] W (AnsP W F w.heap.size (([2], 0), [⟨0, 2, [4], true, 1⟩]))) := fun W F a c hT hr => d2 ▸ do_any W F w.heap.size _ hT okV1 5 a c [1, 1, 0, 4] hr (by simp)
  have H3 : Hid (∀ W F a c, TabI W F w.heap.size [⟨0, 2, [4], true, 1⟩] → Rd W a c (BI [1, 2, 0, 4, 5]) → Calls Try.prog 11 #[.pointer (some ⟨w.heap.size, 0, none⟩), .int .i64 6, .slice a 5 c] W (AnsP W F w.heap.size (([3], 0), [⟨0, 3, [4, 5], false, 1⟩]))) := fun W F a c hT hr => d3 ▸ do_any W F w.heap.size _ hT okV2 6 a c [1, 2, 0, 4, 5] hr (by simp)
  have H0 := Lib.hid hnew
  clear hnew d1 d2 d3
  obtain ⟨t, ht⟩ : ∃ t, t = w.heap.size := ⟨_, rfl⟩
  have HTT := Lib.hid ht
  rw [← ht] at H1 H2 H3
  unfold ptrV at H0
  clear ht
  go_enter Try.func9, Try.ntmps9
  go_wp2_with fail
  refine H0.out.mono ?_
  rintro e w1 ⟨rfl, hT1, hb1, hz1⟩
  rw [← HTT.out] at hT1 ⊢
  have S1 := (HTT.out ▸ St.begin HTT.out (HTT.out ▸ hT1) hb1 hz1 : St w w1 (fun k => k = w.heap.size) t [])
  have hlit1 := S1.kept (below_lit w1 #[.int .i64 3, .int .i64 4] 3)
  have hr1 := Rd.lit w1 #[.int .i64 3, .int .i64 4] 3 (0, 0) (by unfold maxLen; simp)
  have P1 := Lib.hid hlit1
  have Q1 := Lib.hid (H1.out _ _ _ _ hlit1.tab hr1)
  clear hT1 hb1 hz1 S1 hlit1 hr1
  go_wp2_with fail
  refine Q1.out.mono ?_
  intro e w2 h2
  obtain ⟨a2, c2, F2, rfl, K2, S2, G2, O2⟩ := St.next P1.out h2
  dsimp only at K2 S2 ⊢
  have hlit2 := S2.kept (below_lit w2 #[.int .i64 1, .int .i64 1, .int .i64 0, .int .i64 4] 3)
  have hr2 := Rd.lit w2 #[.int .i64 1, .int .i64 1, .int .i64 0, .int .i64 4] 3 (0, 0) (by unfold maxLen; simp)
  have P2 := Lib.hid hlit2
  have Q2 := Lib.hid (H2.out _ _ _ _ hlit2.tab hr2)
  have M2 := Lib.hid (K2.kept (below_lit w2 #[.int .i64 1, .int .i64 1, .int .i64 0, .int .i64 4] 3))
  clear h2 K2 S2 G2 O2 hlit2 hr2
  go_wp2_with fail
  refine Q2.out.mono ?_
  intro e w3 h3
  obtain ⟨a3, c3, F3, rfl, K3, S3, G3, O3⟩ := St.next P2.out h3
  dsimp only at K3 S3 ⊢
  have hlit3 := S3.kept (below_lit w3 #[.int .i64 1, .int .i64 2, .int .i64 0, .int .i64 4, .int .i64 5] 3)
  have hr3 := Rd.lit w3 #[.int .i64 1, .int .i64 2, .int .i64 0, .int .i64 4, .int .i64 5] 3 (0, 0) (by unfold maxLen; simp)
  have P3 := Lib.hid hlit3
  have Q3 := Lib.hid (H3.out _ _ _ _ hlit3.tab hr3)
  have M3 := Lib.hid (K3.kept (below_lit w3 #[.int .i64 1, .int .i64 2, .int .i64 0, .int .i64 4, .int .i64 5] 3))
  have M23 := Lib.hid ((M2.out.off O3 G3).kept (below_lit w3 #[.int .i64 1, .int .i64 2, .int .i64 0, .int .i64 4, .int .i64 5] 3))
  clear h3 K3 S3 G3 O3 hlit3 hr3
  go_wp2_with fail
  refine Q3.out.mono ?_
  intro e w4 h4
  obtain ⟨a4, c4, F4, rfl, K4, S4, G4, O4⟩ := St.next P3.out h4
  dsimp only at K4 S4 ⊢
  have N2 := Lib.hid (M23.out.off O4 G4)
  have N3 := Lib.hid (M3.out.off O4 G4)
  have N4 := Lib.hid K4
  have HB4 := Lib.hid S4.bel
  have hi1 := ints_any (w4.alloc (.cells #[.int .i64 1] 3)) a2 (some ⟨w4.heap.size, 0, none⟩) c2 1 [1] [1] (N2.out.1.kept (below_lit w4 _ _)) (Rd.one w4 (.int .i64 1) _)
  have I1 := Lib.hid hi1
  clear h4 K4 S4 G4 O4 hi1
  go_wp2_with fail
  refine I1.out.mono ?_
  rintro e w5 ⟨rfl, hq5⟩
  have hb45 : Below w4.heap.size w4 w5 := (below_lit w4 _ _).trans (hq5.below _)
  have HB5 := Lib.hid (HB4.out.trans (hb45.mono HB4.out.size))
  have hi2 := ints_any (w5.alloc (.cells #[.int .i64 2] 3)) a3 (some ⟨w5.heap.size, 0, none⟩) c3 1 [2] [2] ((N3.out.1.kept hb45).kept (below_lit w5 _ _)) (Rd.one w5 (.int .i64 2) _)
  have I2 := Lib.hid hi2
  have HB45 := Lib.hid hb45
  clear hi2 hb45 hq5
  go_wp2_with fail
  refine I2.out.mono ?_
  rintro e w6 ⟨rfl, hq6⟩
  have hb56 : Below w5.heap.size w5 w6 := (below_lit w5 _ _).trans (hq6.below _)
  have HB6 := Lib.hid (HB5.out.trans (hb56.mono HB5.out.size))
  have hb46 := HB45.out.trans (hb56.mono HB45.out.size)
  have hi3 := ints_any (w6.alloc (.cells #[.int .i64 3] 3)) a4 (some ⟨w6.heap.size, 0, none⟩) c4 1 [3] [3] ((N4.out.1.kept hb46).kept (below_lit w6 _ _)) (Rd.one w6 (.int .i64 3) _)
  have I3 := Lib.hid hi3
  clear hi3 hb56 hb46 hq6
  go_wp2_with fail
  refine I3.out.mono ?_
  rintro e w7 ⟨rfl, hq7⟩
  have hb67 : Below w6.heap.size w6 w7 := (below_lit w6 _ _).trans (hq7.below _)
  have HB7 := Lib.hid (HB6.out.trans (hb67.mono HB6.out.size))
  clear hb67 hq7
  go_wp2
  go_ret
  exact ⟨rfl, HB7.out⟩
end Go.Proofs.Yteenbobblbehoaa
