/- FsmOnce: for all nodes and every number the law returns true. Conditions: none. -/
import Derived.Test.YteenbobblbehoaaFsmLaw
namespace Go.Proofs.Yteenbobblbehoaa
open Go Go.RowKit

theorem diffF_range : ∀ (l : List Int) (m : UInt64), diffF l m = true → ∀ n ∈ l, -1 ≤ n ∧ n < 64
  | [], _, _, n, hn => by simp at hn
  | x :: l, m, h, n, hn => by
    unfold diffF at h
    by_cases h1 : x < -1
    · rw [if_pos h1] at h; cases h
    · rw [if_neg h1] at h
      by_cases h2 : 64 ≤ x
      · rw [if_pos h2] at h; cases h
      · rw [if_neg h2] at h
        rcases List.mem_cons.1 hn with rfl | hn
        · omega
        · by_cases h3 : x = -1
          · rw [if_pos h3] at h; exact diffF_range l m h n hn
          · rw [if_neg h3] at h
            split at h
            · cases h
            · exact diffF_range l _ h n hn
theorem keepF_own (V : Vl) (hst : V.st = 0) : ∀ (l : List Int) (i : Nat), (∀ n ∈ l, n ∈ V.nodes) → keepF V i l = true
  | [], _, _ => rfl
  | x :: l, i, h => by
    unfold keepF
    split
    · exact keepF_own V hst l _ fun n hn => h n (List.mem_cons_of_mem _ hn)
    · rw [if_neg (by omega), if_neg (by rw [(hasF_iff x V.nodes).2 (h x (List.mem_cons_self ..))]; simp)]
      exact keepF_own V hst l _ fun n hn => h n (List.mem_cons_of_mem _ hn)
theorem doL_change (V : Vl) (kd : Int) (ep st : Int) (nodes : List Int) (hk : kd = 5 ∨ kd = 6) (hl : nodes.length ≤ 20) : doL [V] kd (1 :: ep :: st :: nodes) = changeL [V] 1 ep st nodes (kd == 5) := by
  have hlen : (1 :: ep :: st :: nodes).length = nodes.length + 3 := rfl
  unfold doL
  rw [if_neg (by omega), hlen, if_neg (by omega)]
  have hm : mayB kd (nodes.length + 3) = true := by
    unfold mayB
    rw [if_neg (by omega), if_neg (by omega), if_neg (by omega), if_neg (by omega), if_pos (by omega)]
    simp
  rw [if_pos hm]
  unfold opL
  rw [if_neg (by omega), if_neg (by omega), if_neg (by omega), if_neg (by omega)]
  rfl
theorem changeL_one (V : Vl) (ep st : Int) (nodes : List Int) (fr : Bool) : changeL [V] 1 ep st nodes fr = if ep ≠ V.ep ∨ (fr = false ∧ V.fr = false) then (([], 12), [V]) else if 2147483646 < V.ep then (([], 17), [V]) else
    if st < V.st ∨ 2 < st ∨ diffF nodes 0 = false ∨ (st ≠ 2 ∧ hasF (-1) nodes = true) then (([], 1), [V]) else if fr = true ∧ keepsB V st nodes = false then (([], 1), [V]) else
      (([V.ep + 1], 0), [⟨st, V.ep + 1, nodes, fr, V.key⟩]) := rfl

section
variable {nodes : List Int} (hl : nodes.length ≤ 20) (hd : diffF nodes 0 = true) (hh : hasF (-1) nodes = false)
include hl hd hh
theorem once1 : doL [] 2 nodes = (([1], 0), [⟨0, 1, nodes, false, 1⟩]) := by
  unfold doL
  rw [if_neg (by omega), if_neg (by omega), if_pos (by rfl)]
  unfold opL
  rw [if_neg (by omega), if_pos rfl]
  unfold growL
  rw [if_neg (by simp [hd, hh]), if_neg (by simp)]
  rfl
theorem once2 : doL [⟨0, 1, nodes, false, 1⟩] 5 (1 :: 1 :: 0 :: nodes) = (([2], 0), [⟨0, 2, nodes, true, 1⟩]) := by
  rw [doL_change _ 5 1 0 nodes (.inl rfl) hl, changeL_one, if_neg (by simp), if_neg (by simp), if_neg (by simp [hd, hh]), if_neg]
  · rfl
  · rintro ⟨_, h⟩
    unfold keepsB at h
    rw [if_neg (by simp)] at h
    rw [keepF_own _ rfl nodes 0 fun n hn => hn] at h
    cases h
omit hl hd hh in
theorem once3 (hl : nodes.length ≤ 20) : doL [⟨0, 2, nodes, true, 1⟩] 5 (1 :: 1 :: 0 :: nodes) = (([], 12), [⟨0, 2, nodes, true, 1⟩]) := by
  rw [doL_change _ 5 1 0 nodes (.inl rfl) hl, changeL_one, if_pos (by simp)]
theorem once4 : doL [⟨0, 2, nodes, true, 1⟩] 6 (1 :: 2 :: 0 :: nodes) = (([3], 0), [⟨0, 3, nodes, false, 1⟩]) := by
  rw [doL_change _ 6 2 0 nodes (.inr rfl) hl, changeL_one, if_neg (by simp), if_neg (by simp), if_neg (by simp [hd, hh]), if_neg (by simp)]
  rfl
omit hl hd hh in
theorem once5 (hl : nodes.length ≤ 20) : doL [⟨0, 3, nodes, false, 1⟩] 6 (1 :: 2 :: 0 :: nodes) = (([], 12), [⟨0, 3, nodes, false, 1⟩]) := by
  rw [doL_change _ 6 2 0 nodes (.inr rfl) hl, changeL_one, if_pos (by simp)]
omit hl hd hh in
theorem once6 (hl : nodes.length ≤ 20) : doL [⟨0, 3, nodes, false, 1⟩] 6 (1 :: 3 :: 0 :: nodes) = (([], 12), [⟨0, 3, nodes, false, 1⟩]) := by
  rw [doL_change _ 6 3 0 nodes (.inr rfl) hl, changeL_one, if_pos (by right; exact ⟨rfl, rfl⟩)]
omit hh in
theorem onceOk (ep : Int) (fr : Bool) (h1 : 1 ≤ ep) (h2 : ep ≤ 3) : OkL [⟨0, ep, nodes, fr, 1⟩] := by
  intro V hV
  simp only [List.mem_singleton] at hV
  subst hV
  refine ⟨by simp, by simp, h1, by show ep ≤ _; omega, by simp, by simp, by show nodes.length ≤ 64; omega, ?_⟩
  exact diffF_range nodes 0 hd
end
theorem once0 {nodes : List Int} (hl : nodes.length ≤ 20) (hb : diffF nodes 0 = false ∨ hasF (-1) nodes = true) : doL [] 2 nodes = (([], 1), []) := by
  unfold doL
  rw [if_neg (by omega), if_neg (by omega), if_pos (by rfl)]
  unfold opL
  rw [if_neg (by omega), if_pos rfl]
  unfold growL
  rw [if_pos hb]

set_option maxRecDepth 100000 in
set_option maxHeartbeats 8000000 in
theorem fsmOnce_any (a : Option Addr) (c : Nat) (nodes : List Int) (st : Int) (w : World) (hr : Rd w a c (BI nodes)) (hbn : ∀ n ∈ nodes, -9223372036854775808 ≤ n ∧ n ≤ 9223372036854775807) (_hst : -9223372036854775808 ≤ st ∧ st ≤ 9223372036854775807) :
    Calls Try.prog 5 #[.slice a nodes.length c, .int .i64 st] w fun e w' => e = .returned (.bool true) ∧ Below w.heap.size w w' := by
  have hle := hr.le
  rw [BI_length] at hle
  by_cases h0 : 20 < nodes.length
  · obtain ⟨n, hn⟩ : ∃ n, n = nodes.length := ⟨_, rfl⟩
    rw [← hn] at hle h0 ⊢
    have h0i : (20 : Int) < (n : Int) := by omega
    clear hn hr hbn
    go_enter Try.func5, Try.ntmps5
    go_wp2_with fail
    refine (fsmKnown_any _).mono ?_
    rintro e w5 ⟨rfl, hb5⟩
    go_wp2
    go_ret
    exact ⟨rfl, hb5⟩
  have hl : nodes.length ≤ 20 := by omega
  obtain ⟨t, ht⟩ : ∃ t, t = w.heap.size := ⟨_, rfl⟩
  have H0 := Lib.hid (new_any w (fun k => k = w.heap.size) rfl)
  unfold ptrV at H0
  have HTT := Lib.hid ht
  have HNR := Lib.hid hr
  by_cases hbad : diffF nodes 0 = false ∨ hasF (-1) nodes = true
  · have H1 : Hid (∀ W F, TabI W F t [] → Rd W a c (BI nodes) → Calls Try.prog 11 #[.pointer (some ⟨t, 0, none⟩), .int .i64 2, .slice a nodes.length c] W (AnsP W F t (([], 1), []))) := fun W F hT hr => once0 hl hbad ▸ do_any W F t [] hT okV0 2 a c nodes hr hbn
    obtain ⟨n, hn⟩ : ∃ n, n = nodes.length := ⟨_, rfl⟩
    rw [← hn] at H1 h0 ⊢
    have h0i : ¬ (20 : Int) < (n : Int) := by omega
    clear hbad hl hle hbn hr ht hn h0
    go_enter Try.func5, Try.ntmps5
    go_wp2_with fail
    refine H0.out.mono ?_
    rintro e w1 ⟨rfl, hT1, hb1, hz1⟩
    rw [← HTT.out] at hT1 ⊢
    have S1 := (HTT.out ▸ St.begin HTT.out (HTT.out ▸ hT1) hb1 hz1 : St w w1 (fun k => k = w.heap.size) t [])
    have P1 := Lib.hid S1
    have Q1 := Lib.hid (H1.out _ _ S1.tab (HNR.out.kept S1.bel))
    clear hT1 hb1 hz1 S1
    go_wp2_with fail
    refine Q1.out.mono ?_
    intro e w2 h2
    obtain ⟨a2, c2, F2, rfl, K2, S2, G2, O2⟩ := St.next P1.out h2
    have HB2 := Lib.hid S2.bel
    clear h2 K2 S2 G2 O2
    dsimp only
    go_wp2_with fail
    refine (fsmKnown_any _).mono ?_
    rintro e w5 ⟨rfl, hb5⟩
    have HB5 := Lib.hid (HB2.out.trans (hb5.mono HB2.out.size))
    clear hb5
    go_wp2
    go_ret
    exact ⟨rfl, HB5.out⟩
  have hd : diffF nodes 0 = true := by
    cases h : diffF nodes 0
    · exact absurd (.inl h) hbad
    · rfl
  have hh : hasF (-1) nodes = false := by
    cases h : hasF (-1) nodes
    · rfl
    · exact absurd (.inr h) hbad
  have H1 : Hid (∀ W F, TabI W F t [] → Rd W a c (BI nodes) → Calls Try.prog 11 #[.pointer (some ⟨t, 0, none⟩), .int .i64 2, .slice a nodes.length c] W (AnsP W F t (([1], 0), [⟨0, 1, nodes, false, 1⟩]))) := fun W F hT hr => once1 hl hd hh ▸ do_any W F t [] hT okV0 2 a c nodes hr hbn
  have hlen : ∀ x y z : Int, (x :: y :: z :: nodes).length = 3 + nodes.length := fun x y z => by simp only [List.length_cons]; omega
  have hbn3 : ∀ x y z : Int, (0 ≤ x ∧ x ≤ 9) → (0 ≤ y ∧ y ≤ 9) → (0 ≤ z ∧ z ≤ 9) → ∀ n ∈ x :: y :: z :: nodes, -9223372036854775808 ≤ n ∧ n ≤ 9223372036854775807 := by
    intro x y z hx hy hz n hn
    simp only [List.mem_cons] at hn
    rcases hn with rfl | rfl | rfl | hn
    · omega
    · omega
    · omega
    · exact hbn n hn
  have H2 : Hid (∀ W F a c, TabI W F t [⟨0, 1, nodes, false, 1⟩] → Rd W a c (BI (1 :: 1 :: 0 :: nodes)) → Calls Try.prog 11 #[.pointer (some ⟨t, 0, none⟩), .int .i64 5, .slice a (3 + nodes.length) c] W (AnsP W F t (([2], 0), [⟨0, 2, nodes, true, 1⟩]))) := fun W F a c hT hr => by
    have h := do_any W F t [⟨0, 1, nodes, false, 1⟩] hT (onceOk hl hd 1 false (by omega) (by omega)) 5 a c (1 :: 1 :: 0 :: nodes) hr (hbn3 1 1 0 (by omega) (by omega) (by omega))
    rw [once2 hl hd hh, hlen] at h
    exact h
  have H3 : Hid (∀ W F a c, TabI W F t [⟨0, 2, nodes, true, 1⟩] → Rd W a c (BI (1 :: 1 :: 0 :: nodes)) → Calls Try.prog 11 #[.pointer (some ⟨t, 0, none⟩), .int .i64 5, .slice a (3 + nodes.length) c] W (AnsP W F t (([], 12), [⟨0, 2, nodes, true, 1⟩]))) := fun W F a c hT hr => by
    have h := do_any W F t [⟨0, 2, nodes, true, 1⟩] hT (onceOk hl hd 2 true (by omega) (by omega)) 5 a c (1 :: 1 :: 0 :: nodes) hr (hbn3 1 1 0 (by omega) (by omega) (by omega))
    rw [once3 hl, hlen] at h
    exact h
  have H4 : Hid (∀ W F a c, TabI W F t [⟨0, 2, nodes, true, 1⟩] → Rd W a c (BI (1 :: 2 :: 0 :: nodes)) → Calls Try.prog 11 #[.pointer (some ⟨t, 0, none⟩), .int .i64 6, .slice a (3 + nodes.length) c] W (AnsP W F t (([3], 0), [⟨0, 3, nodes, false, 1⟩]))) := fun W F a c hT hr => by
    have h := do_any W F t [⟨0, 2, nodes, true, 1⟩] hT (onceOk hl hd 2 true (by omega) (by omega)) 6 a c (1 :: 2 :: 0 :: nodes) hr (hbn3 1 2 0 (by omega) (by omega) (by omega))
    rw [once4 hl hd hh, hlen] at h
    exact h
  have H5 : Hid (∀ W F a c, TabI W F t [⟨0, 3, nodes, false, 1⟩] → Rd W a c (BI (1 :: 2 :: 0 :: nodes)) → Calls Try.prog 11 #[.pointer (some ⟨t, 0, none⟩), .int .i64 6, .slice a (3 + nodes.length) c] W (AnsP W F t (([], 12), [⟨0, 3, nodes, false, 1⟩]))) := fun W F a c hT hr => by
    have h := do_any W F t [⟨0, 3, nodes, false, 1⟩] hT (onceOk hl hd 3 false (by omega) (by omega)) 6 a c (1 :: 2 :: 0 :: nodes) hr (hbn3 1 2 0 (by omega) (by omega) (by omega))
    rw [once5 hl, hlen] at h
    exact h
  have H6 : Hid (∀ W F a c, TabI W F t [⟨0, 3, nodes, false, 1⟩] → Rd W a c (BI (1 :: 3 :: 0 :: nodes)) → Calls Try.prog 11 #[.pointer (some ⟨t, 0, none⟩), .int .i64 6, .slice a (3 + nodes.length) c] W (AnsP W F t (([], 12), [⟨0, 3, nodes, false, 1⟩]))) := fun W F a c hT hr => by
    have h := do_any W F t [⟨0, 3, nodes, false, 1⟩] hT (onceOk hl hd 3 false (by omega) (by omega)) 6 a c (1 :: 3 :: 0 :: nodes) hr (hbn3 1 3 0 (by omega) (by omega) (by omega))
    rw [once6 hl, hlen] at h
    exact h
  obtain ⟨n, hn⟩ : ∃ n, n = nodes.length := ⟨_, rfl⟩
  rw [← hn] at H1 H2 H3 H4 H5 H6 h0 hl ⊢
  have h0i : ¬ (20 : Int) < (n : Int) := by omega
  have HN := Lib.hid hn
  clear hbad hle hbn hr ht hn h0 hd hh hlen hbn3
  go_enter Try.func5, Try.ntmps5
  go_wp2_with fail
  refine H0.out.mono ?_
  rintro e w1 ⟨rfl, hT1, hb1, hz1⟩
  rw [← HTT.out] at hT1 ⊢
  have S1 := (HTT.out ▸ St.begin HTT.out (HTT.out ▸ hT1) hb1 hz1 : St w w1 (fun k => k = w.heap.size) t [])
  have P1 := Lib.hid S1
  have Q1 := Lib.hid (H1.out _ _ S1.tab (HNR.out.kept S1.bel))
  clear hT1 hb1 hz1 S1
  go_wp2_with fail
  refine Q1.out.mono ?_
  intro e w2 h2
  obtain ⟨a2, c2, F2, rfl, K2, S2, G2, O2⟩ := St.next P1.out h2
  have T2 := Lib.hid S2
  clear h2 K2 S2 G2 O2
  dsimp only
  go_wp2_with (with_reducible refine At.slot 36 ?_)
  refine At.out (wpList_app rfl (.tmp 34) (.tmp 35) 27 rfl elemN rfl w2.heap.size _ 3 [.int .i64 1, .int .i64 1, .int .i64 0] rfl (World.ownsRow_lit (e := 3) (size := 1) w2 #[.int .i64 1, .int .i64 1, .int .i64 0] 3 (Nat.le_refl _) (by unfold maxLen; omega) rfl) a n c (BI nodes) rfl (by rw [BI_length]; exact HN.out) ((HNR.out.kept T2.out.bel).kept (below_lit w2 _ _)) (BI_one _) (by unfold maxLen; omega) (by omega) (by simp) ?_)
  intro v2 x2 ho2 hb2 _
  obtain ⟨b2, d2, rfl, hq2⟩ := Rd.ofOwn ho2
  have hbl2 : Below w2.heap.size w2 x2 := (below_lit w2 _ _).trans hb2
  have hst2 := T2.out.kept hbl2
  have P2 := Lib.hid hst2
  have Q2 := Lib.hid (H2.out _ _ _ _ hst2.tab hq2)
  clear ho2 hb2 hq2 hbl2 hst2
  go_wp2_with fail
  refine Q2.out.mono ?_
  intro e w3 h3
  obtain ⟨a3, c3, F3, rfl, K3, S3, G3, O3⟩ := St.next P2.out h3
  have T3 := Lib.hid S3
  have N3_3 := Lib.hid K3
  clear h3 K3 S3 G3 O3
  dsimp only
  go_wp2_with (with_reducible refine At.slot 44 ?_)
  refine At.out (wpList_app rfl (.tmp 42) (.tmp 43) 27 rfl elemN rfl w3.heap.size _ 3 [.int .i64 1, .int .i64 1, .int .i64 0] rfl (World.ownsRow_lit (e := 3) (size := 1) w3 #[.int .i64 1, .int .i64 1, .int .i64 0] 3 (Nat.le_refl _) (by unfold maxLen; omega) rfl) a n c (BI nodes) rfl (by rw [BI_length]; exact HN.out) ((HNR.out.kept T3.out.bel).kept (below_lit w3 _ _)) (BI_one _) (by unfold maxLen; omega) (by omega) (by simp) ?_)
  intro v3 x3 ho3 hb3 _
  obtain ⟨b3, d3, rfl, hq3⟩ := Rd.ofOwn ho3
  have hbl3 : Below w3.heap.size w3 x3 := (below_lit w3 _ _).trans hb3
  have hst3 := T3.out.kept hbl3
  have P3 := Lib.hid hst3
  have Q3 := Lib.hid (H3.out _ _ _ _ hst3.tab hq3)
  have M3_3 := Lib.hid (N3_3.out.kept hbl3)
  clear ho3 hb3 hq3 hbl3 hst3
  go_wp2_with fail
  refine Q3.out.mono ?_
  intro e w4 h4
  obtain ⟨a4, c4, F4, rfl, K4, S4, G4, O4⟩ := St.next P3.out h4
  have T4 := Lib.hid S4
  have N3_4 := Lib.hid (M3_3.out.off O4 G4)
  clear h4 K4 S4 G4 O4
  dsimp only
  go_wp2_with (with_reducible refine At.slot 52 ?_)
  refine At.out (wpList_app rfl (.tmp 50) (.tmp 51) 27 rfl elemN rfl w4.heap.size _ 3 [.int .i64 1, .int .i64 2, .int .i64 0] rfl (World.ownsRow_lit (e := 3) (size := 1) w4 #[.int .i64 1, .int .i64 2, .int .i64 0] 3 (Nat.le_refl _) (by unfold maxLen; omega) rfl) a n c (BI nodes) rfl (by rw [BI_length]; exact HN.out) ((HNR.out.kept T4.out.bel).kept (below_lit w4 _ _)) (BI_one _) (by unfold maxLen; omega) (by omega) (by simp) ?_)
  intro v4 x4 ho4 hb4 _
  obtain ⟨b4, d4, rfl, hq4⟩ := Rd.ofOwn ho4
  have hbl4 : Below w4.heap.size w4 x4 := (below_lit w4 _ _).trans hb4
  have hst4 := T4.out.kept hbl4
  have P4 := Lib.hid hst4
  have Q4 := Lib.hid (H4.out _ _ _ _ hst4.tab hq4)
  have M3_4 := Lib.hid (N3_4.out.kept hbl4)
  clear ho4 hb4 hq4 hbl4 hst4
  go_wp2_with fail
  refine Q4.out.mono ?_
  intro e w5 h5
  obtain ⟨a5, c5, F5, rfl, K5, S5, G5, O5⟩ := St.next P4.out h5
  have T5 := Lib.hid S5
  have N3_5 := Lib.hid (M3_4.out.off O5 G5)
  have N5_5 := Lib.hid K5
  clear h5 K5 S5 G5 O5
  dsimp only
  go_wp2_with (with_reducible refine At.slot 60 ?_)
  refine At.out (wpList_app rfl (.tmp 58) (.tmp 59) 27 rfl elemN rfl w5.heap.size _ 3 [.int .i64 1, .int .i64 2, .int .i64 0] rfl (World.ownsRow_lit (e := 3) (size := 1) w5 #[.int .i64 1, .int .i64 2, .int .i64 0] 3 (Nat.le_refl _) (by unfold maxLen; omega) rfl) a n c (BI nodes) rfl (by rw [BI_length]; exact HN.out) ((HNR.out.kept T5.out.bel).kept (below_lit w5 _ _)) (BI_one _) (by unfold maxLen; omega) (by omega) (by simp) ?_)
  intro v5 x5 ho5 hb5 _
  obtain ⟨b5, d5, rfl, hq5⟩ := Rd.ofOwn ho5
  have hbl5 : Below w5.heap.size w5 x5 := (below_lit w5 _ _).trans hb5
  have hst5 := T5.out.kept hbl5
  have P5 := Lib.hid hst5
  have Q5 := Lib.hid (H5.out _ _ _ _ hst5.tab hq5)
  have M3_5 := Lib.hid (N3_5.out.kept hbl5)
  have M5_5 := Lib.hid (N5_5.out.kept hbl5)
  clear ho5 hb5 hq5 hbl5 hst5
  go_wp2_with fail
  refine Q5.out.mono ?_
  intro e w6 h6
  obtain ⟨a6, c6, F6, rfl, K6, S6, G6, O6⟩ := St.next P5.out h6
  have T6 := Lib.hid S6
  have N3_6 := Lib.hid (M3_5.out.off O6 G6)
  have N5_6 := Lib.hid (M5_5.out.off O6 G6)
  clear h6 K6 S6 G6 O6
  dsimp only
  go_wp2_with (with_reducible refine At.slot 68 ?_)
  refine At.out (wpList_app rfl (.tmp 66) (.tmp 67) 27 rfl elemN rfl w6.heap.size _ 3 [.int .i64 1, .int .i64 3, .int .i64 0] rfl (World.ownsRow_lit (e := 3) (size := 1) w6 #[.int .i64 1, .int .i64 3, .int .i64 0] 3 (Nat.le_refl _) (by unfold maxLen; omega) rfl) a n c (BI nodes) rfl (by rw [BI_length]; exact HN.out) ((HNR.out.kept T6.out.bel).kept (below_lit w6 _ _)) (BI_one _) (by unfold maxLen; omega) (by omega) (by simp) ?_)
  intro v6 x6 ho6 hb6 _
  obtain ⟨b6, d6, rfl, hq6⟩ := Rd.ofOwn ho6
  have hbl6 : Below w6.heap.size w6 x6 := (below_lit w6 _ _).trans hb6
  have hst6 := T6.out.kept hbl6
  have P6 := Lib.hid hst6
  have Q6 := Lib.hid (H6.out _ _ _ _ hst6.tab hq6)
  have M3_6 := Lib.hid (N3_6.out.kept hbl6)
  have M5_6 := Lib.hid (N5_6.out.kept hbl6)
  clear ho6 hb6 hq6 hbl6 hst6
  go_wp2_with fail
  refine Q6.out.mono ?_
  intro e w7 h7
  obtain ⟨a7, c7, F7, rfl, K7, S7, G7, O7⟩ := St.next P6.out h7
  have T7 := Lib.hid S7
  have N3_7 := Lib.hid (M3_6.out.off O7 G7)
  have N5_7 := Lib.hid (M5_6.out.off O7 G7)
  clear h7 K7 S7 G7 O7
  dsimp only
  have I1 := Lib.hid (ints_any (w7.alloc (.cells #[.int .i64 2] 3)) a3 (some ⟨w7.heap.size, 0, none⟩) c3 1 [2] [2] (N3_7.out.1.kept (below_lit w7 _ _)) (Rd.one w7 (.int .i64 2) _))
  go_wp2_with fail
  refine I1.out.mono ?_
  rintro e w8 ⟨rfl, hq8⟩
  have hb78 : Below w7.heap.size w7 w8 := (below_lit w7 _ _).trans (hq8.below _)
  have HB8 := Lib.hid (T7.out.bel.trans (hb78.mono T7.out.bel.size))
  have I2 := Lib.hid (ints_any (w8.alloc (.cells #[.int .i64 3] 3)) a5 (some ⟨w8.heap.size, 0, none⟩) c5 1 [3] [3] ((N5_7.out.1.kept hb78).kept (below_lit w8 _ _)) (Rd.one w8 (.int .i64 3) _))
  clear hb78 hq8
  go_wp2_with fail
  refine I2.out.mono ?_
  rintro e w9 ⟨rfl, hq9⟩
  have hb89 : Below w8.heap.size w8 w9 := (below_lit w8 _ _).trans (hq9.below _)
  have HB9 := Lib.hid (HB8.out.trans (hb89.mono HB8.out.size))
  clear hb89 hq9
  go_wp2_with fail
  refine (fsmKnown_any _).mono ?_
  rintro e w10 ⟨rfl, hb10⟩
  have HB10 := Lib.hid (HB9.out.trans (hb10.mono HB9.out.size))
  clear hb10
  go_wp2
  go_ret
  exact ⟨rfl, HB10.out⟩
end Go.Proofs.Yteenbobblbehoaa
