/- (what came is the call's own) wire's Decode: the contract. Conditions: each contract's own premises. -/
import Derived.Test.YteenbobblbehoaaWNext
import Derived.Test.YteenbobblbehoaaClone
import Derived.Test.YteenbobblbehoaaWEnc
import Derived.Deep.RegionLaw
import Derived.Deep.DrawnRows
namespace Go.Proofs.Yteenbobblbehoaa
open Go Go.RowKit
attribute [local go_sem ↓] Go.wp_at_zero Go.wp_at_succ

theorem elemI : ElemT Try.prog 27 3 1 (.int .i64 0) 8 := ⟨Try.underlying27, info_parts (by kernel_rfl)⟩
theorem strM : StrT Try.prog 71 5 := ⟨by
    obtain ⟨i, h1, h2, h3, h4⟩ := info_parts (show (Try.prog.info? 71).map (fun i => (i.zero, i.size, i.bytes)) = some (some (.agg #[.int .i64 0, .int .i64 0, .int .i64 0, .slice none 0 0, .slice none 0 0]), 5, 72) by kernel_rfl)
    exact ⟨i, h1, h3⟩, ⟨_, Try.underlying71⟩⟩

/-- What Decode gives. -/
def WDP (w : World) (X : (Int × Int × Int × List Int × List UInt8) × Nat × Nat) (e : Ending) (w' : World) : Prop := ∃ an cn ad cd,
  e = .returned (.tuple #[.agg #[.int .i64 X.1.1, .int .i64 X.1.2.1, .int .i64 X.1.2.2.1, .slice an X.1.2.2.2.1.length cn, .slice ad X.1.2.2.2.2.length cd], .int .i64 (X.2.1 : Nat), .int .i64 (X.2.2 : Nat)]) ∧
  w'.ownsRow w.heap.size 3 1 (.slice an X.1.2.2.2.1.length cn) X.1.2.2.2.1.length (BI X.1.2.2.2.1) ∧ w'.ownsRow w.heap.size 5 1 (.slice ad X.1.2.2.2.2.length cd) X.1.2.2.2.2.length (B8 X.1.2.2.2.2) ∧ Below w.heap.size w w'
theorem WDP.no {w w' : World} (F : Nat) (hb : Below w.heap.size w w') :
    WDP w ((0, 0, 0, [], []), 0, F) (.returned (.tuple #[.agg #[.int .i64 0, .int .i64 0, .int .i64 0, .slice none 0 0, .slice none 0 0], .int .i64 0, .int .i64 (F : Nat)])) w' :=
  ⟨none, 0, none, 0, rfl, World.ownsRow_nil _ _ _ _, World.ownsRow_nil _ _ _ _, hb⟩
theorem WDP.mk {w w' : World} {f t k : Int} {nums : List Int} {data : List UInt8} {an ad : Option Addr} {nn cn nd cd N : Nat} (hn : nn = nums.length) (hd : nd = data.length) (hr : w'.ownsRow w.heap.size 3 1 (.slice an nn cn) nn (BI nums)) (ho : w'.ownsRow w.heap.size 5 1 (.slice ad nd cd) nd (B8 data)) (hb : Below w.heap.size w w') :
    WDP w ((f, t, k, nums, data), N, 0) (.returned (.tuple #[.agg #[.int .i64 f, .int .i64 t, .int .i64 k, .slice an nn cn, .slice ad nd cd], .int .i64 (N : Nat), .int .i64 0])) w' := by
  subst hn hd
  exact ⟨an, cn, ad, cd, rfl, hr, ho, hb⟩
theorem NextP.un {w w' : World} {R : Nat} {a : Option Addr} {c : Nat} {l l1 : List UInt8} {k : IntKind} {v : Nat} {b1 : Bool} {e : Ending} (h : NextP w R a c l k (v, l1, b1) e w') :
    e = .returned (.int k (v : Nat)) ∧ ∃ a' c', RdrB w' R a' c' (l1, b1) ∧ Sub a c (B8 l) a' c' (B8 l1) ∧ Kp (· = R) w w' ∧ w'.heap.size = w.heap.size := h
theorem decR_le (l : List UInt8) : (decR l).1.length ≤ 1048576 := by
  unfold decR
  split
  · simp
  · split
    · simp
    · split
      · simp
      · split
        · simp only [List.length_take]; omega
        · simp
theorem BI_one' (l : List Int) (n : Int) : BI (l ++ [n]) = BI l ++ [.int .i64 n] := by simp [BI]
theorem zagL_snoc (l : List Nat) (u : UInt64) : zagL (l ++ [u.toNat]) = zagL l ++ [zag u] := by simp [zagL]

set_option maxRecDepth 100000 in
set_option maxHeartbeats 1000000 in
theorem wDec_no (w : World) (a : Option Addr) (c : Nat) (b : List UInt8) (hr : Rd w a c (B8 b)) (hE : (decR b).2.2 ≠ 0) :
    Calls Try.prog 34 #[.slice a b.length c] w (WDP w ((0, 0, 0, [], []), 0, (decR b).2.2)) := by
  have hd := fun o => decode_any (w.alloc o) a c b (hr.kept ((Below.refl _ _).alloc (Nat.le_refl _) o))
  obtain ⟨P, N, E, hD⟩ : ∃ P N E, decR b = (P, N, E) := ⟨_, _, _, rfl⟩
  rw [hD] at hE hd ⊢
  unfold decV at hd
  simp only at hE hd ⊢
  have HD := Lib.hid hd
  have hEi : ((E : Int) != 0) = true := by rw [bne_iff_ne]; omega
  clear hD hd hE
  obtain ⟨G, hG⟩ : ∃ G, G = w.heap.size := ⟨_, rfl⟩
  have hst : ∀ o, Below w.heap.size w (w.alloc o) := fun o => (Below.refl _ _).alloc (Nat.le_refl _) o
  have HG := Lib.hid hG
  clear hG
  go_enter Try.func34, Try.ntmps34
  go_wp2_with fail
  refine (HD.out _).mono ?_
  rintro e w1 ⟨r1, rfl, ho1, hb1⟩
  have hbw1 : Below w.heap.size w w1 := (hst _).trans (hb1.mono (by simp))
  have hB := (BlkV.new w 71 #[.int .i64 0, .int .i64 0, .int .i64 0, .slice none 0 0, .slice none 0 0]).below hb1
  rw [← HG.out] at hB hbw1 ⊢
  clear ho1 hb1 hst
  go_wp2_with (with_reducible refine At.store 71 (.tmp 2) (.tmp 19) ?_)
  refine At.out (wpList_storeV rfl _ rfl (.tmp 2) (.tmp 19) rfl strM G _ #[.int .i64 0, .int .i64 0, .int .i64 0, .slice none 0 0, .slice none 0 0] rfl rfl hB rfl rfl (by simp [Value.oneCell']) ?_)
  intro w2 hB2 hbel _
  have hb2 := hbel G w hbw1 (Nat.le_refl _)
  go_wp2_with fail
  exact bodyPost_ret (v := .tuple #[.agg #[.int .i64 0, .int .i64 0, .int .i64 0, .slice none 0 0, .slice none 0 0], .int .i64 0, .int .i64 (E : Int)]) (results_cell3 rfl strM rfl rfl rfl hB2 rfl) rfl (WDP.no E (HG.out ▸ hb2))

set_option maxRecDepth 100000 in
set_option maxHeartbeats 8000000 in
theorem wDec_in (w : World) (a : Option Addr) (c : Nat) (b : List UInt8) (hr : Rd w a c (B8 b)) (P : List UInt8) (N : Nat) (hD : decR b = (P, N, 0)) (Y : (Int × Int × Int × List Int × List UInt8) × Nat × Nat) (hY : wDec b = Y) :
    Calls Try.prog 34 #[.slice a b.length c] w (WDP w Y) := by
  have hd := fun o => decode_any (w.alloc o) a c b (hr.kept ((Below.refl _ _).alloc (Nat.le_refl _) o))
  have hPl := decR_le b
  have hYb : (match bodyI P with
    | some (f, t, k, l, d) => (((f : Int), (t : Int), (k : Int), zagL l, d), N, 0)
    | none => ((0, 0, 0, [], []), 0, 3)) = Y := by
    rw [← hY, bodyI_eq]; unfold wDec; rw [hD]; simp only [ne_eq, not_true_eq_false, if_false]; cases bodyD P <;> rfl
  rw [hD] at hd hPl
  unfold decV at hd
  simp only at hd hPl
  have HD := Lib.hid hd
  have HY := Lib.hid hYb
  clear hD hd hY hYb
  obtain ⟨G, hG⟩ : ∃ G, G = w.heap.size := ⟨_, rfl⟩
  have hst : ∀ o, Below w.heap.size w (w.alloc o) := fun o => (Below.refl _ _).alloc (Nat.le_refl _) o
  have HG := Lib.hid hG
  clear hG
  obtain ⟨v1, l1, b1, h1⟩ : ∃ v l b, upS 2147483647 (P, false) = (v, l, b) := ⟨_, _, _, rfl⟩
  obtain ⟨v2, l2, b2, h2⟩ : ∃ v l b, upS 2147483647 (l1, b1) = (v, l, b) := ⟨_, _, _, rfl⟩
  obtain ⟨v3, l3, b3, h3⟩ : ∃ v l b, upS 2147483647 (l2, b2) = (v, l, b) := ⟨_, _, _, rfl⟩
  obtain ⟨v4, l4, b4, h4⟩ : ∃ v l b, upS 64 (l3, b3) = (v, l, b) := ⟨_, _, _, rfl⟩
  have hv4 : v4 ≤ 64 := by have := upS_le 64 (l3, b3); rw [h4] at this; exact this
  have HI : Hid (bodyI P = if (upS 1047552 (repS v4 (l4, b4)).2).2.2 = true ∨ (upS 1047552 (repS v4 (l4, b4)).2).1 ≠ (upS 1047552 (repS v4 (l4, b4)).2).2.1.length then none else some (v1, v2, v3, (repS v4 (l4, b4)).1, (upS 1047552 (repS v4 (l4, b4)).2).2.1)) := Lib.hid (by
    unfold bodyI; simp only [h1, h2, h3, h4])
  have hU : ∀ (most : Nat) (W : World) (R : Nat) (a' : Option Addr) (c' : Nat) (l' : List UInt8) (b' : Bool) (v : Nat) (l'' : List UInt8) (b'' : Bool), upS most (l', b') = (v, l'', b'') → most ≤ 4294967295 → RdrB W R a' c' (l', b') → Rd W a' c' (B8 l') → Calls Try.prog 53 #[.pointer (some ⟨R, 0, none⟩), .int .i64 (most : Int)] W (NextP W R a' c' l' .i64 (v, l'', b'')) := by
    intro most W R a' c' l' b' v l'' b'' h hm hB hr
    rw [← h]
    exact upTo_any W R a' c' l' b' most hm hB hr
  have HU := Lib.hid hU
  have H1 := Lib.hid h1
  have H2 := Lib.hid h2
  have H3 := Lib.hid h3
  have H4 := Lib.hid h4
  clear h1 h2 h3 h4 hU
  go_enter Try.func34, Try.ntmps34
  go_wp2_with fail
  refine (HD.out _).mono ?_
  rintro e w1 ⟨r1, rfl, ho1, hb1⟩
  have hbw1 : Below w.heap.size w w1 := (hst _).trans (hb1.mono (by simp))
  have hBG1 := (BlkV.new w 71 #[.int .i64 0, .int .i64 0, .int .i64 0, .slice none 0 0, .slice none 0 0]).below hb1
  obtain ⟨rp, cp, rfl, hP1⟩ := Rd.ofOwn ho1
  rw [← HG.out] at hBG1 hbw1 ⊢
  clear ho1 hb1 hst
  go_wp2_with fail
  obtain ⟨W2, hW2⟩ : ∃ W2, W2 = w1.alloc (.cells #[.slice rp P.length cp, .bool false] 97) := ⟨_, rfl⟩
  have hR2 : RdrB W2 w1.heap.size rp cp (P, false) := by rw [hW2]; exact BlkV.new w1 _ _
  have hb2 : Below w1.heap.size w1 W2 := by rw [hW2]; exact (Below.refl _ _).alloc (Nat.le_refl _) _
  have hz2 : W2.heap.size = w1.heap.size + 1 := by rw [hW2]; simp
  rw [← hW2]
  obtain ⟨R, hR⟩ : ∃ R, R = w1.heap.size := ⟨_, rfl⟩
  rw [← hR] at hR2 hb2 hz2 ⊢
  have HR := Lib.hid hR
  have hGR : G < R := by rw [hR]; exact hBG1.lt
  have hSub : ∀ (W : World) (a' : Option Addr) (c' : Nat) (l' : List UInt8), Below R w1 W → Sub rp cp (B8 P) a' c' (B8 l') → Rd W a' c' (B8 l') := by
    intro W a' c' l' hb hs
    rw [hR] at hb
    exact hs W (hP1.kept hb)
  have HS := Lib.hid hSub
  have HZ2 := Lib.hid hz2
  clear hW2 hR hSub hz2
  have hc := HU.out 2147483647 W2 R rp cp P false v1 l1 b1 H1.out (by omega) hR2 (HS.out _ _ _ _ hb2 (Sub.refl _ _ _))
  refine hc.mono ?_
  clear hc
  intro e w3 h
  obtain ⟨rfl, a3, c3, hR3, hs3, hk3, hz3⟩ := NextP.un h
  have hb3 : Below R w1 w3 := hb2.trans (hk3.below (fun k h => Nat.le_of_eq h.symm) (by have := HZ2.out; omega))
  have HZ3 : Hid (w3.heap.size = R + 1) := Lib.hid (hz3.trans HZ2.out)
  clear h hk3 hz3 hR2 hb2
  go_wp2_with fail
  have hc := HU.out 2147483647 w3 R a3 c3 l1 b1 v2 l2 b2 H2.out (by omega) hR3 (HS.out _ _ _ _ hb3 hs3)
  refine hc.mono ?_
  clear hc
  intro e w4 h
  obtain ⟨rfl, a4, c4, hR4, hs4, hk4, hz4⟩ := NextP.un h
  have hb4 : Below R w1 w4 := hb3.trans (hk4.below (fun k h => Nat.le_of_eq h.symm) (by have := HZ3.out; omega))
  have HZ4 : Hid (w4.heap.size = R + 1) := Lib.hid (hz4.trans HZ3.out)
  have hs4 := hs3.trans hs4
  clear h hk4 hz4 hR3 hb3 hs3
  go_wp2_with fail
  have hc := HU.out 2147483647 w4 R a4 c4 l2 b2 v3 l3 b3 H3.out (by omega) hR4 (HS.out _ _ _ _ hb4 hs4)
  refine hc.mono ?_
  clear hc
  intro e w5 h
  obtain ⟨rfl, a5, c5, hR5, hs5, hk5, hz5⟩ := NextP.un h
  have hb5 : Below R w1 w5 := hb4.trans (hk5.below (fun k h => Nat.le_of_eq h.symm) (by have := HZ4.out; omega))
  have HZ5 : Hid (w5.heap.size = R + 1) := Lib.hid (hz5.trans HZ4.out)
  have hs5 := hs4.trans hs5
  clear h hk5 hz5 hR4 hb4 hs4
  go_wp2_with fail
  obtain ⟨W6, hW6⟩ : ∃ W6, W6 = w5.alloc (.cells #[.int .i64 (v1 : Int), .int .i64 (v2 : Int), .int .i64 (v3 : Int), .slice none 0 0, .slice none 0 0] 71) := ⟨_, rfl⟩
  have hR6 : RdrB W6 R a5 c5 (l3, b3) := by rw [hW6]; exact BlkV.alloc hR5 _
  have hM6 : BlkV W6 (R + 1) 71 #[.int .i64 (v1 : Int), .int .i64 (v2 : Int), .int .i64 (v3 : Int), .slice none 0 0, .slice none 0 0] := by
    have := BlkV.new w5 71 #[.int .i64 (v1 : Int), .int .i64 (v2 : Int), .int .i64 (v3 : Int), .slice none 0 0, .slice none 0 0]
    rw [HZ5.out] at this
    rw [hW6]; exact this
  have hb6 : Below R w1 W6 := by rw [hW6]; exact hb5.alloc (by have := HZ5.out; omega) _
  have HZ6 : Hid (W6.heap.size = R + 2) := Lib.hid (by rw [hW6]; have := HZ5.out; simp; omega)
  rw [← hW6, HZ5.out]
  clear hW6 hR5 hb5
  have hc := HU.out 64 W6 R a5 c5 l3 b3 v4 l4 b4 H4.out (by omega) hR6 (HS.out _ _ _ _ hb6 hs5)
  refine hc.mono ?_
  clear hc
  intro e w7 h
  obtain ⟨rfl, a7, c7, hR7, hs7, hk7, hz7⟩ := NextP.un h
  have hb7 : Below R w1 w7 := hb6.trans (hk7.below (fun k h => Nat.le_of_eq h.symm) (by have := HZ6.out; omega))
  have HZ7 : Hid (w7.heap.size = R + 2) := Lib.hid (hz7.trans HZ6.out)
  have hM7 := hk7.blkV hM6 (fun h => by omega)
  have hs7 := hs5.trans hs7
  clear h hk7 hz7 hR6 hb6 hM6 hs5
  have hv4i : (v4 : Int) ≤ 64 := by omega
  go_wp2_with fail
  go_loopw [33] (fun s33 wr => ∃ (k : Nat) (ak : Option Addr) (ck : Nat) (an : Option Addr) (cn : Nat), k ≤ v4 ∧ s33 = .int .i64 k ∧ RdrB wr R ak ck (repS k (l4, b4)).2 ∧ Sub rp cp (B8 P) ak ck (B8 (repS k (l4, b4)).2.1) ∧
    BlkV wr (R + 1) 71 #[.int .i64 (v1 : Int), .int .i64 (v2 : Int), .int .i64 (v3 : Int), .slice an k cn, .slice none 0 0] ∧ wr.ownsRow (R + 2) 3 1 (.slice an k cn) k (BI (zagL (repS k (l4, b4)).1)) ∧ Below R w1 wr) (fun s33 _ => v4 - (intOf s33).toNat)
  case atStart => exact ⟨0, a7, c7, none, 0, by omega, rfl, hR7, hs7, hM7, World.ownsRow_nil _ _ _ _, hb7⟩
  case round =>
    clear hR7 hs7 hM7 hb7 HZ7
    obtain ⟨k, ak, ck, an, cn, hk, rfl, hRk, hsk, hMk, hok, hbk⟩ := hrel
    obtain ⟨vs, l5, b5, h5⟩ : ∃ v l b, repS k (l4, b4) = (v, l, b) := ⟨_, _, _, rfl⟩
    rw [h5] at hRk hsk hok
    have hRk : RdrB wr R ak ck (l5, b5) := hRk
    have hsk : Sub rp cp (B8 P) ak ck (B8 l5) := hsk
    have hok : wr.ownsRow (R + 2) 3 1 (.slice an k cn) k (BI (zagL vs)) := hok
    have hzr := hMk.lt
    by_cases hlt : k < v4
    · obtain ⟨v, l6, b6, h6⟩ : ∃ v l b, nextS (l5, b5) = (v, l, b) := ⟨_, _, _, rfl⟩
      have hrep : repS (k + 1) (l4, b4) = (vs ++ [v], l6, b6) := by
        show ((repS k (l4, b4)).1 ++ [(nextS (repS k (l4, b4)).2).1], (nextS (repS k (l4, b4)).2).2) = _
        rw [h5]; simp only; rw [h6]
      have hvl : v < 18446744073709551616 := by have := nextS_lt (l5, b5); rw [h6] at this; exact this
      obtain ⟨u, hu⟩ := u64_of hvl
      subst hu
      have hn : Calls Try.prog 55 #[.pointer (some ⟨R, 0, none⟩)] wr.drew (NextP wr.drew R ak ck l5 .u64 (u.toNat, l6, b6)) := by
        rw [← h6]
        exact next_any wr.drew R ak ck l5 b5 hRk ((HS.out _ _ _ _ hbk hsk).kept (Below.refl _ _).drew)
      have hn2 : Calls Try.prog 55 #[.pointer (some ⟨R, 0, none⟩)] wr.drew (fun e w8 => ∃ a8 c8, e = .returned (.int .u64 (u.toNat : Int)) ∧ RdrB w8 R a8 c8 (l6, b6) ∧ Sub rp cp (B8 P) a8 c8 (B8 l6) ∧ Below R w1 w8 ∧
          BlkV w8 (R + 1) 71 #[.int .i64 (v1 : Int), .int .i64 (v2 : Int), .int .i64 (v3 : Int), .slice an k cn, .slice none 0 0] ∧ w8.ownsRow (R + 2) 3 1 (.slice an k cn) k (BI (zagL vs)) ∧
          w8.cell? ⟨R + 1, 3, none⟩ = some (.slice an k cn) ∧ w8.frozen? ⟨R + 1, 3, none⟩ = false ∧ R + 1 < w8.heap.size) := by
        refine hn.mono ?_
        intro e w8 h
        obtain ⟨rfl, a8, c8, hR8, hs8, hk8, hz8⟩ := NextP.un h
        have hM8 := hk8.blkV (show BlkV wr.drew _ _ _ from hMk) (fun h => by omega)
        have m8 := hM8.cell 3
        simp only [List.getElem?_toArray, List.getElem?_cons_succ, List.getElem?_cons_zero] at m8
        exact ⟨a8, c8, rfl, hR8, hsk.trans hs8, hbk.drew.trans (hk8.below (fun k h => Nat.le_of_eq h.symm) (by simp; omega)), hM8, own_kp (own_below hok (Below.refl _ _).drew) hk8 (fun k h => by omega), m8, hM8.frozen 3, hM8.lt⟩
      have HN := Lib.hid hn2
      clear hn2
      have HREP := Lib.hid hrep
      have c3 := hMk.cell 3
      have f3 := hMk.frozen 3
      simp only [List.getElem?_toArray, List.getElem?_cons_succ, List.getElem?_cons_zero] at c3
      have hki : (k : Int) < (v4 : Int) := by omega
      clear h5 h6 hn hrep hvl
      go_wp2_with fail
      go_region_law (first
        | ((with_reducible refine StepAt 38 ?_); (refine At.out ?_); go_simp; go_at_call 55; refine HN.out.mono ?_; rintro e w8 ⟨a8, c8, rfl, hR8, hs8, hb8, hM8, ho8, m8, f8, hz8⟩)
        | ((with_reducible refine StepAt 39 ?_); (refine At.out ?_); go_simp; go_at_call 54; refine (zag_any u _).mono ?_; rintro e w9 ⟨rfl, rfl⟩)
        | ((with_reducible refine StepAt 41 ?_)
           (refine At.out (step_app (by rfl) (.tmp 36) (.tmp 40) 27 (by rfl) elemI rfl (R + 2) (.slice an k cn) k (BI (zagL vs)) (by rfl) (ho8.alloc _) _ 1 1 [.int .i64 (zag u)] (by rfl) rfl (Rd.one _ _ _) (one_int _ _) (by unfold maxLen; omega) (by omega) (by simp; omega) ?_))
           (intro v10 w10 ho10 hb10)
           (have hb10' : Below R w1 w10 := (hb8.alloc (by omega) _).trans (hb10.mono (by omega)))
           (have hR10 : RdrB w10 R a8 c8 (l6, b6) := BlkV.at (BlkV.alloc hR8 _) hb10 (by omega))
           (have hM10 := BlkV.at (BlkV.alloc hM8 (.cells #[.int .i64 (zag u)] 3)) hb10 (by omega))
           (have m10 := hM10.cell 3)
           (have f10 := hM10.frozen 3)
           (simp only [List.getElem?_toArray, List.getElem?_cons_succ, List.getElem?_cons_zero] at m10)
           (have hz10 : R + 1 < w10.heap.size := hM10.lt)
           (obtain ⟨a10, c10, rfl, _⟩ := Rd.ofOwn ho10)
           (clear hb10)))
      all_goals
        have hM11 := hM10.set 3 (.slice a10 (k + 1) c10)
        have hR11 := BlkV.far hR10 (show R ≠ R + 1 by omega) 3 (.slice a10 (k + 1) c10)
        have ho11 := own_setFar ho10 (show R + 1 < R + 2 by omega) 3 (.slice a10 (k + 1) c10)
        have hb11 := hb10'.setCell (p := ⟨R + 1, 3, none⟩) (by simp) (.slice a10 (k + 1) c10)
        simp only [List.setIfInBounds_toArray, List.set_cons_zero, List.set_cons_succ] at hM11
        have hrel : RdrB (w10.setCell ⟨R + 1, 3, none⟩ (.slice a10 (k + 1) c10)) R a8 c8 (repS (k + 1) (l4, b4)).2 ∧ Sub rp cp (B8 P) a8 c8 (B8 (repS (k + 1) (l4, b4)).2.1) ∧ (w10.setCell ⟨R + 1, 3, none⟩ (.slice a10 (k + 1) c10)).ownsRow (R + 2) 3 1 (.slice a10 (k + 1) c10) (k + 1) (BI (zagL (repS (k + 1) (l4, b4)).1)) := by
          rw [HREP.out]
          refine ⟨hR11, hs8, ?_⟩
          simp only
          rw [zagL_snoc, BI_one']
          exact ho11
        have HREL := Lib.hid hrel
        clear hrel hR11 ho11 hM10 hR10 ho10 hb10' m10 f10
        go_wp2
        go_roundw
        case rel => exact ⟨k + 1, a8, c8, a10, c10, by omega, by go_num, HREL.out.1, HREL.out.2.1, hM11, HREL.out.2.2, hb11⟩
        case measure => simp [intOf]; omega
    · obtain rfl : k = v4 := by omega
      obtain ⟨v6, l6, b6, h6⟩ : ∃ v l b, upS 1047552 (l5, b5) = (v, l, b) := ⟨_, _, _, rfl⟩
      have hI := HI.out
      rw [h5] at hI
      simp only at hI
      rw [h6] at hI
      simp only at hI
      have hY2 : (if b6 = true ∨ v6 ≠ l6.length then ((0, 0, 0, [], []), 0, 3) else (((v1 : Int), (v2 : Int), (v3 : Int), zagL vs, l6), N, 0)) = Y := by
        rw [← HY.out, hI]
        by_cases hb : b6 = true ∨ v6 ≠ l6.length
        · rw [if_pos hb, if_pos hb]
        · rw [if_neg hb, if_neg hb]
      have hv6 : v6 ≤ 1047552 := by have := upS_le 1047552 (l5, b5); rw [h6] at this; exact this
      have hvl : (zagL vs).length = k := by
        have := repS_len (l4, b4) k
        rw [h5] at this
        simpa [zagL] using this
      have HY2 := Lib.hid hY2
      have HVL := Lib.hid hvl
      have hc := HU.out 1047552 wr R ak ck l5 b5 v6 l6 b6 h6 (by omega) hRk (HS.out _ _ _ _ hbk hsk)
      have HC := Lib.hid hc
      clear h5 h6 hI hY2 hvl hc hv4i hv4
      go_wp2_with fail
      refine HC.out.mono ?_
      intro e w8 h
      obtain ⟨rfl, a8, c8, hR8, hs8, hk8, hz8⟩ := NextP.un h
      have hs8 := hsk.trans hs8
      have hb8 : Below R w1 w8 := hbk.trans (hk8.below (fun k h => Nat.le_of_eq h.symm) (by omega))
      have hM8 := hk8.blkV hMk (fun h => by omega)
      have ho8 := own_kp hok hk8 (fun k h => by omega)
      have hG8 := hBG1.at hb8 hGR
      have hz8r : R + 1 < w8.heap.size := hM8.lt
      have q0 := BlkV.cell hR8 0
      have q1 := BlkV.cell hR8 1
      simp only [List.getElem?_toArray, List.getElem?_cons_succ, List.getElem?_cons_zero] at q0 q1
      have hbw8 : Below G w w8 := hbw1.trans (hb8.mono (by omega))
      clear h hk8 hz8 hRk hsk hMk hok hbk hzr
      cases b6 with
      | true =>
        have hy : Y = ((0, 0, 0, [], []), 0, 3) := by rw [← HY2.out, if_pos (.inl rfl)]
        have HYY := Lib.hid hy
        clear hy
        go_wp2_with (with_reducible refine At.store 71 (.tmp 2) (.tmp 59) ?_)
        refine At.out (wpList_storeV rfl _ rfl (.tmp 2) (.tmp 59) rfl strM G _ #[.int .i64 0, .int .i64 0, .int .i64 0, .slice none 0 0, .slice none 0 0] rfl rfl hG8 rfl rfl (by simp [Value.oneCell']) ?_)
        intro w9 hB9 hbel _
        have hb9 := hbel G w hbw8 (Nat.le_refl _)
        go_wp2_with fail
        rw [HYY.out]
        exact bodyPost_ret (v := .tuple #[.agg #[.int .i64 0, .int .i64 0, .int .i64 0, .slice none 0 0, .slice none 0 0], .int .i64 0, .int .i64 3]) (results_cell3 rfl strM rfl rfl rfl hB9 rfl) rfl (WDP.no 3 (HG.out ▸ hb9))
      | false =>
        by_cases hv : v6 = l6.length
        · have hy : Y = (((v1 : Int), (v2 : Int), (v3 : Int), zagL vs, l6), N, 0) := by rw [← HY2.out, if_neg (by simp; exact hv)]
          have HYY := Lib.hid hy
          have hvi : ((v6 : Int) != (l6.length : Int)) = false := by rw [hv]; simp
          have hl6 : l6.length ≤ 1047552 := by omega
          have hrd8 := HS.out _ _ _ _ hb8 hs8
          clear hy hv
          go_wp2_with fail
          refine (clone_any w8 a8 c8 l6.length l6 rfl hrd8 (by omega)).mono ?_
          rintro e w9 ⟨r9, rfl, ho9, hb9⟩
          have hb9' : Below R w1 w9 := hb8.trans (hb9.mono (by omega))
          have hM9 := hM8.below hb9
          have hn9 := own_below ho8 hb9
          have hG9 := hBG1.at hb9' hGR
          have m4 := hM9.cell 4
          have f4 := hM9.frozen 4
          simp only [List.getElem?_toArray, List.getElem?_cons_succ, List.getElem?_cons_zero] at m4
          obtain ⟨a9, c9, rfl, _⟩ := Rd.ofOwn ho9
          have hz9 : R + 1 < w9.heap.size := hM9.lt
          clear hb9 ho8 hM8 hG8 hR8 q0 q1 hrd8
          go_wp2_with (with_reducible refine At.slot 66 ?_)
          obtain ⟨w10, hw10⟩ : ∃ w10, w10 = w9.setCell ⟨R + 1, 4, none⟩ (.slice a9 l6.length c9) := ⟨_, rfl⟩
          have hM10 := hM9.set 4 (.slice a9 l6.length c9)
          have hG10 := hG9.far (show G ≠ R + 1 by omega) 4 (.slice a9 l6.length c9)
          have hbw10 : Below G w w10 := by rw [hw10]; exact (hbw1.trans (hb9'.mono (by omega))).setCell (by simp; omega) _
          have ho10 := own_setFar ho9 (show R + 1 < w8.heap.size by omega) 4 (.slice a9 l6.length c9)
          have hn10 := own_setFar hn9 (show R + 1 < R + 2 by omega) 4 (.slice a9 l6.length c9)
          simp only [List.setIfInBounds_toArray, List.set_cons_zero, List.set_cons_succ] at hM10
          rw [← hw10] at hM10 hG10 ho10 hn10 ⊢
          clear hM9 hG9 ho9 hn9 m4 f4 hw10
          refine At.out (wpList_loadV rfl _ rfl (.tmp 9) rfl strM (R + 1) _ rfl hM10 rfl ?_)
          go_wp2_with (with_reducible refine At.store 71 (.tmp 2) (.tmp 66) ?_)
          refine At.out (wpList_storeV rfl _ rfl (.tmp 2) (.tmp 66) rfl strM G _ #[.int .i64 (v1 : Int), .int .i64 (v2 : Int), .int .i64 (v3 : Int), .slice an k cn, .slice a9 l6.length c9] rfl rfl hG10 rfl rfl (by simp [Value.oneCell']) ?_)
          intro w11 hB11 hbel hoth
          have hb11 := hbel G w hbw10 (Nat.le_refl _)
          have ho11 := own_base (own_same ho10 (fun k hk => hoth k (by omega))) (show G ≤ w8.heap.size by omega)
          have hn11 := own_same hn10 (fun k hk => hoth k (by omega))
          have hrn := own_base hn11 (show G ≤ R + 2 by omega)
          go_wp2_with fail
          rw [HYY.out]
          exact bodyPost_ret (v := .tuple #[.agg #[.int .i64 (v1 : Int), .int .i64 (v2 : Int), .int .i64 (v3 : Int), .slice an k cn, .slice a9 l6.length c9], .int .i64 (N : Int), .int .i64 0]) (results_cell3 rfl strM rfl rfl rfl hB11 rfl) rfl (WDP.mk HVL.out.symm rfl (HG.out ▸ hrn) (HG.out ▸ ho11) (HG.out ▸ hb11))
        · have hy : Y = ((0, 0, 0, [], []), 0, 3) := by rw [← HY2.out, if_pos (.inr hv)]
          have HYY := Lib.hid hy
          have hvi : ((v6 : Int) != (l6.length : Int)) = true := by rw [bne_iff_ne]; omega
          clear hy hv
          go_wp2_with (with_reducible refine At.store 71 (.tmp 2) (.tmp 59) ?_)
          refine At.out (wpList_storeV rfl _ rfl (.tmp 2) (.tmp 59) rfl strM G _ #[.int .i64 0, .int .i64 0, .int .i64 0, .slice none 0 0, .slice none 0 0] rfl rfl hG8 rfl rfl (by simp [Value.oneCell']) ?_)
          intro w9 hB9 hbel _
          have hb9 := hbel G w hbw8 (Nat.le_refl _)
          go_wp2_with fail
          rw [HYY.out]
          exact bodyPost_ret (v := .tuple #[.agg #[.int .i64 0, .int .i64 0, .int .i64 0, .slice none 0 0, .slice none 0 0], .int .i64 0, .int .i64 3]) (results_cell3 rfl strM rfl rfl rfl hB9 rfl) rfl (WDP.no 3 (HG.out ▸ hb9))
/-- Decode. -/
theorem wDecode_any (w : World) (a : Option Addr) (c : Nat) (b : List UInt8) (hr : Rd w a c (B8 b)) :
    Calls Try.prog 34 #[.slice a b.length c] w (WDP w (wDec b)) := by
  obtain ⟨P, N, E, hD⟩ : ∃ P N E, decR b = (P, N, E) := ⟨_, _, _, rfl⟩
  by_cases hE : E = 0
  · subst hE
    exact wDec_in w a c b hr P N hD _ rfl
  · have hE' : (decR b).2.2 ≠ 0 := by rw [hD]; exact hE
    have e : wDec b = ((0, 0, 0, [], []), 0, (decR b).2.2) := by unfold wDec; rw [if_pos hE']
    rw [e]
    exact wDec_no w a c b hr hE'
end Go.Proofs.Yteenbobblbehoaa
