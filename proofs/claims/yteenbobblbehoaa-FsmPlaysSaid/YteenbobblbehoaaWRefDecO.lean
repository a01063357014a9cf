/- The document's Decode of a message: the contract. Conditions: each contract's own premises. -/
import Derived.Test.YteenbobblbehoaaWNumsO
import Derived.Test.YteenbobblbehoaaRefDecode
namespace Go.Proofs.Yteenbobblbehoaa
open Go Go.RowKit
attribute [local go_sem ↓] Go.wp_at_zero Go.wp_at_succ

/-- What the document's Decode gives. -/
def WDQ (w : World) (X : (Int × Int × Int × List Int × List UInt8) × Nat × Nat) (e : Ending) (w' : World) : Prop := ∃ an cn ad cd,
  e = .returned (.tuple #[.agg #[.int .i64 X.1.1, .int .i64 X.1.2.1, .int .i64 X.1.2.2.1, .slice an X.1.2.2.2.1.length cn, .slice ad X.1.2.2.2.2.length cd], .int .i64 (X.2.1 : Nat), .int .i64 (X.2.2 : Nat)]) ∧
  w'.ownsRow w.heap.size 3 1 (.slice an X.1.2.2.2.1.length cn) X.1.2.2.2.1.length (BI X.1.2.2.2.1) ∧ Rd w' ad cd (B8 X.1.2.2.2.2) ∧ Below w.heap.size w w'
theorem WDQ.no {w w' : World} (F : Nat) (hb : Below w.heap.size w w') :
    WDQ w ((0, 0, 0, [], []), 0, F) (.returned (.tuple #[.agg #[.int .i64 0, .int .i64 0, .int .i64 0, .slice none 0 0, .slice none 0 0], .int .i64 0, .int .i64 (F : Nat)])) w' :=
  ⟨none, 0, none, 0, rfl, World.ownsRow_nil _ _ _ _, Rd.none _, hb⟩
theorem WDQ.mk {w w' : World} {f t k : Int} {nums : List Int} {data : List UInt8} {an ad : Option Addr} {nn cn nd cd N : Nat} (hn : nn = nums.length) (hd : nd = data.length) (hr : w'.ownsRow w.heap.size 3 1 (.slice an nn cn) nn (BI nums)) (ho : Rd w' ad cd (B8 data)) (hb : Below w.heap.size w w') :
    WDQ w ((f, t, k, nums, data), N, 0) (.returned (.tuple #[.agg #[.int .i64 f, .int .i64 t, .int .i64 k, .slice an nn cn, .slice ad nd cd], .int .i64 (N : Nat), .int .i64 0])) w' := by
  subst hn hd
  exact ⟨an, cn, ad, cd, rfl, hr, ho, hb⟩

set_option maxRecDepth 100000 in
set_option maxHeartbeats 1000000 in
theorem refWDec_no (w : World) (a : Option Addr) (c : Nat) (b : List UInt8) (hr : Rd w a c (B8 b)) (hE : (decR b).2.2 ≠ 0) :
    Calls Try.prog 58 #[.slice a b.length c] w (WDQ w ((0, 0, 0, [], []), 0, (decR b).2.2)) := by
  have hd := fun o => refDecode_any (w.alloc o) a c b (hr.kept ((Below.refl _ _).alloc (Nat.le_refl _) o))
  obtain ⟨P, N, E, hD⟩ : ∃ P N E, decR b = (P, N, E) := ⟨_, _, _, rfl⟩
  rw [hD] at hE hd ⊢
  unfold decV at hd
  simp only at hE hd ⊢
  have HD := Lib.hid hd
  have hEi : ((E : Int) != 0) = true := by rw [bne_iff_ne]; omega
  clear hD hd hE
  obtain ⟨G, hG⟩ : ∃ G, G = w.heap.size := ⟨_, rfl⟩
  have hst : ∀ o, Below w.heap.size w (w.alloc o) := fun o => (Below.refl _ _).alloc (Nat.le_refl _) o
  have HG := Lib.hid hG
  clear hG
  go_enter Try.func58, Try.ntmps58
  go_wp2_with fail
  refine (HD.out _).mono ?_
  rintro e w1 ⟨r1, rfl, ho1, hb1⟩
  have hbw1 : Below w.heap.size w w1 := (hst _).trans (hb1.mono (by simp))
  have hB := (BlkV.new w 71 #[.int .i64 0, .int .i64 0, .int .i64 0, .slice none 0 0, .slice none 0 0]).below hb1
  rw [← HG.out] at hB hbw1 ⊢
  clear ho1 hb1 hst
  go_wp2_with (with_reducible refine At.store 71 (.tmp 2) (.tmp 23) ?_)
  refine At.out (wpList_storeV rfl _ rfl (.tmp 2) (.tmp 23) rfl strM G _ #[.int .i64 0, .int .i64 0, .int .i64 0, .slice none 0 0, .slice none 0 0] rfl rfl hB rfl rfl (by simp [Value.oneCell']) ?_)
  intro w2 hB2 hbel _
  have hb2 := hbel G w hbw1 (Nat.le_refl _)
  go_wp2_with fail
  exact bodyPost_ret (v := .tuple #[.agg #[.int .i64 0, .int .i64 0, .int .i64 0, .slice none 0 0, .slice none 0 0], .int .i64 0, .int .i64 (E : Int)]) (results_cell3 rfl strM rfl rfl rfl hB2 rfl) rfl (WDQ.no E (HG.out ▸ hb2))

theorem Kp.app {S : Nat → Prop} {a b c : World} {B : Nat} (h : Kp S a b) (hb : Below B b c) (hB : a.heap.size ≤ B) : Kp S a c :=
  ⟨hb.os.trans h.os, hb.tape.trans h.tape, hb.output.trans h.output, Nat.le_trans h.size hb.size, fun k hk hs => (hb.block k (by omega)).trans (h.block k hk hs)⟩
theorem kp_other {a b : World} {G : Nat} (h : ∀ k, k ≠ G → b.heap[k]? = a.heap[k]?) (hb : Below 0 a b) : Kp (· = G) a b := ⟨hb.os, hb.tape, hb.output, hb.size, fun k _ hs => h k hs⟩
/-- Bytes do not lie in a block of a message. -/
theorem rd_far {a b : World} {G : Nat} {t : TypeId} {cs : Array Value} {ad : Option Addr} {cd : Nat} {d : List UInt8} (hr : Rd a ad cd (B8 d)) (hk : Kp (· = G) a b) (hG : BlkV a G t cs) (hcs : ∀ v ∈ cs.toList, ∀ n, v ≠ .int .u8 n := by simp) : Rd b ad cd (B8 d) := by
  refine ⟨hr.1, hr.2.1, hr.2.2.1, ?_⟩
  intro j u hu
  obtain ⟨bb, o, ha, hc⟩ := hr.cs j u hu
  refine ⟨bb, o, ha, ?_⟩
  have hlt := World.block_lt_of_cell? a _ hc
  by_cases hg : bb = G
  · exfalso
    subst hg
    have := hG.cell (o + j)
    rw [hc] at this
    have hm : u ∈ cs.toList := by
      have h2 := this.symm
      rw [Array.getElem?_eq_some_iff] at h2
      obtain ⟨h3, h4⟩ := h2
      rw [← h4]
      simp
    have hu2 : u ∈ B8 d := List.mem_of_getElem? hu
    obtain ⟨x, _, rfl⟩ := List.mem_map.1 hu2
    exact hcs _ hm _ rfl
  · rw [hk.cell hlt hg]; exact hc
theorem numsR_one (l : List UInt8) : numsR 1 l = if (rd l).2.2 = 0 then some ([(rd l).1], l.drop (rd l).2.1) else none := by
  by_cases h : (rd l).2.2 = 0
  · rw [if_pos h]; simpa using numsR_yes (numsR_zero l) h
  · rw [if_neg h]; exact numsR_no1 (numsR_zero l) h
/-- A message's parts, as the document comes to them. -/
theorem bodyD_none1 {p : List UInt8} (h : numsR 4 p = none) : bodyD p = none := by unfold bodyD; rw [h]
theorem bodyD_none2 {p r : List UInt8} {f t k c : Nat} (h : numsR 4 p = some ([f, t, k, c], r)) (hb : ¬ (f ≤ 2147483647 ∧ t ≤ 2147483647 ∧ k ≤ 2147483647 ∧ c ≤ 64)) : bodyD p = none := by unfold bodyD; rw [h]; simp only; rw [if_neg hb]
theorem bodyD_none3 {p r : List UInt8} {f t k c : Nat} (h : numsR 4 p = some ([f, t, k, c], r)) (hn : numsR c r = none) : bodyD p = none := by
  unfold bodyD; rw [h]; simp only; rw [hn]; simp
theorem bodyD_rest {p r r2 : List UInt8} {f t k c : Nat} {l : List Nat} (h : numsR 4 p = some ([f, t, k, c], r)) (hb : f ≤ 2147483647 ∧ t ≤ 2147483647 ∧ k ≤ 2147483647 ∧ c ≤ 64) (hn : numsR c r = some (l, r2)) :
    bodyD p = match numsR 1 r2 with
      | none => none
      | some (s, d) => if s = [d.length] ∧ d.length ≤ 1047552 then some (f, t, k, l, d) else none := by
  unfold bodyD; rw [h]; simp only; rw [if_pos hb, hn, numsR_one]
  simp only
  by_cases he : (rd r2).2.2 = 0
  · rw [if_pos he]
    simp only [List.cons.injEq, and_true, he, true_and]
    by_cases h2 : (rd r2).1 = (r2.drop (rd r2).2.1).length
    · simp only [h2, true_and]
    · rw [if_neg (fun h => h2 h.1), if_neg (fun h => h2 h.1)]
  · rw [if_neg he, if_neg (fun h => he h.1)]
theorem four (vs : List Nat) (h : vs.length = 4) : ∃ f t k c, vs = [f, t, k, c] := by
  match vs, h with
  | [f, t, k, c], _ => exact ⟨f, t, k, c, rfl⟩

/-- What the law for the parts says of the whole. -/
def outD (X : Option (Nat × Nat × Nat × List Nat × List UInt8)) (N : Nat) : (Int × Int × Int × List Int × List UInt8) × Nat × Nat :=
  match X with
  | some (f, t, k, l, d) => (((f : Int), (t : Int), (k : Int), zagL l, d), N, 0)
  | none => ((0, 0, 0, [], []), 0, 3)

set_option maxRecDepth 100000 in
set_option maxHeartbeats 8000000 in
theorem refWDec_in (w : World) (a : Option Addr) (c : Nat) (b : List UInt8) (hr : Rd w a c (B8 b)) (P : List UInt8) (N : Nat) (hD : decR b = (P, N, 0)) (Y : (Int × Int × Int × List Int × List UInt8) × Nat × Nat) (hY : outD (bodyD P) N = Y) :
    Calls Try.prog 58 #[.slice a b.length c] w (WDQ w Y) := by
  have hd := fun o => refDecode_any (w.alloc o) a c b (hr.kept ((Below.refl _ _).alloc (Nat.le_refl _) o))
  have hPl := decR_le b
  rw [hD] at hd hPl
  unfold decV at hd
  simp only at hd hPl
  have HD := Lib.hid hd
  have HY := Lib.hid hY
  clear hD hd hY
  obtain ⟨G, hG⟩ : ∃ G, G = w.heap.size := ⟨_, rfl⟩
  have hst : ∀ o, Below w.heap.size w (w.alloc o) := fun o => (Below.refl _ _).alloc (Nat.le_refl _) o
  have HG := Lib.hid hG
  clear hG
  go_enter Try.func58, Try.ntmps58
  go_wp2_with fail
  refine (HD.out _).mono ?_
  rintro e w1 ⟨r1, rfl, ho1, hb1⟩
  have hbw1 : Below w.heap.size w w1 := (hst _).trans (hb1.mono (by simp))
  have hBG1 := (BlkV.new w 71 #[.int .i64 0, .int .i64 0, .int .i64 0, .slice none 0 0, .slice none 0 0]).below hb1
  obtain ⟨rp, cp, rfl, hP1⟩ := Rd.ofOwn ho1
  rw [← HG.out] at hBG1 hbw1 ⊢
  clear ho1 hb1 hst
  have hGlt := hBG1.lt
  obtain ⟨X4, hX4⟩ : ∃ X, X = numsR 4 P := ⟨_, rfl⟩
  have hn4 := refNumbers_any w1 rp cp P 4 (by omega) hP1
  rw [← hX4] at hn4
  have HX4 := Lib.hid hX4
  have HN4 := Lib.hid hn4
  clear hX4 hn4
  go_wp2_with fail
  refine (HN4.out).mono ?_
  clear HN4
  rintro e w2 ⟨hb2, ⟨rfl, rfl⟩ | ⟨vs, p1, av, cv, ap, cp1, rfl, rfl, ho2, hs2⟩⟩
  · have hG2 := hBG1.below hb2
    have hbw2 := hbw1.trans (hb2.mono (by omega))
    have hy : Y = ((0, 0, 0, [], []), 0, 3) := by rw [← HY.out, bodyD_none1 HX4.out.symm]; rfl
    have HYY := Lib.hid hy
    clear hy
    go_wp2_with (with_reducible refine At.store 71 (.tmp 2) (.tmp 57) ?_)
    refine At.out (wpList_storeV rfl _ rfl (.tmp 2) (.tmp 57) rfl strM G _ #[.int .i64 0, .int .i64 0, .int .i64 0, .slice none 0 0, .slice none 0 0] rfl rfl hG2 rfl rfl (by simp [Value.oneCell']) ?_)
    intro w9 hB9 hbel _
    have hb9 := hbel G w hbw2 (Nat.le_refl _)
    go_wp2_with fail
    rw [HYY.out]
    exact bodyPost_ret (v := .tuple #[.agg #[.int .i64 0, .int .i64 0, .int .i64 0, .slice none 0 0, .slice none 0 0], .int .i64 0, .int .i64 3]) (results_cell3 rfl strM rfl rfl rfl hB9 rfl) rfl (WDQ.no 3 (HG.out ▸ hb9))
  · have hvl4 := (numsR_len HX4.out.symm).1
    obtain ⟨f, t, k, c4, rfl⟩ := four vs hvl4
    have hbd := (numsR_len HX4.out.symm).2.2
    have hf64 := hbd f (by simp)
    have ht64 := hbd t (by simp)
    have hk64 := hbd k (by simp)
    have hc64 := hbd c4 (by simp)
    clear hbd hvl4
    have ho2 : w2.ownsRow w1.heap.size 68 1 (.slice av 4 cv) 4 (B64 [f, t, k, c4]) := ho2
    obtain ⟨g, cap, hav, hg1, hg2, hg3, hg4⟩ := own_pos ho2 (by omega)
    simp only [Value.slice.injEq, true_and] at hav
    obtain ⟨rfl, rfl⟩ := hav
    have q0 := ho2.cellAt 0 (by omega)
    have q1 := ho2.cellAt 1 (by omega)
    have q2 := ho2.cellAt 2 (by omega)
    have q3 := ho2.cellAt 3 (by omega)
    simp only [B64, List.map_cons, List.map_nil, List.getElem?_cons_succ, List.getElem?_cons_zero] at q0 q1 q2 q3
    have hG2 := hBG1.below hb2
    have hbw2 := hbw1.trans (hb2.mono (by omega))
    have hcv4 : (4 : Int) ≤ (cv : Int) := by omega
    by_cases hbad : f ≤ 2147483647 ∧ t ≤ 2147483647 ∧ k ≤ 2147483647 ∧ c4 ≤ 64
    · obtain ⟨j0, j1, j2, j3⟩ := hbad
      have i0 : (f : Int) ≤ 2147483647 := by omega
      have i1 : (t : Int) ≤ 2147483647 := by omega
      have i2 : (k : Int) ≤ 2147483647 := by omega
      have i3 : (c4 : Int) ≤ 64 := by omega
      have n0 := World.new_ne w2 _ q0
      have n1 := World.new_ne w2 _ q1
      have n2 := World.new_ne w2 _ q2
      go_wp2_with fail
      go_region_held3 (fun V => V.cell? ⟨g, 0, none⟩ = some (.int .u64 (f : Int)) ∧ V.cell? ⟨g, 1, none⟩ = some (.int .u64 (t : Int)) ∧ V.cell? ⟨g, 2, none⟩ = some (.int .u64 (k : Int))) (go_keep) (fail)
      go_wp2_with fail
      obtain ⟨W3, hW3⟩ : ∃ W3, W3 = (w2.alloc (.cells #[.int .i64 (f : Int), .int .i64 (t : Int), .int .i64 (k : Int), .slice none 0 0, .slice none 0 0] 71)).drew := ⟨_, rfl⟩
      obtain ⟨M, hM⟩ : ∃ M, M = w2.heap.size := ⟨_, rfl⟩
      have hM3 : BlkV W3 M 71 #[.int .i64 (f : Int), .int .i64 (t : Int), .int .i64 (k : Int), .slice none 0 0, .slice none 0 0] := by rw [hW3, hM]; exact BlkV.new w2 _ _
      have hb23 : Below w2.heap.size w2 W3 := by rw [hW3]; exact ((Below.refl _ _).alloc (Nat.le_refl _) _).drew
      have hz3 : W3.heap.size = M + 1 := by rw [hW3, hM]; simp
      have hMB : w1.heap.size ≤ M := by rw [hM]; exact hb2.size
      have hG3 := hG2.below hb23
      have hb13 : Below w1.heap.size w1 W3 := hb2.trans (hb23.mono hb2.size)
      rw [← hW3, ← hM]
      have HS : Hid (∀ (W : World) (a' : Option Addr) (c' : Nat) (l' : List UInt8), Below w1.heap.size w1 W → Sub rp cp (B8 P) a' c' (B8 l') → Rd W a' c' (B8 l')) := Lib.hid (fun W a' c' l' hb hs => hs W (hP1.kept hb))
      have HZ3 := Lib.hid hz3
      clear hW3 hM q0 q1 q2 n0 n1 n2 q3 hb23 ho2 hG2 hz3
      obtain ⟨Xc, hXc⟩ : ∃ X, X = numsR c4 p1 := ⟨_, rfl⟩
      have hnc := refNumbers_any W3 ap cp1 p1 c4 (by omega) (HS.out _ _ _ _ hb13 hs2)
      rw [← hXc] at hnc
      have HXc := Lib.hid hXc
      have HNc := Lib.hid hnc
      clear hXc hnc
      refine HNc.out.mono ?_
      clear HNc
      rintro e w4 ⟨hb34, ⟨rfl, rfl⟩ | ⟨l, p2, al, cl, ap2, cp2, rfl, rfl, ho4, hs4⟩⟩
      · have hG4 := hG3.below hb34
        have hbw4 : Below G w w4 := hbw1.trans ((hb13.trans (hb34.mono (by have := HZ3.out; omega))).mono (by omega))
        have hy : Y = ((0, 0, 0, [], []), 0, 3) := by rw [← HY.out, bodyD_none3 HX4.out.symm HXc.out.symm]; rfl
        have HYY := Lib.hid hy
        clear hy
        go_wp2_with (with_reducible refine At.store 71 (.tmp 2) (.tmp 83) ?_)
        refine At.out (wpList_storeV rfl _ rfl (.tmp 2) (.tmp 83) rfl strM G _ #[.int .i64 0, .int .i64 0, .int .i64 0, .slice none 0 0, .slice none 0 0] rfl rfl hG4 rfl rfl (by simp [Value.oneCell']) ?_)
        intro w9 hB9 hbel _
        have hb9 := hbel G w hbw4 (Nat.le_refl _)
        go_wp2_with fail
        rw [HYY.out]
        exact bodyPost_ret (v := .tuple #[.agg #[.int .i64 0, .int .i64 0, .int .i64 0, .slice none 0 0, .slice none 0 0], .int .i64 0, .int .i64 3]) (results_cell3 rfl strM rfl rfl rfl hB9 rfl) rfl (WDQ.no 3 (HG.out ▸ hb9))
      · have hlen := numsR_len HXc.out.symm
        have hl4 : l.length = c4 := hlen.1
        have hl64 := hlen.2.2
        have HL64 := Lib.hid hl64
        have hb14 : Below w1.heap.size w1 w4 := hb13.trans (hb34.mono (by have := HZ3.out; omega))
        have hM4 := hM3.below hb34
        have hG4 := hG3.below hb34
        have hs4 := hs2.trans hs4
        have hll : l.length ≤ 64 := by omega
        have hM34 : M + 1 ≤ W3.heap.size := by have := HZ3.out; omega
        have HR : Hid (bodyD P = match numsR 1 p2 with
          | none => none
          | some (s, d) => if s = [d.length] ∧ d.length ≤ 1047552 then some (f, t, k, l, d) else none) := Lib.hid (bodyD_rest HX4.out.symm ⟨j0, j1, j2, j3⟩ HXc.out.symm)
        have hlli : (l.length : Int) ≤ 64 := by omega
        clear hlen hl4 hl64 hb13 hG3 hM3 hs2 hb34 i3 j0 j1 j2 j3
        go_wp2_with fail
        go_loopw [13] (fun s13 wr => ∃ (n : Nat) (an : Option Addr) (cn : Nat), n ≤ l.length ∧ s13 = .int .i64 n ∧
          BlkV wr M 71 #[.int .i64 (f : Int), .int .i64 (t : Int), .int .i64 (k : Int), .slice an n cn, .slice none 0 0] ∧ wr.ownsRow w4.heap.size 3 1 (.slice an n cn) n (BI (zagL (l.take n))) ∧ Kp (· = M) w4 wr) (fun s13 _ => l.length - (intOf s13).toNat)
        case atStart => exact ⟨0, none, 0, by omega, rfl, hM4, World.ownsRow_nil _ _ _ _, Kp.refl _ _⟩
        case round =>
          obtain ⟨n, an, cn, hn, rfl, hMk, hok, hkp⟩ := hrel
          have hzr := hMk.lt
          have hz4 := hkp.size
          have hM4lt := hM4.lt
          have hol := own_kp ho4 hkp (fun k h => by omega)
          by_cases hlt : n < l.length
          · obtain ⟨gl, capl, hal, hg1l, hg2l, hg3l, hg4l⟩ := own_pos ho4 (by omega)
            simp only [Value.slice.injEq, true_and] at hal
            obtain ⟨rfl, rfl⟩ := hal
            obtain ⟨u, hu⟩ := u64_of (HL64.out l[n] (List.getElem_mem _))
            have ql := hol.cellAt n (by omega)
            rw [B64_get l n hlt, hu] at ql
            have hzl : Hid (zagL (l.take (n + 1)) = zagL (l.take n) ++ [zag u]) := Lib.hid (by rw [List.take_succ_eq_append_getElem hlt, hu, zagL_snoc])
            have c3 := hMk.cell 3
            have f3 := hMk.frozen 3
            simp only [List.getElem?_toArray, List.getElem?_cons_succ, List.getElem?_cons_zero] at c3
            have hni : (n : Int) < (l.length : Int) := by omega
            have hokd := own_below hok (Below.refl _ _).drew
            have hMkd : BlkV wr.drew M 71 #[.int .i64 (f : Int), .int .i64 (t : Int), .int .i64 (k : Int), .slice an n cn, .slice none 0 0] := hMk
            have hkpd : Kp (· = M) w4 wr.drew := hkp.trans (.fresh (Below.refl _ _).drew)
            have hMw4 : M < w4.heap.size := hM4lt
            have hzd : w4.heap.size ≤ wr.drew.heap.size := hz4
            clear hu
            go_wp2_with fail
            go_region_law (first
              | ((with_reducible refine StepAt 96 ?_); (refine At.out ?_); go_simp; go_at_call 77; refine (refZag_any u _).mono ?_; rintro e w9 ⟨rfl, rfl⟩)
              | ((with_reducible refine StepAt 98 ?_)
                 (refine At.out (step_app (by rfl) (.tmp 91) (.tmp 97) 27 (by rfl) elemI rfl w4.heap.size (.slice an n cn) n (BI (zagL (l.take n))) (by rfl) (hokd.alloc _) _ 1 1 [.int .i64 (zag u)] (by rfl) rfl (Rd.one wr.drew _ _) (one_int _ _) (by unfold maxLen; omega) (by omega) (by simp; omega) ?_))
                 (intro v10 w10 ho10 hb10)
                 (have hM10 := BlkV.at (BlkV.alloc hMkd (.cells #[.int .i64 (zag u)] 3)) hb10 (by omega))
                 (have hkp10 : Kp (· = M) w4 w10 := (hkpd.trans (.fresh ((Below.refl _ _).alloc (Nat.le_refl _) (.cells #[.int .i64 (zag u)] 3)))).app hb10 (Nat.le_refl _))
                 (have m10 := hM10.cell 3)
                 (have f10 := hM10.frozen 3)
                 (simp only [List.getElem?_toArray, List.getElem?_cons_succ, List.getElem?_cons_zero] at m10)
                 (have hz10 : M < w10.heap.size := hM10.lt)
                 (obtain ⟨a10, c10, rfl, _⟩ := Rd.ofOwn ho10)
                 (clear hb10)))
            all_goals
              have hM11 := hM10.set 3 (.slice a10 (n + 1) c10)
              have ho11 := own_setFar ho10 (show M < w4.heap.size by omega) 3 (.slice a10 (n + 1) c10)
              have hk11 := hkp10.setCell (g := M) rfl 3 (.slice a10 (n + 1) c10)
              simp only [List.setIfInBounds_toArray, List.set_cons_zero, List.set_cons_succ] at hM11
              rw [← BI_one', ← hzl.out] at ho11
              clear hM10 ho10 hkp10 m10 f10
              go_wp2
              go_roundw
              case rel => exact ⟨n + 1, a10, c10, by omega, by go_num, hM11, ho11, hk11⟩
              case measure => simp [intOf]; omega
          · obtain rfl : n = l.length := by omega
            rw [List.take_length] at hok
            have hb1r : Below w1.heap.size w1 wr := hb14.trans (hkp.below (fun k h => by omega) hb14.size)
            have hGr := hkp.blkV hG4 (fun h => by omega)
            have hbwr : Below G w wr := hbw1.trans (hb1r.mono (by omega))
            obtain ⟨X1, hX1⟩ : ∃ X, X = numsR 1 p2 := ⟨_, rfl⟩
            have hn1 := refNumbers_any wr ap2 cp2 p2 1 (by omega) (HS.out _ _ _ _ hb1r hs4)
            rw [← hX1] at hn1
            have hR := HR.out
            rw [← hX1] at hR
            have HR2 := Lib.hid hR
            have HN1 := Lib.hid hn1
            have HX1 := Lib.hid hX1
            clear hX1 hn1 hR hol hkp ho4
            go_wp2_with fail
            refine HN1.out.mono ?_
            clear HN1
            rintro e w5 ⟨hb5, ⟨rfl, rfl⟩ | ⟨sl, d, asl, csl, ad, cd, rfl, rfl, ho5, hs5⟩⟩
            · have hG5 := hGr.below hb5
              have hbw5 : Below G w w5 := hbwr.trans (hb5.mono (by omega))
              have hy : Y = ((0, 0, 0, [], []), 0, 3) := by rw [← HY.out, HR2.out]; rfl
              have HYY := Lib.hid hy
              clear hy
              go_wp2_with (with_reducible refine At.store 71 (.tmp 2) (.tmp 122) ?_)
              refine At.out (wpList_storeV rfl _ rfl (.tmp 2) (.tmp 122) rfl strM G _ #[.int .i64 0, .int .i64 0, .int .i64 0, .slice none 0 0, .slice none 0 0] rfl rfl hG5 rfl rfl (by simp [Value.oneCell']) ?_)
              intro w9 hB9 hbel _
              have hb9 := hbel G w hbw5 (Nat.le_refl _)
              go_wp2_with fail
              rw [HYY.out]
              exact bodyPost_ret (v := .tuple #[.agg #[.int .i64 0, .int .i64 0, .int .i64 0, .slice none 0 0, .slice none 0 0], .int .i64 0, .int .i64 3]) (results_cell3 rfl strM rfl rfl rfl hB9 rfl) rfl (WDQ.no 3 (HG.out ▸ hb9))
            · have hs1 := (numsR_len HX1.out.symm).1
              obtain ⟨s0, rfl⟩ : ∃ s0, sl = [s0] := by
                match sl, hs1 with
                | [s0], _ => exact ⟨s0, rfl⟩
              have ho5 : w5.ownsRow wr.heap.size 68 1 (.slice asl 1 csl) 1 (B64 [s0]) := ho5
              obtain ⟨gs, caps, has, hg1s, hg2s, hg3s, hg4s⟩ := own_pos ho5 (by omega)
              simp only [Value.slice.injEq, true_and] at has
              obtain ⟨rfl, rfl⟩ := has
              have qs := ho5.cellAt 0 (by omega)
              simp only [B64, List.map_cons, List.map_nil, List.getElem?_cons_zero] at qs
              have hG5 := hGr.below hb5
              have hM5 := hMk.below hb5
              have hok5 := own_below hok hb5
              have hbw5 : Below G w w5 := hbwr.trans (hb5.mono (by omega))
              have hb15 : Below w1.heap.size w1 w5 := hb1r.trans (hb5.mono hb1r.size)
              have hrd5 := HS.out _ _ _ _ hb15 (hs4.trans hs5)
              have hdl := hrd5.le
              rw [B8_length] at hdl
              have hwd : IntKind.u64.wrap (d.length : Int) = (d.length : Int) := IntWalk.u64_in _ (by omega)
              have hzl : (zagL l).length = l.length := by simp [zagL]
              have HZL := Lib.hid hzl
              have hM5lt := hM5.lt
              clear hzl hs1 ho5 hok hGr hMk
              by_cases hs0 : s0 = d.length
              · by_cases hd0 : d.length ≤ 1047552
                · have hy : Y = (((f : Int), (t : Int), (k : Int), zagL l, d), N, 0) := by
                    rw [← HY.out, HR2.out]; simp only; rw [if_pos ⟨by rw [hs0], hd0⟩]; rfl
                  have HYY := Lib.hid hy
                  have hsi : ((s0 : Int) != (d.length : Int)) = false := by rw [hs0]; simp
                  have hdi : (d.length : Int) ≤ 1047552 := by omega
                  have m4 := hM5.cell 4
                  have f4 := hM5.frozen 4
                  simp only [List.getElem?_toArray, List.getElem?_cons_succ, List.getElem?_cons_zero] at m4
                  clear hy hs0
                  go_wp2_with (with_reducible refine At.slot 125 ?_)
                  obtain ⟨w10, hw10⟩ : ∃ w10, w10 = w5.setCell ⟨M, 4, none⟩ (.slice ad d.length cd) := ⟨_, rfl⟩
                  have hM10 := hM5.set 4 (.slice ad d.length cd)
                  have hG10 := hG5.far (show G ≠ M by omega) 4 (.slice ad d.length cd)
                  have hbw10 : Below G w w10 := by rw [hw10]; exact hbw5.setCell (by simp; omega) _
                  have hn10 := own_setFar hok5 (show M < w4.heap.size by omega) 4 (.slice ad d.length cd)
                  have hb110 : Below w1.heap.size w1 w10 := by rw [hw10]; exact hb15.setCell (by simp; omega) _
                  simp only [List.setIfInBounds_toArray, List.set_cons_zero, List.set_cons_succ] at hM10
                  rw [← hw10] at hM10 hG10 hn10 ⊢
                  clear hM5 hG5 hok5 m4 f4 hw10
                  refine At.out (wpList_loadV rfl _ rfl (.tmp 11) rfl strM M _ rfl hM10 rfl ?_)
                  go_wp2_with (with_reducible refine At.store 71 (.tmp 2) (.tmp 125) ?_)
                  refine At.out (wpList_storeV rfl _ rfl (.tmp 2) (.tmp 125) rfl strM G _ #[.int .i64 (f : Int), .int .i64 (t : Int), .int .i64 (k : Int), .slice an l.length cn, .slice ad d.length cd] rfl rfl hG10 rfl rfl (by simp [Value.oneCell']) ?_)
                  intro w11 hB11 hbel hoth
                  have hb11 := hbel G w hbw10 (Nat.le_refl _)
                  have hb111 := hbel
                  have hn11 := own_same hn10 (fun k hk => hoth k (by omega))
                  have hk11 : Kp (· = G) w10 w11 := kp_other hoth (hbel 0 w10 (Below.refl _ _) (Nat.zero_le _))
                  have hrn : w11.ownsRow w.heap.size 3 1 (.slice an l.length cn) l.length (BI (zagL l)) := own_base hn11 (by have := HG.out; omega)
                  have hrd11 : Rd w11 ad cd (B8 d) := rd_far (HS.out _ _ _ _ hb110 (hs4.trans hs5)) hk11 hG10
                  go_wp2_with fail
                  rw [HYY.out]
                  exact bodyPost_ret (v := .tuple #[.agg #[.int .i64 (f : Int), .int .i64 (t : Int), .int .i64 (k : Int), .slice an l.length cn, .slice ad d.length cd], .int .i64 (N : Int), .int .i64 0]) (results_cell3 rfl strM rfl rfl rfl hB11 rfl) rfl (WDQ.mk HZL.out.symm rfl hrn hrd11 (HG.out ▸ hb11))
                · have hy : Y = ((0, 0, 0, [], []), 0, 3) := by rw [← HY.out, HR2.out]; simp only; rw [if_neg (fun h => hd0 h.2)]; rfl
                  have hsi : ((s0 : Int) != (d.length : Int)) = false := by rw [hs0]; simp
                  have hdi : (1047552 : Int) < (d.length : Int) := by omega
                  clear hs0 hd0
                  have HYY := Lib.hid hy
                  clear hy
                  go_wp2_with (with_reducible refine At.store 71 (.tmp 2) (.tmp 122) ?_)
                  refine At.out (wpList_storeV rfl _ rfl (.tmp 2) (.tmp 122) rfl strM G _ #[.int .i64 0, .int .i64 0, .int .i64 0, .slice none 0 0, .slice none 0 0] rfl rfl hG5 rfl rfl (by simp [Value.oneCell']) ?_)
                  intro w9 hB9 hbel _
                  have hb9 := hbel G w hbw5 (Nat.le_refl _)
                  go_wp2_with fail
                  rw [HYY.out]
                  exact bodyPost_ret (v := .tuple #[.agg #[.int .i64 0, .int .i64 0, .int .i64 0, .slice none 0 0, .slice none 0 0], .int .i64 0, .int .i64 3]) (results_cell3 rfl strM rfl rfl rfl hB9 rfl) rfl (WDQ.no 3 (HG.out ▸ hb9))
              · have hy : Y = ((0, 0, 0, [], []), 0, 3) := by rw [← HY.out, HR2.out]; simp only; rw [if_neg (fun h => hs0 (by simpa using h.1))]; rfl
                have hsi : ((s0 : Int) != (d.length : Int)) = true := by rw [bne_iff_ne]; omega
                clear hs0
                have HYY := Lib.hid hy
                clear hy
                go_wp2_with (with_reducible refine At.store 71 (.tmp 2) (.tmp 122) ?_)
                refine At.out (wpList_storeV rfl _ rfl (.tmp 2) (.tmp 122) rfl strM G _ #[.int .i64 0, .int .i64 0, .int .i64 0, .slice none 0 0, .slice none 0 0] rfl rfl hG5 rfl rfl (by simp [Value.oneCell']) ?_)
                intro w9 hB9 hbel _
                have hb9 := hbel G w hbw5 (Nat.le_refl _)
                go_wp2_with fail
                rw [HYY.out]
                exact bodyPost_ret (v := .tuple #[.agg #[.int .i64 0, .int .i64 0, .int .i64 0, .slice none 0 0, .slice none 0 0], .int .i64 0, .int .i64 3]) (results_cell3 rfl strM rfl rfl rfl hB9 rfl) rfl (WDQ.no 3 (HG.out ▸ hb9))
    · have hy : Y = ((0, 0, 0, [], []), 0, 3) := by rw [← HY.out, bodyD_none2 HX4.out.symm hbad]; rfl
      have hways : 2147483647 < f ∨ (f ≤ 2147483647 ∧ 2147483647 < t) ∨ (f ≤ 2147483647 ∧ t ≤ 2147483647 ∧ 2147483647 < k) ∨ (f ≤ 2147483647 ∧ t ≤ 2147483647 ∧ k ≤ 2147483647 ∧ 64 < c4) := by omega
      clear hbad
      rcases hways with j0 | ⟨j0, j1⟩ | ⟨j0, j1, j2⟩ | ⟨j0, j1, j2, j3⟩
      · have i0 : (2147483647 : Int) < (f : Int) := by omega
        have HYY := Lib.hid hy
        clear hy
        go_wp2_with (with_reducible refine At.store 71 (.tmp 2) (.tmp 57) ?_)
        refine At.out (wpList_storeV rfl _ rfl (.tmp 2) (.tmp 57) rfl strM G _ #[.int .i64 0, .int .i64 0, .int .i64 0, .slice none 0 0, .slice none 0 0] rfl rfl hG2 rfl rfl (by simp [Value.oneCell']) ?_)
        intro w9 hB9 hbel _
        have hb9 := hbel G w hbw2 (Nat.le_refl _)
        go_wp2_with fail
        rw [HYY.out]
        exact bodyPost_ret (v := .tuple #[.agg #[.int .i64 0, .int .i64 0, .int .i64 0, .slice none 0 0, .slice none 0 0], .int .i64 0, .int .i64 3]) (results_cell3 rfl strM rfl rfl rfl hB9 rfl) rfl (WDQ.no 3 (HG.out ▸ hb9))
      · have i0 : (f : Int) ≤ 2147483647 := by omega
        have i1 : (2147483647 : Int) < (t : Int) := by omega
        have HYY := Lib.hid hy
        clear hy
        go_wp2_with (with_reducible refine At.store 71 (.tmp 2) (.tmp 57) ?_)
        refine At.out (wpList_storeV rfl _ rfl (.tmp 2) (.tmp 57) rfl strM G _ #[.int .i64 0, .int .i64 0, .int .i64 0, .slice none 0 0, .slice none 0 0] rfl rfl hG2 rfl rfl (by simp [Value.oneCell']) ?_)
        intro w9 hB9 hbel _
        have hb9 := hbel G w hbw2 (Nat.le_refl _)
        go_wp2_with fail
        rw [HYY.out]
        exact bodyPost_ret (v := .tuple #[.agg #[.int .i64 0, .int .i64 0, .int .i64 0, .slice none 0 0, .slice none 0 0], .int .i64 0, .int .i64 3]) (results_cell3 rfl strM rfl rfl rfl hB9 rfl) rfl (WDQ.no 3 (HG.out ▸ hb9))
      · have i0 : (f : Int) ≤ 2147483647 := by omega
        have i1 : (t : Int) ≤ 2147483647 := by omega
        have i2 : (2147483647 : Int) < (k : Int) := by omega
        have HYY := Lib.hid hy
        clear hy
        go_wp2_with (with_reducible refine At.store 71 (.tmp 2) (.tmp 57) ?_)
        refine At.out (wpList_storeV rfl _ rfl (.tmp 2) (.tmp 57) rfl strM G _ #[.int .i64 0, .int .i64 0, .int .i64 0, .slice none 0 0, .slice none 0 0] rfl rfl hG2 rfl rfl (by simp [Value.oneCell']) ?_)
        intro w9 hB9 hbel _
        have hb9 := hbel G w hbw2 (Nat.le_refl _)
        go_wp2_with fail
        rw [HYY.out]
        exact bodyPost_ret (v := .tuple #[.agg #[.int .i64 0, .int .i64 0, .int .i64 0, .slice none 0 0, .slice none 0 0], .int .i64 0, .int .i64 3]) (results_cell3 rfl strM rfl rfl rfl hB9 rfl) rfl (WDQ.no 3 (HG.out ▸ hb9))
      · have i0 : (f : Int) ≤ 2147483647 := by omega
        have i1 : (t : Int) ≤ 2147483647 := by omega
        have i2 : (k : Int) ≤ 2147483647 := by omega
        have i3 : (64 : Int) < (c4 : Int) := by omega
        have HYY := Lib.hid hy
        clear hy
        go_wp2_with (with_reducible refine At.store 71 (.tmp 2) (.tmp 57) ?_)
        refine At.out (wpList_storeV rfl _ rfl (.tmp 2) (.tmp 57) rfl strM G _ #[.int .i64 0, .int .i64 0, .int .i64 0, .slice none 0 0, .slice none 0 0] rfl rfl hG2 rfl rfl (by simp [Value.oneCell']) ?_)
        intro w9 hB9 hbel _
        have hb9 := hbel G w hbw2 (Nat.le_refl _)
        go_wp2_with fail
        rw [HYY.out]
        exact bodyPost_ret (v := .tuple #[.agg #[.int .i64 0, .int .i64 0, .int .i64 0, .slice none 0 0, .slice none 0 0], .int .i64 0, .int .i64 3]) (results_cell3 rfl strM rfl rfl rfl hB9 rfl) rfl (WDQ.no 3 (HG.out ▸ hb9))
/-- The document's Decode. -/
theorem refWDecode_any (w : World) (a : Option Addr) (c : Nat) (b : List UInt8) (hr : Rd w a c (B8 b)) :
    Calls Try.prog 58 #[.slice a b.length c] w (WDQ w (wDec b)) := by
  obtain ⟨P, N, E, hD⟩ : ∃ P N E, decR b = (P, N, E) := ⟨_, _, _, rfl⟩
  by_cases hE : E = 0
  · subst hE
    refine refWDec_in w a c b hr P N hD _ ?_
    unfold wDec outD; rw [hD]; simp only [ne_eq, not_true_eq_false, if_false]; cases bodyD P <;> rfl
  · have hE' : (decR b).2.2 ≠ 0 := by rw [hD]; exact hE
    have e : wDec b = ((0, 0, 0, [], []), 0, (decR b).2.2) := by unfold wDec; rw [if_pos hE']
    rw [e]
    exact refWDec_no w a c b hr hE'
end Go.Proofs.Yteenbobblbehoaa
