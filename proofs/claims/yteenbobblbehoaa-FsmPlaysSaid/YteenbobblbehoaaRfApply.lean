/- The document's Apply: the contract. Conditions: its own premises. -/
import Derived.Test.YteenbobblbehoaaRfTab
import Derived.Test.YteenbobblbehoaaWRefDecO
import Derived.Test.YteenbobblbehoaaFsmTab
namespace Go.Proofs.Yteenbobblbehoaa
open Go Go.RowKit

theorem RAns.lift {w W w' : World} {F : Nat → Prop} {g : Nat} {X : (List Int × Nat) × List Vl} {e : Ending} (hb : Below w.heap.size w W) (h : RAns W F g X e w') : RAns w F g X e w' := by
  obtain ⟨a, c, h1, h2, h3, h4⟩ := h
  refine ⟨a, c, h1, h2, h3.sub (fun k h => h.elim .inl fun h => .inr ⟨Nat.le_trans hb.size h.1, h.2⟩) fun k h => h.elim (fun h => h3.lt k (.inl h)) (·.2), (Off.ofBelow hb).then h4⟩
theorem RAns.slice {w w' : World} {F : Nat → Prop} {g : Nat} {X : (List Int × Nat) × List Vl} {e : Ending} (h : RAns w F g X e w') : ∃ a n c k, e = .returned (.tuple #[.slice a n c, .int .i64 k]) ∧ RAns w F g X (.returned (.tuple #[.slice a n c, .int .i64 k])) w' := by
  obtain ⟨a, c, rfl, h2⟩ := h
  exact ⟨a, _, c, _, rfl, a, c, rfl, h2⟩
theorem own_drop3 {w : World} {base b cn nn : Nat} {nums : List Int} (ho : w.ownsRow base 3 1 (.slice (some ⟨b, 0, none⟩) nn cn) nn (BI nums)) (h3 : 3 ≤ nn) :
    Rd w (if cn = 3 then some ⟨b, 0, none⟩ else some ⟨b, 3, none⟩) (cn - 3) (BI (nums.drop 3)) := by
  have hl : nums.length = nn := by have := ho.1; rw [BI_length] at this; omega
  obtain ⟨a', c', he, hr⟩ := Rd.ofOwn ho
  cases he
  have h1 := hr.1
  have h2 := hr.2.1
  rw [BI_length] at h1
  by_cases hc : cn = 3
  · rw [if_pos hc]
    have : nums.drop 3 = [] := List.drop_of_length_le (by omega)
    rw [this]
    exact ⟨by simp [BI], by omega, fun h => by simp at h, Cs.nil _ _⟩
  · rw [if_neg hc]
    refine ⟨by rw [BI_length, List.length_drop]; omega, by omega, fun h => by simp at h, fun j u hu => ?_⟩
    have hu' : (BI nums)[j + 3]? = some u := by
      rw [← hu]; simp [BI, List.getElem?_drop, Nat.add_comm]
    obtain ⟨b', o', he, hc'⟩ := hr.cs (j + 3) u hu'
    cases he
    exact ⟨b, 3, rfl, by rw [show 3 + j = 0 + (j + 3) by omega]; exact hc'⟩
theorem mayB_no {kd : Int} {n : Nat} (h : kd < 1 ∨ 6 < kd) : mayB kd n = false := by
  unfold mayB
  rw [if_neg (by omega), if_neg (by omega), if_neg (by omega), if_neg (by omega), if_neg (by omega)]
theorem Off.cell {F : Nat → Prop} {w w' : World} {p : Addr} (h : Off F w w') (hp : p.block < w.heap.size) (hF : ¬ F p.block) : w'.cell? p = w.cell? p := World.cell?_of_block (h.block p.block hp hF)
theorem apS {F : Nat → Prop} {W V : World} {K b0 z : Nat} {x2 x3 y0 y1 y2 : Value} (h : Off F W V) (hK : K < W.heap.size) (hKF : ¬ F K) (hb : b0 < W.heap.size) (hbF : ¬ F b0) (c2 : W.cell? ⟨K, 2, none⟩ = some x2) (c3 : W.cell? ⟨K, 3, none⟩ = some x3) (u0 : W.cell? ⟨b0, 0, none⟩ = some y0) (u1 : W.cell? ⟨b0, 1, none⟩ = some y1) (u2 : W.cell? ⟨b0, z, none⟩ = some y2) :
    V.cell? ⟨K, 2, none⟩ = some x2 ∧ V.cell? ⟨K, 3, none⟩ = some x3 ∧ V.cell? ⟨b0, 0, none⟩ = some y0 ∧ V.cell? ⟨b0, 1, none⟩ = some y1 ∧ V.cell? ⟨b0, z, none⟩ = some y2 :=
  ⟨(h.cell (p := ⟨K, 2, none⟩) hK hKF).trans c2, (h.cell (p := ⟨K, 3, none⟩) hK hKF).trans c3, (h.cell (p := ⟨b0, 0, none⟩) hb hbF).trans u0, (h.cell (p := ⟨b0, 1, none⟩) hb hbF).trans u1, (h.cell (p := ⟨b0, z, none⟩) hb hbF).trans u2⟩
theorem RAns.off {w w' : World} {F : Nat → Prop} {g : Nat} {X : (List Int × Nat) × List Vl} {e : Ending} (h : RAns w F g X e w') : Off F w w' := by
  obtain ⟨a, c, h1, h2, h3, h4⟩ := h
  exact h4
def OkD (L : List Vl) : Prop := ∀ V ∈ L, 0 ≤ V.st ∧ Dist V.nodes

set_option maxRecDepth 100000 in
set_option maxHeartbeats 8000000 in
theorem rApply_any (w : World) (F : Nat → Prop) (g : Nat) (L : List Vl) (hT : RefT w F g L) (hok : OkL L) (hD : OkD L) (hLm : L.length ≤ 4096) (a : Option Addr) (c : Nat) (b : List UInt8) (hr : Rd w a c (B8 b)) :
    Calls Try.prog 39 #[.pointer (some ⟨g, 0, none⟩), .slice a b.length c] w (RAns w F g (applyL L b)) := by
  have hd := refWDecode_any w a c b hr
  obtain ⟨X, hX⟩ : ∃ X, X = applyL L b := ⟨_, rfl⟩
  rw [← hX]
  unfold applyL at hX
  obtain ⟨⟨⟨fr, tt, kd, nums, data⟩, N, E⟩, hDe⟩ : ∃ D, D = wDec b := ⟨_, rfl⟩
  rw [← hDe] at hd hX
  obtain ⟨bn, hbn⟩ : ∃ bn, bn = b.length := ⟨_, rfl⟩
  rw [← hbn] at hd hX ⊢
  have HD := Lib.hid hd
  have HX := Lib.hid hX
  have HDD := Lib.hid hDe
  have HT := Lib.hid hT
  have hbl : (bn : Int) ≤ 9223372036854775807 := by have := hr.le; rw [B8_length, ← hbn] at this; omega
  clear hd hX hDe hT hr hbn
  go_enter Try.func39, Try.ntmps39
  go_wp2_with fail
  refine HD.out.mono ?_
  rintro e w1 ⟨an, cn, ad, cd, rfl, ho1, hr2, hb1⟩
  dsimp only at ho1 hr2
  obtain ⟨nn, hnn⟩ : ∃ nn, nn = nums.length := ⟨_, rfl⟩
  obtain ⟨dn, hdn⟩ : ∃ dn, dn = data.length := ⟨_, rfl⟩
  rw [← hnn] at ho1
  obtain ⟨K, hK⟩ : ∃ K, K = w1.heap.size := ⟨_, rfl⟩
  obtain ⟨W2, hW2⟩ : ∃ W2, W2 = w1.alloc (.cells #[.int .i64 fr, .int .i64 tt, .int .i64 kd, .slice an nn cn, .slice ad dn cd] 71) := ⟨_, rfl⟩
  have hbA : Below w1.heap.size w1 W2 := by rw [hW2]; exact (Below.refl _ _).alloc (Nat.le_refl _) _
  have hb2 : Below w.heap.size w W2 := hb1.trans (hbA.mono hb1.size)
  have hP : BlkV W2 K 71 #[.int .i64 fr, .int .i64 tt, .int .i64 kd, .slice an nn cn, .slice ad dn cd] := by rw [hW2, hK]; exact BlkV.new w1 _ _
  have ho2 := own_below ho1 hbA
  have m0 := hP.cell 0
  have m1 := hP.cell 1
  have m2 := hP.cell 2
  have m3 := hP.cell 3
  have m4 := hP.cell 4
  have mz := hP.lt
  simp only [List.getElem?_toArray, List.getElem?_cons_succ, List.getElem?_cons_zero] at m0 m1 m2 m3 m4
  have HNN := Lib.hid hnn
  have HDN := Lib.hid hdn
  have HK := Lib.hid hK
  have HW2 := Lib.hid hW2
  have HB2 := Lib.hid hb2
  have HKW := Lib.hid hb1.size
  have HO2 := Lib.hid ho2
  clear hnn hdn hK hW2 hb2 ho2 ho1 hr2 hb1 hbA hP
  go_upto_region 2 with (fail)
  rw [← HNN.out, ← HDN.out, ← HW2.out, ← HK.out]
  have hTw := HT.out.kept HB2.out
  have HTW := Lib.hid hTw
  clear hTw
  by_cases g1 : E = 0
  case neg =>
    have q1 : ((E : Int) != 0) = true := by rw [bne_iff_ne]; omega
    have hx := HX.out
    rw [if_pos (.inl g1)] at hx
    have HXX := Lib.hid hx
    clear hx g1
    go_wp2
    go_ret2
    rw [HXX.out]
    exact RAns.no 3 HT.out HB2.out
  have q1 : ((E : Int) != 0) = false := by rw [g1]; rfl
  by_cases g2 : N = bn
  case neg =>
    have q2 : ((N : Int) != (bn : Int)) = true := by rw [bne_iff_ne]; omega
    have hx := HX.out
    rw [if_pos (.inr (.inl g2))] at hx
    have HXX := Lib.hid hx
    clear hx g1 g2
    go_wp2
    go_ret2
    rw [HXX.out]
    exact RAns.no 3 HT.out HB2.out
  have q2 : ((N : Int) != (bn : Int)) = false := by rw [g2]; simp
  by_cases g3 : fr = 0
  case neg =>
    have q3 : (fr != 0) = true := by simpa using g3
    have hx := HX.out
    rw [if_pos (.inr (.inr (.inl g3)))] at hx
    have HXX := Lib.hid hx
    clear hx g1 g2 g3
    go_wp2
    go_ret2
    rw [HXX.out]
    exact RAns.no 3 HT.out HB2.out
  have q3 : (fr != 0) = false := by rw [g3]; rfl
  by_cases g4 : tt = 0
  case neg =>
    have q4 : (tt != 0) = true := by simpa using g4
    have hx := HX.out
    rw [if_pos (.inr (.inr (.inr (.inl g4))))] at hx
    have HXX := Lib.hid hx
    clear hx g1 g2 g3 g4
    go_wp2
    go_ret2
    rw [HXX.out]
    exact RAns.no 3 HT.out HB2.out
  have q4 : (tt != 0) = false := by rw [g4]; rfl
  by_cases k1 : kd < 1
  case pos =>
    have g6 : mayB kd nums.length = false := mayB_no (.inl k1)
    have hx := HX.out
    rw [if_pos (.inr (.inr (.inr (.inr (.inr g6)))))] at hx
    have HXX := Lib.hid hx
    clear hx g1 g2 g3 g4 g6
    go_wp2
    go_ret2
    rw [HXX.out]
    exact RAns.no 3 HT.out HB2.out
  by_cases k6 : 6 < kd
  case pos =>
    have g6 : mayB kd nums.length = false := mayB_no (.inr k6)
    have hx := HX.out
    rw [if_pos (.inr (.inr (.inr (.inr (.inr g6)))))] at hx
    have HXX := Lib.hid hx
    clear hx g1 g2 g3 g4 g6
    go_wp2
    go_ret2
    rw [HXX.out]
    exact RAns.no 3 HT.out HB2.out
  by_cases g5 : 0 < data.length
  case pos =>
    have q5 : (0 : Int) < (dn : Int) := by have := HDN.out; omega
    have hx := HX.out
    rw [if_pos (.inr (.inr (.inr (.inr (.inl g5)))))] at hx
    have HXX := Lib.hid hx
    clear hx g1 g2 g3 g4 g5
    go_wp2
    go_ret2
    rw [HXX.out]
    exact RAns.no 3 HT.out HB2.out
  have q5 : ¬ (0 : Int) < (dn : Int) := by have := HDN.out; omega
  have hlen64 : nn ≤ 64 := by rw [HNN.out]; exact wDec_len (by rw [← HDD.out, g1])
  have hgood : ∀ (_ : mayB kd nums.length = true), X = opL L kd nums := by
    intro g6
    have hx := HX.out
    rw [if_neg (by rintro (h | h | h | h | h | h) <;> first | exact h g1 | exact h g2 | exact h g3 | exact h g4 | exact g5 h | simp [g6] at h)] at hx
    exact hx
  have hbad : ∀ (_ : mayB kd nums.length = false), X = (([], 3), L) := by
    intro g6
    have hx := HX.out
    rw [if_pos (.inr (.inr (.inr (.inr (.inr g6)))))] at hx
    exact hx
  have HGOOD := Lib.hid hgood
  have HBAD := Lib.hid hbad
  have hkd : kd = 1 ∨ kd = 2 ∨ kd = 3 ∨ kd = 4 ∨ kd = 5 ∨ kd = 6 := by omega
  clear g1 g2 g3 g4 g5 k1 k6 hgood hbad
  rcases hkd with rfl | rfl | rfl | rfl | rfl | rfl
  · by_cases hc : nn = 0
    · have c1 : ((nn : Int) != 0) = false := by rw [hc]; rfl
      have hx : X = (([], 0), L) := HGOOD.out (by rw [← HNN.out, hc]; rfl)
      have HXX := Lib.hid hx
      clear hx hc
      go_wp2
      go_ret2
      rw [HXX.out]
      exact RAns.no 0 HT.out HB2.out
    · have c1 : ((nn : Int) != 0) = true := by rw [bne_iff_ne]; omega
      have hx := HBAD.out (by rw [← HNN.out]; simpa [mayB] using hc)
      have HXX := Lib.hid hx
      clear hx hc
      go_wp2
      go_ret2
      rw [HXX.out]
      exact RAns.no 3 HT.out HB2.out
  · have hx : X = growR L nums := by rw [growR_eq]; exact HGOOD.out rfl
    obtain ⟨an', cn', he, hrn⟩ := Rd.ofOwn HO2.out
    cases he
    have hgr := rGrow_any W2 F g L HTW.out hLm an cn nn nums HNN.out hrn (by omega)
    have HXX := Lib.hid hx
    have HGR := Lib.hid hgr
    clear hx hrn hgr
    go_wp2_with fail
    refine HGR.out.mono ?_
    intro e w3 h3
    obtain ⟨a3, n3, c3, k3, rfl, h4⟩ := RAns.slice h3
    have H4 := Lib.hid h4
    clear h3 h4
    go_wp2
    go_ret2
    rw [HXX.out]
    exact RAns.lift HB2.out H4.out
  · by_cases hc : nn = 2
    · have c1 : ((nn : Int) != 2) = false := by rw [hc]; rfl
      have hx : X = assignL L (nums.getD 0 0) (nums.getD 1 0) := HGOOD.out (by rw [← HNN.out, hc]; rfl)
      obtain ⟨b0, cap, he, _, hb0, hcap, hcm⟩ := own_pos HO2.out (by omega)
      cases he
      have hnl : nums.length = nn := HNN.out.symm
      have hat := fun k (hk : k < nn) => (HO2.out.cellAt k (by omega)).trans (show (BI nums)[k]? = some (.int .i64 (nums.getD k 0)) by simp [BI, hnl, hk, List.getD])
      have u0 := hat 0 (by omega)
      obtain ⟨x0, hx0⟩ : ∃ x0, x0 = nums.getD 0 0 := ⟨_, rfl⟩
      rw [← hx0] at u0
      have u1 := hat 1 (by omega)
      obtain ⟨x1, hx1⟩ : ∃ x1, x1 = nums.getD 1 0 := ⟨_, rfl⟩
      rw [← hx1] at u1
      rw [← hx0, ← hx1] at hx
      have hbg : w.heap.size ≤ b0 := (HO2.out.lt b0 rfl).1
      have hbF : ¬ F b0 := fun h => by have := HT.out.lt b0 h; omega
      have hKF : ¬ F K := fun h => by have := HT.out.lt K h; have := HK.out; have := HKW.out; omega
      have has := fun W (hb : Below W2.heap.size W2 W) => rAssign_any W F g L (HTW.out.kept hb) x0 x1 hok
      have HXX := Lib.hid hx
      have HAS := Lib.hid has
      have i0 : (0 : Int) < (nn : Int) := by omega
      have i1 : (1 : Int) < (nn : Int) := by omega
      have n0 : 0 < nn := by omega
      have n1 : 1 < nn := by omega
      clear hx has hat hx0 hx1 hc hnl hbg
      go_upto_region 15 with (fail)
      go_region_held3 (fun V => V.cell? ⟨K, 2, none⟩ = some (.int .i64 3) ∧ V.cell? ⟨K, 3, none⟩ = some (.slice (some ⟨b0, 0, none⟩) nn cn) ∧ V.cell? ⟨b0, 0, none⟩ = some (.int .i64 x0) ∧ V.cell? ⟨b0, 1, none⟩ = some (.int .i64 x1) ∧ V.cell? ⟨b0, 0, none⟩ = some (.int .i64 x0))
        (first
          | exact apS (F := F) (Off.refl F W2).drew mz hKF hb0 hbF m2 m3 u0 u1 u0
          | exact apS ((Off.refl F W2).drew.then O4) mz hKF hb0 hbF m2 m3 u0 u1 u0)
        (first
          | (go_at_call 60; refine (HAS.out _ (Below.refl _ _).drew).mono ?_; (intro e w3 h3); (have O4 := RAns.off h3); (obtain ⟨a3, n3, c3, k3, rfl, h4⟩ := RAns.slice h3); (have H4 := Lib.hid h4); (clear h3 h4)))
      all_goals
        clear O4
        go_wp2
        go_ret2
        rw [HXX.out]
        exact RAns.lift HB2.out.drew H4.out
    · have c1 : ((nn : Int) != 2) = true := by rw [bne_iff_ne]; omega
      have hx := HBAD.out (by rw [← HNN.out]; simpa [mayB] using hc)
      have HXX := Lib.hid hx
      clear hx hc
      go_wp2
      go_ret2
      rw [HXX.out]
      exact RAns.no 3 HT.out HB2.out
  · by_cases hc : nn = 1
    · have c1 : ((nn : Int) != 1) = false := by rw [hc]; rfl
      have hx : X = (lookL L (nums.getD 0 0), L) := HGOOD.out (by rw [← HNN.out, hc]; rfl)
      obtain ⟨b0, cap, he, _, hb0, hcap, hcm⟩ := own_pos HO2.out (by omega)
      cases he
      have hnl : nums.length = nn := HNN.out.symm
      have hat := fun k (hk : k < nn) => (HO2.out.cellAt k (by omega)).trans (show (BI nums)[k]? = some (.int .i64 (nums.getD k 0)) by simp [BI, hnl, hk, List.getD])
      have u0 := hat 0 (by omega)
      obtain ⟨x0, hx0⟩ : ∃ x0, x0 = nums.getD 0 0 := ⟨_, rfl⟩
      rw [← hx0] at u0
      rw [← hx0] at hx
      have hlk := rLook_any W2 F g L HTW.out x0 hok
      have HXX := Lib.hid hx
      have HLK := Lib.hid hlk
      have i0 : (0 : Int) < (nn : Int) := by omega
      clear hx hlk hat hx0 hc hnl
      go_wp2_with fail
      refine HLK.out.mono ?_
      intro e w3 h3
      obtain ⟨a3, n3, c3, k3, rfl, h4⟩ := RAns.slice h3
      have H4 := Lib.hid h4
      clear h3 h4
      go_wp2
      go_ret2
      rw [HXX.out]
      exact RAns.lift HB2.out H4.out
    · have c1 : ((nn : Int) != 1) = true := by rw [bne_iff_ne]; omega
      have hx := HBAD.out (by rw [← HNN.out]; simpa [mayB] using hc)
      have HXX := Lib.hid hx
      clear hx hc
      go_wp2
      go_ret2
      rw [HXX.out]
      exact RAns.no 3 HT.out HB2.out
  · by_cases hc : 3 ≤ nn
    · have c1 : ¬ (nn : Int) < 3 := by omega
      have hx : X = changeR L (nums.getD 0 0) (nums.getD 1 0) (nums.getD 2 0) (nums.drop 3) true := by rw [changeR_eq _ _ _ _ _ _ hD]; exact HGOOD.out (by rw [← HNN.out]; simpa [mayB] using hc)
      obtain ⟨b0, cap, he, _, hb0, hcap, hcm⟩ := own_pos HO2.out (by omega)
      cases he
      have hnl : nums.length = nn := HNN.out.symm
      have hat := fun k (hk : k < nn) => (HO2.out.cellAt k (by omega)).trans (show (BI nums)[k]? = some (.int .i64 (nums.getD k 0)) by simp [BI, hnl, hk, List.getD])
      have u0 := hat 0 (by omega)
      obtain ⟨x0, hx0⟩ : ∃ x0, x0 = nums.getD 0 0 := ⟨_, rfl⟩
      rw [← hx0] at u0
      have u1 := hat 1 (by omega)
      obtain ⟨x1, hx1⟩ : ∃ x1, x1 = nums.getD 1 0 := ⟨_, rfl⟩
      rw [← hx1] at u1
      have u2 := hat 2 (by omega)
      obtain ⟨x2, hx2⟩ : ∃ x2, x2 = nums.getD 2 0 := ⟨_, rfl⟩
      rw [← hx2] at u2
      rw [← hx0, ← hx1, ← hx2] at hx
      have hKF : ¬ F K := fun h => by have := HT.out.lt K h; have := HK.out; have := HKW.out; omega
      have hrd := own_drop3 HO2.out hc
      have hbg : w.heap.size ≤ b0 := (HO2.out.lt b0 rfl).1
      have hbF : ¬ F b0 := fun h => by have := HT.out.lt b0 h; omega
      have HXX := Lib.hid hx
      have i0 : (0 : Int) < (nn : Int) := by omega
      have i1 : (1 : Int) < (nn : Int) := by omega
      have i2 : (2 : Int) < (nn : Int) := by omega
      have i3 : (3 : Int) ≤ (nn : Int) := by omega
      have n0 : 0 < nn := by omega
      have n1 : 1 < nn := by omega
      have n2 : 2 < nn := by omega
      have i4 : (nn : Int) ≤ (cn : Int) := by omega
      have i5 : 3 ≤ cn := by omega
      have i6 : (3 : Int) ≤ (cn : Int) := by omega
      have hdl : nn - 3 = (nums.drop 3).length := by rw [List.length_drop, hnl]
      by_cases h3c : cn = 3
      · subst h3c
        obtain rfl : nn = 3 := by omega
        rw [if_pos rfl] at hrd
        have hrd : Rd W2 (some ⟨b0, 0, none⟩) 0 (BI (nums.drop 3)) := hrd
        have hch := fun W (hb : Below W2.heap.size W2 W) => rChange_any W F g L (HTW.out.kept hb) true x0 x1 x2 (some ⟨b0, 0, none⟩) (0) (0) (nums.drop 3) hdl ⟨hrd.kept hb, fun b o _ e => by cases e; exact ⟨hbF, Nat.lt_of_lt_of_le hb0 hb.size⟩⟩ (by omega) hok
        have HCH := Lib.hid hch
        clear hx hch hat hx0 hx1 hx2 hnl hrd hdl hbg
        go_upto_region 22 with (fail)
        go_region_held3 (fun V => V.cell? ⟨K, 2, none⟩ = some (.int .i64 5) ∧ V.cell? ⟨K, 3, none⟩ = some (.slice (some ⟨b0, 0, none⟩) 3 3) ∧ V.cell? ⟨b0, 0, none⟩ = some (.int .i64 x0) ∧ V.cell? ⟨b0, 1, none⟩ = some (.int .i64 x1) ∧ V.cell? ⟨b0, 2, none⟩ = some (.int .i64 x2))
          (first
            | exact apS (F := F) (Off.refl F W2).drew mz hKF hb0 hbF m2 m3 u0 u1 u2
            | exact apS ((Off.refl F W2).drew.then O4) mz hKF hb0 hbF m2 m3 u0 u1 u2)
          (first
            | (go_at_call 62; refine (HCH.out _ (Below.refl _ _).drew).mono ?_; (intro e w3 h3); (have O4 := RAns.off h3); (obtain ⟨a3, n3, c3, k3, rfl, h4⟩ := RAns.slice h3); (have H4 := Lib.hid h4); (clear h3 h4)))
        all_goals
          clear O4
          go_wp2
          go_ret2
          rw [HXX.out]
          exact RAns.lift HB2.out.drew H4.out
      · rw [if_neg h3c] at hrd
        have hch := fun W (hb : Below W2.heap.size W2 W) => rChange_any W F g L (HTW.out.kept hb) true x0 x1 x2 (some ⟨b0, 3, none⟩) (cn - 3) (nn - 3) (nums.drop 3) hdl ⟨hrd.kept hb, fun b o _ e => by cases e; exact ⟨hbF, Nat.lt_of_lt_of_le hb0 hb.size⟩⟩ (by omega) hok
        have HCH := Lib.hid hch
        clear hx hch hat hx0 hx1 hx2 hnl hrd hdl hbg
        go_upto_region 22 with (fail)
        go_region_held3 (fun V => V.cell? ⟨K, 2, none⟩ = some (.int .i64 5) ∧ V.cell? ⟨K, 3, none⟩ = some (.slice (some ⟨b0, 0, none⟩) nn cn) ∧ V.cell? ⟨b0, 0, none⟩ = some (.int .i64 x0) ∧ V.cell? ⟨b0, 1, none⟩ = some (.int .i64 x1) ∧ V.cell? ⟨b0, 2, none⟩ = some (.int .i64 x2))
          (first
            | exact apS (F := F) (Off.refl F W2).drew mz hKF hb0 hbF m2 m3 u0 u1 u2
            | exact apS ((Off.refl F W2).drew.then O4) mz hKF hb0 hbF m2 m3 u0 u1 u2)
          (first
            | (go_at_call 62; refine (HCH.out _ (Below.refl _ _).drew).mono ?_; (intro e w3 h3); (have O4 := RAns.off h3); (obtain ⟨a3, n3, c3, k3, rfl, h4⟩ := RAns.slice h3); (have H4 := Lib.hid h4); (clear h3 h4)))
        all_goals
          clear O4
          go_wp2
          go_ret2
          rw [HXX.out]
          exact RAns.lift HB2.out.drew H4.out
    · have c1 : (nn : Int) < 3 := by omega
      have hx := HBAD.out (by rw [← HNN.out]; simpa [mayB] using hc)
      have HXX := Lib.hid hx
      clear hx hc
      go_wp2
      go_ret2
      rw [HXX.out]
      exact RAns.no 3 HT.out HB2.out
  · by_cases hc : 3 ≤ nn
    · have c1 : ¬ (nn : Int) < 3 := by omega
      have hx : X = changeR L (nums.getD 0 0) (nums.getD 1 0) (nums.getD 2 0) (nums.drop 3) false := by rw [changeR_eq _ _ _ _ _ _ hD]; exact HGOOD.out (by rw [← HNN.out]; simpa [mayB] using hc)
      obtain ⟨b0, cap, he, _, hb0, hcap, hcm⟩ := own_pos HO2.out (by omega)
      cases he
      have hnl : nums.length = nn := HNN.out.symm
      have hat := fun k (hk : k < nn) => (HO2.out.cellAt k (by omega)).trans (show (BI nums)[k]? = some (.int .i64 (nums.getD k 0)) by simp [BI, hnl, hk, List.getD])
      have u0 := hat 0 (by omega)
      obtain ⟨x0, hx0⟩ : ∃ x0, x0 = nums.getD 0 0 := ⟨_, rfl⟩
      rw [← hx0] at u0
      have u1 := hat 1 (by omega)
      obtain ⟨x1, hx1⟩ : ∃ x1, x1 = nums.getD 1 0 := ⟨_, rfl⟩
      rw [← hx1] at u1
      have u2 := hat 2 (by omega)
      obtain ⟨x2, hx2⟩ : ∃ x2, x2 = nums.getD 2 0 := ⟨_, rfl⟩
      rw [← hx2] at u2
      rw [← hx0, ← hx1, ← hx2] at hx
      have hKF : ¬ F K := fun h => by have := HT.out.lt K h; have := HK.out; have := HKW.out; omega
      have hrd := own_drop3 HO2.out hc
      have hbg : w.heap.size ≤ b0 := (HO2.out.lt b0 rfl).1
      have hbF : ¬ F b0 := fun h => by have := HT.out.lt b0 h; omega
      have HXX := Lib.hid hx
      have i0 : (0 : Int) < (nn : Int) := by omega
      have i1 : (1 : Int) < (nn : Int) := by omega
      have i2 : (2 : Int) < (nn : Int) := by omega
      have i3 : (3 : Int) ≤ (nn : Int) := by omega
      have n0 : 0 < nn := by omega
      have n1 : 1 < nn := by omega
      have n2 : 2 < nn := by omega
      have i4 : (nn : Int) ≤ (cn : Int) := by omega
      have i5 : 3 ≤ cn := by omega
      have i6 : (3 : Int) ≤ (cn : Int) := by omega
      have hdl : nn - 3 = (nums.drop 3).length := by rw [List.length_drop, hnl]
      by_cases h3c : cn = 3
      · subst h3c
        obtain rfl : nn = 3 := by omega
        rw [if_pos rfl] at hrd
        have hrd : Rd W2 (some ⟨b0, 0, none⟩) 0 (BI (nums.drop 3)) := hrd
        have hch := fun W (hb : Below W2.heap.size W2 W) => rChange_any W F g L (HTW.out.kept hb) false x0 x1 x2 (some ⟨b0, 0, none⟩) (0) (0) (nums.drop 3) hdl ⟨hrd.kept hb, fun b o _ e => by cases e; exact ⟨hbF, Nat.lt_of_lt_of_le hb0 hb.size⟩⟩ (by omega) hok
        have HCH := Lib.hid hch
        clear hx hch hat hx0 hx1 hx2 hnl hrd hdl hbg
        go_upto_region 22 with (fail)
        go_region_held3 (fun V => V.cell? ⟨K, 2, none⟩ = some (.int .i64 6) ∧ V.cell? ⟨K, 3, none⟩ = some (.slice (some ⟨b0, 0, none⟩) 3 3) ∧ V.cell? ⟨b0, 0, none⟩ = some (.int .i64 x0) ∧ V.cell? ⟨b0, 1, none⟩ = some (.int .i64 x1) ∧ V.cell? ⟨b0, 2, none⟩ = some (.int .i64 x2))
          (first
            | exact apS (F := F) (Off.refl F W2).drew mz hKF hb0 hbF m2 m3 u0 u1 u2
            | exact apS ((Off.refl F W2).drew.then O4) mz hKF hb0 hbF m2 m3 u0 u1 u2)
          (first
            | (go_at_call 62; refine (HCH.out _ (Below.refl _ _).drew).mono ?_; (intro e w3 h3); (have O4 := RAns.off h3); (obtain ⟨a3, n3, c3, k3, rfl, h4⟩ := RAns.slice h3); (have H4 := Lib.hid h4); (clear h3 h4)))
        all_goals
          clear O4
          go_wp2
          go_ret2
          rw [HXX.out]
          exact RAns.lift HB2.out.drew H4.out
      · rw [if_neg h3c] at hrd
        have hch := fun W (hb : Below W2.heap.size W2 W) => rChange_any W F g L (HTW.out.kept hb) false x0 x1 x2 (some ⟨b0, 3, none⟩) (cn - 3) (nn - 3) (nums.drop 3) hdl ⟨hrd.kept hb, fun b o _ e => by cases e; exact ⟨hbF, Nat.lt_of_lt_of_le hb0 hb.size⟩⟩ (by omega) hok
        have HCH := Lib.hid hch
        clear hx hch hat hx0 hx1 hx2 hnl hrd hdl hbg
        go_upto_region 22 with (fail)
        go_region_held3 (fun V => V.cell? ⟨K, 2, none⟩ = some (.int .i64 6) ∧ V.cell? ⟨K, 3, none⟩ = some (.slice (some ⟨b0, 0, none⟩) nn cn) ∧ V.cell? ⟨b0, 0, none⟩ = some (.int .i64 x0) ∧ V.cell? ⟨b0, 1, none⟩ = some (.int .i64 x1) ∧ V.cell? ⟨b0, 2, none⟩ = some (.int .i64 x2))
          (first
            | exact apS (F := F) (Off.refl F W2).drew mz hKF hb0 hbF m2 m3 u0 u1 u2
            | exact apS ((Off.refl F W2).drew.then O4) mz hKF hb0 hbF m2 m3 u0 u1 u2)
          (first
            | (go_at_call 62; refine (HCH.out _ (Below.refl _ _).drew).mono ?_; (intro e w3 h3); (have O4 := RAns.off h3); (obtain ⟨a3, n3, c3, k3, rfl, h4⟩ := RAns.slice h3); (have H4 := Lib.hid h4); (clear h3 h4)))
        all_goals
          clear O4
          go_wp2
          go_ret2
          rw [HXX.out]
          exact RAns.lift HB2.out.drew H4.out
    · have c1 : (nn : Int) < 3 := by omega
      have hx := HBAD.out (by rw [← HNN.out]; simpa [mayB] using hc)
      have HXX := Lib.hid hx
      clear hx hc
      go_wp2
      go_ret2
      rw [HXX.out]
      exact RAns.no 3 HT.out HB2.out
end Go.Proofs.Yteenbobblbehoaa
