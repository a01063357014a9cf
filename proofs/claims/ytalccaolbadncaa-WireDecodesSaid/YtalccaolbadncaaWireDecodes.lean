/- WireDecodes: for all bytes the law returns true. Conditions: none. -/
import Derived.Test.YtalccaolbadncaaWRefDec
import Derived.Test.YtalccaolbadncaaMsgs
import Derived.Test.YtalccaolbadncaaWKnown
import Derived.Test.YtalccaolbadncaaCom
import Derived.Test.YtalccaolbadncaaSpoil
namespace Go.Proofs.Ytalccaolbadncaa
open Go Go.RowKit

theorem bodyD_len {p : List UInt8} {m : Nat × Nat × Nat × List Nat × List UInt8} (h : bodyD p = some m) : m.2.2.2.2.length ≤ 1047552 ∧ m.2.2.2.1.length ≤ 64 := by
  obtain ⟨c, r1, r2, _, _, _, _, hc, hn, _, e2, e3, _⟩ := (bodyD_iff p m).1 h
  have := (numsR_len hn).1
  omega
theorem wDec_len (b : List UInt8) : (wDec b).1.2.2.2.2.length ≤ 1047552 ∧ (wDec b).1.2.2.2.1.length ≤ 64 := by
  unfold wDec
  split
  · simp
  · cases h : bodyD (decR b).1 with
    | none => simp
    | some m =>
      obtain ⟨f, t, k, l, d⟩ := m
      have := bodyD_len h
      simpa [zagL] using this

set_option maxRecDepth 100000 in
set_option maxHeartbeats 2000000 in
theorem wireDecodes_any (a : Option Addr) (c : Nat) (b : List UInt8) (w : World) (hr : Rd w a c (B8 b)) :
    Calls Try.prog 5 #[.slice a b.length c] w fun e w' => e = .returned (.bool true) ∧ Below w.heap.size w w' := by
  by_cases hbig : 4000 < b.length
  · have hbd : (4000 : Int) < (b.length : Int) := by omega
    go_enter Try.func5, Try.ntmps5
    go_wp2
    go_ret
    exact ⟨rfl, Below.refl _ _⟩
  · have hbd : (b.length : Int) ≤ 4000 := by omega
    obtain ⟨f, t, kd, nums, data, N, E, hX⟩ : ∃ f t kd nums data N E, wDec b = ((f, t, kd, nums, data), N, E) := ⟨_, _, _, _, _, _, _, rfl⟩
    have hlen := wDec_len b
    rw [hX] at hlen
    have hdl : data.length ≤ 1047552 := hlen.1
    have hD : ∀ (W : World) (a : Option Addr) (c : Nat), Rd W a c (B8 b) → Calls Try.prog 14 #[.slice a b.length c] W fun e w' => ∃ an cn ad cd,
        e = .returned (.tuple #[.agg #[.int .i64 f, .int .i64 t, .int .i64 kd, .slice an nums.length cn, .slice ad data.length cd], .int .i64 (N : Int), .int .i64 (E : Int)]) ∧
        Rd w' an cn (BI nums) ∧ w'.ownsRow W.heap.size 5 1 (.slice ad data.length cd) data.length (B8 data) ∧ Below W.heap.size W w' := by
      intro W a c h
      have := wDecode_any W a c b h
      rw [hX] at this
      exact this
    have hR : ∀ (W : World) (a : Option Addr) (c : Nat), Rd W a c (B8 b) → Calls Try.prog 15 #[.slice a b.length c] W fun e w' => ∃ an cn ad cd,
        e = .returned (.tuple #[.agg #[.int .i64 f, .int .i64 t, .int .i64 kd, .slice an nums.length cn, .slice ad data.length cd], .int .i64 (N : Int), .int .i64 (E : Int)]) ∧
        Rd w' an cn (BI nums) ∧ Rd w' ad cd (B8 data) ∧ Below W.heap.size W w' := by
      intro W a c h
      have := refWDecode_any W a c b h
      rw [hX] at this
      exact this
    have HD := Lib.hid hD
    have HR := Lib.hid hR
    clear hX hD hR hlen
    go_enter Try.func5, Try.ntmps5
    go_wp2_with fail
    refine (roomy_any w a c b hr (by omega)).mono ?_
    rintro e w1 ⟨gw, cw, rfl, hcw, hw1, hb1⟩
    have hra := hr.kept hb1
    have hpre := hw1.pre
    go_wp2_with fail
    refine (HD.out w1 _ cw hpre).mono ?_
    rintro e w2 ⟨an, cn, ad, cd, rfl, hn2, ho2, hb2⟩
    have hst2 : ∀ o, Below w2.heap.size w2 (w2.alloc o) := fun o => (Below.refl _ _).alloc (Nat.le_refl _) o
    go_wp2_with fail
    refine (HR.out _ a c ((hra.kept hb2).kept (hst2 _))).mono ?_
    rintro e w3 ⟨an3, cn3, ad3, cd3, rfl, hn3, hd3, hb3⟩
    have hb23 : Below w2.heap.size w2 w3 := (hst2 _).trans (hb3.mono (by simp))
    have hB3 := (BlkV.new w2 25 #[.int .i64 f, .int .i64 t, .int .i64 kd, .slice an nums.length cn, .slice ad data.length cd]).below hb3
    have ho3 := own_below ho2 hb23
    have hn23 := hn2.kept hb23
    have hz2 := hB3.lt
    have hb13 : Below w1.heap.size w1 w3 := hb2.trans (hb23.mono hb2.size)
    clear hb3 ho2 hn2
    obtain ⟨G, hG⟩ : ∃ G, G = w2.heap.size := ⟨_, rfl⟩
    rw [← hG] at hB3 hz2 ⊢
    have HG := Lib.hid hG
    clear hG
    have x0 := hB3.cell 0
    have x1 := hB3.cell 1
    have x2 := hB3.cell 2
    have x3 := hB3.cell 3
    have x4 := hB3.cell 4
    simp only [List.getElem?_toArray, List.getElem?_cons_succ, List.getElem?_cons_zero] at x0 x1 x2 x3 x4
    have hst3 : ∀ o, Below w3.heap.size w3 (w3.alloc o) := fun o => (Below.refl _ _).alloc (Nat.le_refl _) o
    go_wp2_with fail
    refine (messages_true _ f t kd an an3 cn cn3 nums.length nums ad ad3 cd cd3 data.length data rfl rfl (hn23.kept (hst3 _)) (hn3.kept (hst3 _)) ((Rd.own3 ho3).kept (hst3 _)) (hd3.kept (hst3 _))).mono ?_
    rintro e w4 ⟨rfl, hb4⟩
    have hb34 : Below w3.heap.size w3 w4 := (hst3 _).trans (hb4.mono (by simp))
    have hB4 := hB3.below hb34
    have ho4 := own_below ho3 hb34
    have hb14 : Below w1.heap.size w1 w4 := hb13.trans (hb34.mono hb13.size)
    have y4 := hB4.cell 4
    have hz4 := hB4.lt
    simp only [List.getElem?_toArray, List.getElem?_cons_succ, List.getElem?_cons_zero] at y4
    clear hb4 x0 x1 x2 x3 x4 ho3 hn23 hn3 hd3
    go_wp2_with fail
    refine (spoil_any w4 w1.heap.size _ _ _ ho4 hb14.size (by omega)).mono ?_
    rintro e w5 ⟨rfl, hb5⟩
    have hb15 : Below w1.heap.size w1 w5 := hb14.trans hb5
    go_wp2_with fail
    refine (stands_any w5 gw cw a c b (hw1.kept hb15) (hra.kept hb15)).mono ?_
    rintro e w6 ⟨rfl, hq6⟩
    have hb16 : Below w1.heap.size w1 w6 := hb15.trans (hq6.below _)
    go_wp2_with fail
    refine (wKnown_any _).mono ?_
    rintro e w7 ⟨rfl, hb7⟩
    go_wp2
    go_ret
    exact ⟨rfl, hb1.trans ((hb16.trans (hb7.mono hb16.size)).mono hb1.size)⟩
end Go.Proofs.Ytalccaolbadncaa
