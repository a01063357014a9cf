/- WireBack: for every message and any bytes behind it the law returns true. Conditions: the reach of the three slices. -/
import Derived.Test.YtalccaolbadncaaWLaw
import Derived.Test.YtalccaolbadncaaWDec
import Derived.Test.YtalccaolbadncaaMsgs
import Derived.Test.YtalccaolbadncaaWKnown
namespace Go.Proofs.Ytalccaolbadncaa
open Go Go.RowKit

set_option maxRecDepth 100000 in
set_option maxHeartbeats 4000000 in
theorem wireBack_any (fr to kd : Int) (an : Option Addr) (cn : Nat) (nums : List Int) (ad : Option Addr) (cd : Nat) (data : List UInt8) (am : Option Addr) (cm : Nat) (more : List UInt8) (w : World)
    (hrn : Rd w an cn (BI nums)) (hbn : ∀ n ∈ nums, -9223372036854775808 ≤ n ∧ n ≤ 9223372036854775807) (hrd : Rd w ad cd (B8 data)) (hzn : cn * 8 ≤ 140737488351232) (hzd : cd * 1 ≤ 140737488351232) (hrm : Rd w am cm (B8 more)) (hzm : cm * 1 ≤ 140737488351232) :
    Calls Try.prog 6 #[msgV fr to kd an nums.length cn ad data.length cd, .slice am more.length cm] w fun e w' => e = .returned (.bool true) ∧ Below w.heap.size w w' := by
  have hstart : ∀ o, Below w.heap.size w (w.alloc o) := fun o => (Below.refl _ _).alloc (Nat.le_refl _) o
  have hln : nums.length ≤ cn := by have := hrn.1; rwa [BI_length] at this
  have hld : data.length ≤ cd := by have := hrd.1; rwa [B8_length] at this
  have hlm : more.length ≤ cm := by have := hrm.1; rwa [B8_length] at this
  have hs1 : (data.length : Int) + (nums.length : Int) ≤ 281474976702464 := by omega
  have hs2 : (data.length : Int) + (nums.length : Int) + (more.length : Int) ≤ 422212465053696 := by omega
  by_cases hbig : 4000 < data.length + nums.length + more.length
  · have hbd : (4000 : Int) < (data.length : Int) + (nums.length : Int) + (more.length : Int) := by omega
    unfold msgV
    go_enter Try.func6, Try.ntmps6
    go_wp2
    go_ret
    exact ⟨rfl, hstart _⟩
  have hbd : (data.length : Int) + (nums.length : Int) + (more.length : Int) ≤ 4000 := by omega
  have hwE := wEnc_cases fr to kd nums data
  by_cases hno : wBad fr to kd nums.length = true ∨ 1047552 < data.length
  · have hE : ∃ F : Nat, F ≠ 0 ∧ ∀ o, Calls Try.prog 9 #[msgV fr to kd an nums.length cn ad data.length cd] (w.alloc o) fun e w' => e = .returned (.tuple #[.slice none 0 0, .int .i64 (F : Int)]) ∧ Below (w.alloc o).heap.size (w.alloc o) w' := by
      by_cases h1 : wBad fr to kd nums.length = true
      · exact ⟨1, by omega, fun o => wEncode_no fr to kd an nums.length cn ad data.length cd _ 1 (by omega) (by omega) (.inl ⟨h1, rfl⟩)⟩
      · have h1' : wBad fr to kd nums.length = false := by simpa using h1
        exact ⟨5, by omega, fun o => wEncode_no fr to kd an nums.length cn ad data.length cd _ 5 (by omega) (by omega) (.inr ⟨h1', by rcases hno with h | h; exact absurd h h1; exact h, rfl⟩)⟩
    obtain ⟨F, hF, hE⟩ := hE
    have hFi : ((F : Int) != 0) = true := by rw [bne_iff_ne]; omega
    unfold msgV at hE ⊢
    have HE := Lib.hid hE
    clear hE hwE hno hF
    go_enter Try.func6, Try.ntmps6
    go_wp2_with fail
    refine (HE.out _).mono ?_
    rintro e w1 ⟨rfl, hb1⟩
    have hb1' : Below w.heap.size w w1 := (hstart _).trans (hb1.mono (by simp))
    go_wp2_with fail
    refine (wKnown_any _).mono ?_
    rintro e w2 ⟨rfl, hb2⟩
    go_wp2
    go_ret
    exact ⟨rfl, hb1'.trans (hb2.mono hb1'.size)⟩
  · rcases hwE with ⟨h1, _⟩ | ⟨_, h1, _⟩ | ⟨q0, q1, q2, hn64, hd64, _⟩
    · exact absurd (.inl h1) hno
    · exact absurd (.inr h1) hno
    clear hno
    obtain ⟨v0, e0, t0, b0⟩ := small_v q0
    obtain ⟨v1, e1, t1, b1⟩ := small_v q1
    obtain ⟨v2, e2, t2, b2⟩ := small_v q2
    have hback := wDec_back fr to kd nums data more q0 q1 q2 hbn hn64 hd64
    have hblen := bodyL_len fr.toNat to.toNat kd.toNat nums data hn64 hd64
    have hE : ∀ o, Calls Try.prog 9 #[msgV fr to kd an nums.length cn ad data.length cd] (w.alloc o) fun e w' => ∃ r, e = .returned (.tuple #[r, .int .i64 0]) ∧ w'.ownsRow (w.alloc o).heap.size 5 1 r (8 + (bodyL fr.toNat to.toNat kd.toNat nums data).length) (B8 (encL (bodyL fr.toNat to.toNat kd.toNat nums data))) ∧ Below (w.alloc o).heap.size (w.alloc o) w' := by
      intro o
      have := wEncode_yes v0 v1 v2 (by rw [← e0]; exact q0) (by rw [← e1]; exact q1) (by rw [← e2]; exact q2) an cn nums ad cd data (w.alloc o) (hrn.kept (hstart o)) hbn hn64 (hrd.kept (hstart o)) hd64
      rw [← e0, ← e1, ← e2, ← t0, ← t1, ← t2] at this
      exact this
    have hxl : (encL (bodyL fr.toNat to.toNat kd.toNat nums data)).length = 8 + (bodyL fr.toNat to.toNat kd.toNat nums data).length := encL_length _
    obtain ⟨X, hX⟩ : ∃ X, X = encL (bodyL fr.toNat to.toNat kd.toNat nums data) := ⟨_, rfl⟩
    obtain ⟨N, hN⟩ : ∃ N, N = 8 + (bodyL fr.toNat to.toNat kd.toNat nums data).length := ⟨_, rfl⟩
    rw [← hX, ← hN] at hE hback hxl
    have hN1 : 8 ≤ N := by omega
    have hN2 : N ≤ 1048584 := by omega
    have hD : ∀ (W : World) (a : Option Addr) (c : Nat), Rd W a c (B8 (X ++ more)) → Calls Try.prog 14 #[.slice a (N + more.length) c] W fun e w' => ∃ an cn ad cd,
        e = .returned (.tuple #[.agg #[.int .i64 fr, .int .i64 to, .int .i64 kd, .slice an nums.length cn, .slice ad data.length cd], .int .i64 (N : Int), .int .i64 0]) ∧
        Rd w' an cn (BI nums) ∧ w'.ownsRow W.heap.size 5 1 (.slice ad data.length cd) data.length (B8 data) ∧ Below W.heap.size W w' := by
      intro W a c h
      have := wDecode_any W a c (X ++ more) h
      rw [hback, List.length_append, hxl] at this
      exact this
    unfold msgV at hE ⊢
    have HE := Lib.hid hE
    have HD := Lib.hid hD
    have HXL := Lib.hid hxl
    clear hE hD hback hblen hX hN hxl e0 e1 e2 t0 t1 t2 q0 q1 q2 b0 b1 b2 hbn
    go_enter Try.func6, Try.ntmps6
    go_wp2_with fail
    refine (HE.out _).mono ?_
    rintro e w1 ⟨r1, rfl, ho1, hb1⟩
    have hbw1 : Below w.heap.size w w1 := (hstart _).trans (hb1.mono (by simp))
    have hB1 := (BlkV.new w 25 #[.int .i64 fr, .int .i64 to, .int .i64 kd, .slice an nums.length cn, .slice ad data.length cd]).below hb1
    obtain ⟨g, cap, rfl, hg1, hg2, hg3, hg4⟩ := own_pos ho1 (by omega)
    have hg1 : w.heap.size + 1 ≤ g := by simpa using hg1
    have ho1 : w1.ownsRow (w.heap.size + 1) 5 1 (.slice (some ⟨g, 0, none⟩) N cap) N (B8 X) := by simpa using ho1
    have hz1 : w.heap.size + 1 ≤ w1.heap.size := hB1.lt
    clear hb1
    obtain ⟨G, hG⟩ : ∃ G, G = w.heap.size := ⟨_, rfl⟩
    rw [← hG] at hB1 hg1 ho1 hz1 ⊢
    have HG := Lib.hid hG
    clear hG
    go_wp2_with (with_reducible refine At.slot 40 ?_)
    refine At.out (wpList_app rfl (.tmp 38) (.tmp 39) 23 rfl elemB rfl (G + 1) _ N _ rfl ho1 am more.length cm (B8 more) rfl (B8_length _).symm (hrm.kept hbw1) (B8_one _) (by unfold maxLen; omega) (by omega) hz1 ?_)
    intro v2 w2 ho2 hb2 _
    rw [← B8_append] at ho2
    have hB2 := hB1.at hb2 (Nat.lt_succ_self _)
    have hbw2 : Below w.heap.size w w2 := hbw1.trans (hb2.mono (by have := HG.out; omega))
    obtain ⟨a2, c2, rfl, hrd2⟩ := Rd.ofOwn ho2
    clear ho1 ho2 hb2 hB1
    go_wp2_with fail
    refine (HD.out w2 a2 c2 hrd2).mono ?_
    rintro e w3 ⟨an3, cn3, ad3, cd3, rfl, hn3, ho3, hb3⟩
    have hB3 := hB2.below hb3
    have hbw3 := hbw2.trans (hb3.mono hbw2.size)
    have hr3 := Rd.own3 ho3
    have hz3 := hB3.lt
    have x0 := hB3.cell 0
    have x1 := hB3.cell 1
    have x2 := hB3.cell 2
    have x3 := hB3.cell 3
    have x4 := hB3.cell 4
    simp only [List.getElem?_toArray, List.getElem?_cons_succ, List.getElem?_cons_zero] at x0 x1 x2 x3 x4
    have hst3 : ∀ o, Below w3.heap.size w3 (w3.alloc o) := fun o => (Below.refl _ _).alloc (Nat.le_refl _) o
    clear hb3 ho3 hrd2
    go_wp2_with fail
    refine (messages_true _ fr to kd an an3 cn cn3 nums.length nums ad ad3 cd cd3 data.length data rfl rfl ((hrn.kept hbw3).kept (hst3 _)) (hn3.kept (hst3 _)) ((hrd.kept hbw3).kept (hst3 _)) (hr3.kept (hst3 _))).mono ?_
    rintro e w4 ⟨rfl, hb4⟩
    have hb34 : Below w3.heap.size w3 w4 := (hst3 _).trans (hb4.mono (by simp))
    have hbw4 := hbw3.trans (hb34.mono hbw3.size)
    clear hb4 x0 x1 x2 x3 x4
    go_wp2_with fail
    refine (wKnown_any _).mono ?_
    rintro e w5 ⟨rfl, hb5⟩
    go_wp2
    go_ret
    exact ⟨rfl, HG.out ▸ hbw4.trans (hb5.mono hbw4.size)⟩
end Go.Proofs.Ytalccaolbadncaa
