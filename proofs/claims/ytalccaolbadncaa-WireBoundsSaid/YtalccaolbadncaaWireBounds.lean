/- WireBounds: for every two numbers the law returns true. Conditions: none. -/
import Derived.Test.YtalccaolbadncaaWKnown
namespace Go.Proofs.Ytalccaolbadncaa
open Go Go.RowKit

theorem elemI0 : ElemT Try.prog 22 3 1 (.int .i64 0) 8 := ⟨Try.underlying22, info_parts (by kernel_rfl)⟩

/-- make([]int, n). -/
theorem wpList_makeI {P : Program} {w : World} {ops : Array Oper} {rest : List Oper} {o : Oper} {a : Act} {Q : Exit → Act → World → Prop} (hgd : o.guard = none) (l c : Operand) (t : TypeId) (hop : o.op = Op.makeSlice t l c) {e : TypeId} (T : ElemT P t e 1 (.int .i64 0) 8)
    (kl kc : IntKind) (L C : Int) (n : Nat) (hl : a.eval l = .int kl L) (hc : a.eval c = .int kc C) (hL : L = (n : Int)) (hC : C = (n : Int)) (hn : n ≤ 1000000000)
    (h : ∀ w', w'.ownsRow w.heap.size e 1 (.slice (some ⟨w.heap.size, 0, none⟩) n n) n (BI (List.replicate n 0)) → Below w.heap.size w w' → wpList P ops Q rest (a.put o.dst (.slice (some ⟨w.heap.size, 0, none⟩) n n)) w') : wpList P ops Q (o :: rest) a w := by
  obtain ⟨i, hi, hz, hs, hb⟩ := T.hi
  refine wpList_make_full w hgd l c t hop w.heap.size e i (.int .i64 0) 1 T.ht hi hz hs kl kc L C n hl hc hL hC (by rw [hb]; omega) (by unfold maxLen; omega) (Nat.le_refl _) ?_
  intro w' ho hg
  refine h w' ?_ (below_grown hg (Nat.le_refl _) (fun k h => by cases h))
  rw [madeI] at ho
  exact ho

theorem wb_one (k : Nat) : (wEnc 0 0 0 (List.replicate k 0) []).2 = if 64 < k then 1 else 0 := by
  unfold wEnc wBad
  have h0 : smallB 0 = true := by decide
  rw [h0]
  simp only [Bool.not_true, Bool.false_or, List.length_replicate, List.length_nil]
  by_cases h : 64 < k
  · rw [if_pos (by simpa using h), if_pos h]
  · rw [if_neg (by simpa using h), if_neg (by omega), if_neg h]
theorem wb_two (n : Int) : (wEnc n 0 0 [] []).2 = if n < 0 ∨ 2147483647 < n then 1 else 0 := by
  unfold wEnc wBad
  have h0 : smallB 0 = true := by decide
  rw [h0]
  by_cases h : n < 0 ∨ 2147483647 < n
  · have h1 : smallB n = false := by unfold smallB; simp; omega
    rw [h1, if_pos h]; rfl
  · have h1 : smallB n = true := by unfold smallB; simp; omega
    rw [h1, if_neg h]; rfl

set_option maxRecDepth 100000 in
set_option maxHeartbeats 2000000 in
theorem wireBounds_any (n fr : Int) (w : World) (hn : -9223372036854775808 ≤ n ∧ n ≤ 9223372036854775807) (_hf : -9223372036854775808 ≤ fr ∧ fr ≤ 9223372036854775807) :
    Calls Try.prog 4 #[.int .i64 n, .int .i64 fr] w fun e w' => e = .returned (.bool true) ∧ Below w.heap.size w w' := by
  by_cases h0 : n < 0
  · go_enter Try.func4, Try.ntmps4
    go_wp2_with fail
    refine (wKnown_any _).mono ?_
    rintro e w1 ⟨rfl, hb⟩
    go_wp2
    go_ret
    exact ⟨rfl, hb⟩
  by_cases h1 : 200 < n
  · go_enter Try.func4, Try.ntmps4
    go_wp2_with fail
    refine (wKnown_any _).mono ?_
    rintro e w1 ⟨rfl, hb⟩
    go_wp2
    go_ret
    exact ⟨rfl, hb⟩
  obtain ⟨k, rfl⟩ : ∃ k : Nat, n = (k : Int) := ⟨n.toNat, by omega⟩
  have hk : (k : Int) ≤ 200 := by omega
  have hE1 : ∀ (W : World) (a : Option Addr), Rd W a k (BI (List.replicate k 0)) → Calls Try.prog 9 #[.agg #[.int .i64 0, .int .i64 0, .int .i64 0, .slice a k k, .slice none 0 0]] W fun e w' => ∃ r : Value, e = .returned (.tuple #[r, .int .i64 (((if 64 < k then 1 else 0 : Nat)) : Int)]) ∧ Below W.heap.size W w' := by
    intro W a h
    have := wEncode_any 0 0 0 a k (List.replicate k 0) none 0 [] W h (by intro n hn; have := List.eq_of_mem_replicate hn; omega) (Rd.none W)
    rw [List.length_replicate] at this
    refine this.mono ?_
    rintro e w' ⟨a', c', rfl, _, hb⟩
    exact ⟨_, by rw [wb_one], hb⟩
  have hE2 : ∀ (W : World), Calls Try.prog 9 #[.agg #[.int .i64 fr, .int .i64 0, .int .i64 0, .slice none 0 0, .slice none 0 0]] W fun e w' => ∃ r : Value, e = .returned (.tuple #[r, .int .i64 (((if fr < 0 ∨ 2147483647 < fr then 1 else 0 : Nat)) : Int)]) ∧ Below W.heap.size W w' := by
    intro W
    refine (wEncode_any fr 0 0 none 0 [] none 0 [] W (Rd.none W) (by simp) (Rd.none W)).mono ?_
    rintro e w' ⟨a', c', rfl, _, hb⟩
    exact ⟨_, by rw [wb_two], hb⟩
  obtain ⟨F1, hF1⟩ : ∃ F : Nat, F = if 64 < k then 1 else 0 := ⟨_, rfl⟩
  obtain ⟨F2, hF2⟩ : ∃ F : Nat, F = if fr < 0 ∨ 2147483647 < fr then 1 else 0 := ⟨_, rfl⟩
  rw [← hF1] at hE1
  rw [← hF2] at hE2
  have HE1 := Lib.hid hE1
  have HE2 := Lib.hid hE2
  clear hE1 hE2 h0 h1 hn
  have hc1 : (64 < (k : Int) ∧ F1 = 1) ∨ ((k : Int) ≤ 64 ∧ F1 = 0) := by
    by_cases h : 64 < k
    · rw [if_pos h] at hF1; exact .inl ⟨by omega, hF1⟩
    · rw [if_neg h] at hF1; exact .inr ⟨by omega, hF1⟩
  have hc2 : (fr < 0 ∧ F2 = 1) ∨ (0 ≤ fr ∧ 2147483647 < fr ∧ F2 = 1) ∨ (0 ≤ fr ∧ fr ≤ 2147483647 ∧ F2 = 0) := by
    by_cases h : fr < 0
    · rw [if_pos (.inl h)] at hF2; exact .inl ⟨h, hF2⟩
    · by_cases h' : 2147483647 < fr
      · rw [if_pos (.inr h')] at hF2; exact .inr (.inl ⟨by omega, h', hF2⟩)
      · rw [if_neg (by omega)] at hF2; exact .inr (.inr ⟨by omega, by omega, hF2⟩)
  clear hF1 hF2
  have HC1 := Lib.hid hc1
  have HC2 := Lib.hid hc2
  clear hc1 hc2
  go_enter Try.func4, Try.ntmps4
  go_wp2_with (with_reducible refine At.slot 18 ?_)
  refine At.out (wpList_makeI rfl (.tmp 17) (.tmp 17) 22 rfl elemI0 .i64 .i64 (k : Int) (k : Int) k rfl rfl rfl rfl (by omega) ?_)
  intro w1 ho1 hb1
  have hr1 := own_rd ho1
  clear ho1
  go_wp2_with fail
  refine (HE1.out w1 _ hr1).mono ?_
  rintro e w2 ⟨r2, rfl, hb2⟩
  have hb2' := hb1.trans (hb2.mono hb1.size)
  clear hr1 hb2
  go_wp2_with fail
  refine (HE2.out w2).mono ?_
  rintro e w3 ⟨r3, rfl, hb3⟩
  have hb3' := hb2'.trans (hb3.mono hb2'.size)
  clear hb3
  rcases HC1.out with ⟨h1, rfl⟩ | ⟨h1, rfl⟩
  all_goals
    rcases HC2.out with ⟨h2, rfl⟩ | ⟨h2, h3, rfl⟩ | ⟨h2, h3, rfl⟩
  all_goals
    go_wp2_with fail
    refine (wKnown_any _).mono ?_
    rintro e w4 ⟨rfl, hb4⟩
    go_wp2
    go_ret
    refine ⟨ret_bool ?_, hb3'.trans (hb4.mono hb3'.size)⟩
    simp
    try omega
end Go.Proofs.Ytalccaolbadncaa
