/- The reference's Parse of what is no text. -/
import Derived.Test.YtbigihlepdpccaaDoorFidRefParse
namespace Go.Proofs.YtbigihlepdpccaaDoor
open Go Go.RowKit

theorem ext_list (S : List UInt8) (a b : Nat) : ∃ T : List UInt8, (ByteArray.mk S.toArray).extract a b = ByteArray.mk T.toArray ∧ T.length ≤ S.length := by
  refine ⟨((ByteArray.mk S.toArray).extract a b).data.toList, by rw [Array.toArray_toList], ?_⟩
  rw [Lib.extract_data]
  simp only [List.length_take, List.length_drop]
  omega

/-- The commas: where the first loop stops. -/
def Stop44 (S : List UInt8) (n k : Nat) : Prop := k = n ∨ (k < n ∧ ∀ h, (ByteArray.mk S.toArray)[k]'h = 44)
theorem stop_or (S : List UInt8) (n k : Nat) (hk : k ≤ n) (hn : S.length = n) :
    (k < n ∧ ∃ x : UInt8, (∀ h, (ByteArray.mk S.toArray)[k]'h = x) ∧ x.toNat ≠ 44) ∨ (k = n) ∨ (k < n ∧ ∀ h, (ByteArray.mk S.toArray)[k]'h = 44) := by
  by_cases hlt : k < n
  · have hget := bget S k (S[k]'(by omega)) (by omega) rfl
    by_cases hx : (S[k]'(by omega)).toNat = 44
    · exact .inr (.inr ⟨hlt, fun h => by rw [hget h]; exact UInt8.toNat_inj.1 hx⟩)
    · exact .inl ⟨hlt, _, hget, hx⟩
  · exact .inr (.inl (by omega))

theorem ten7 : 10 ^ 7 = 10000000 := by decide

set_option maxRecDepth 100000 in
set_option maxHeartbeats 4000000 in
theorem refParse_no (S : List UInt8) (hs : S.length ≤ 1000) (hno : ¬ IsText S) (w : World) :
    Calls Tryd.prog 10 #[.string ⟨S.toArray⟩] w fun e w' => e = .returned (.tuple #[fidV 0 0 0, .int .i64 3]) ∧ Below w.heap.size w w' := by
  show Calls _ _ _ _ fun e w' => e = .returned (.tuple #[.agg #[.int .i64 0, .int .u64 0, .int .u32 0], .int .i64 3]) ∧ Below w.heap.size w w'
  have hT := refText_any S hno
  unfold fidV at hT
  obtain ⟨n, hn⟩ : ∃ n, n = S.length := ⟨_, rfl⟩
  have hSn : S.length = n := hn.symm
  have hszn : (ByteArray.mk S.toArray).size = n := by rw [hn]; rfl
  have HS := Lib.hid (fun k hk => stop_or S n k hk hSn)
  have HL := Lib.hid hSn
  have HX := Lib.hid (fun (k : Nat) (hk : k < n) => (⟨S[k]'(by omega), bget S k _ (by omega) rfl⟩ : ∃ x : UInt8, ∀ h, (ByteArray.mk S.toArray)[k]'h = x))
  have hn1 : n ≤ 1000 := by omega
  clear hn hno hs hSn
  go_enter Tryd.func10, Tryd.ntmps10
  go_wp2
  obtain ⟨G, hG⟩ : ∃ G, G = w.heap.size := ⟨_, rfl⟩
  obtain ⟨W1, hW1⟩ : ∃ W1, W1 = w.alloc (.cells #[.int .i64 0, .int .u64 0, .int .u32 0] 25) := ⟨_, rfl⟩
  have hB1 : BlkV W1 G 25 #[.int .i64 0, .int .u64 0, .int .u32 0] := by rw [hW1, hG]; exact BlkV.new w _ _
  have hb1 : Below G w W1 := by rw [hW1, hG]; exact (Below.refl _ _).alloc (Nat.le_refl _) _
  rw [← hG, ← hW1]
  have HG := Lib.hid hG
  clear hG hW1
  go_loopw [4] (fun s4 wr => ∃ (k : Nat), k ≤ n ∧ s4 = .int .i64 (k : Int) ∧ wr = W1) (fun s4 _ => n - (intOf s4).toNat)
  case atStart => exact ⟨0, by omega, rfl, rfl⟩
  case round =>
    obtain ⟨k, hk, rfl, rfl⟩ := hrel
    rcases HS.out k hk with ⟨hlt, x, hget, hx⟩ | hstop
    · have hne : ¬ (x.toNat : Int) = 44 := by omega
      have hki : (k : Int) < (n : Int) := by omega
      go_wp2
      exact ⟨⟨k + 1, by omega, by congr 1, trivial⟩, by simp [intOf]; omega⟩
    · -- STOP
      rcases hstop with hkn | ⟨hlt, hget⟩
      · subst hkn
        have hnl : ¬ (k : Int) < (k : Int) := by omega
        go_wp2
        clear hnl
        go_loopw [5] (fun s5 w' => s5 = .int .i64 ((k : Int) + 1) ∧ w' = wr) (fun s5 _ => 0)
        case atStart => exact ⟨rfl, rfl⟩
        case round =>
          obtain ⟨rfl, rfl⟩ := hrel
          have h5 : ¬ (k : Int) + 1 < (k : Int) := by omega
          have f3 : (k : Int) ≤ (k : Int) + 1 := by omega
          by_cases f1 : (k : Int) < 1
          · skip
            go_wp2_with (with_reducible refine At.store 25 (.tmp 2) (.tmp 53) ?_)
            refine At.out (wpList_storeV rfl _ rfl (.tmp 2) (.tmp 53) rfl strF G _ #[.int .i64 0, .int .u64 0, .int .u32 0] rfl rfl hB1 rfl rfl (by simp [Value.oneCell']) ?_)
            intro w2 hB2 hbel _
            have hb2 := hbel G w hb1 (Nat.le_refl _)
            go_wp2_with fail
            exact bodyPost_ret (v := .tuple #[.agg #[.int .i64 0, .int .u64 0, .int .u32 0], .int .i64 3]) (results_cell2 rfl strF rfl rfl hB2 rfl) rfl ⟨rfl, HG.out ▸ hb2⟩
          have f1' : (1 : Int) ≤ (k : Int) := by omega
          clear f1
          by_cases f2 : 8 < (k : Int)
          · skip
            go_wp2_with (with_reducible refine At.store 25 (.tmp 2) (.tmp 53) ?_)
            refine At.out (wpList_storeV rfl _ rfl (.tmp 2) (.tmp 53) rfl strF G _ #[.int .i64 0, .int .u64 0, .int .u32 0] rfl rfl hB1 rfl rfl (by simp [Value.oneCell']) ?_)
            intro w2 hB2 hbel _
            have hb2 := hbel G w hb1 (Nat.le_refl _)
            go_wp2_with fail
            exact bodyPost_ret (v := .tuple #[.agg #[.int .i64 0, .int .u64 0, .int .u32 0], .int .i64 3]) (results_cell2 rfl strF rfl rfl hB2 rfl) rfl ⟨rfl, HG.out ▸ hb2⟩
          have f2' : (k : Int) ≤ 8 := by omega
          clear f2
          skip
          go_wp2_with (with_reducible refine At.store 25 (.tmp 2) (.tmp 53) ?_)
          refine At.out (wpList_storeV rfl _ rfl (.tmp 2) (.tmp 53) rfl strF G _ #[.int .i64 0, .int .u64 0, .int .u32 0] rfl rfl hB1 rfl rfl (by simp [Value.oneCell']) ?_)
          intro w2 hB2 hbel _
          have hb2 := hbel G w hb1 (Nat.le_refl _)
          go_wp2_with fail
          exact bodyPost_ret (v := .tuple #[.agg #[.int .i64 0, .int .u64 0, .int .u32 0], .int .i64 3]) (results_cell2 rfl strF rfl rfl hB2 rfl) rfl ⟨rfl, HG.out ▸ hb2⟩
      · have hki : (k : Int) < (n : Int) := by omega
        go_wp2
        clear hki hget
        go_loopw [5] (fun s5 w' => ∃ (j : Nat), k + 1 ≤ j ∧ j ≤ n ∧ s5 = .int .i64 (j : Int) ∧ w' = wr) (fun s5 _ => n - (intOf s5).toNat)
        case atStart => exact ⟨k + 1, by omega, by omega, by congr 1, rfl⟩
        case round =>
          obtain ⟨j, hj1, hj2, rfl, rfl⟩ := hrel
          rcases HS.out j hj2 with ⟨hjlt, x, hget, hx⟩ | hstop
          · have hne : ¬ (x.toNat : Int) = 44 := by omega
            have hji : (j : Int) < (n : Int) := by omega
            go_wp2
            exact ⟨⟨j + 1, by omega, by omega, by congr 1, trivial⟩, by simp [intOf]; omega⟩
          · rcases hstop with hjn | ⟨hjlt, hget⟩
            · have h5 : ¬ (j : Int) < (n : Int) := by omega
              have f3 : (n : Int) ≤ (j : Int) := by omega
              clear hjn
              by_cases f1 : (k : Int) < 1
              · skip
                go_wp2_with (with_reducible refine At.store 25 (.tmp 2) (.tmp 53) ?_)
                refine At.out (wpList_storeV rfl _ rfl (.tmp 2) (.tmp 53) rfl strF G _ #[.int .i64 0, .int .u64 0, .int .u32 0] rfl rfl hB1 rfl rfl (by simp [Value.oneCell']) ?_)
                intro w2 hB2 hbel _
                have hb2 := hbel G w hb1 (Nat.le_refl _)
                go_wp2_with fail
                exact bodyPost_ret (v := .tuple #[.agg #[.int .i64 0, .int .u64 0, .int .u32 0], .int .i64 3]) (results_cell2 rfl strF rfl rfl hB2 rfl) rfl ⟨rfl, HG.out ▸ hb2⟩
              have f1' : (1 : Int) ≤ (k : Int) := by omega
              clear f1
              by_cases f2 : 8 < (k : Int)
              · skip
                go_wp2_with (with_reducible refine At.store 25 (.tmp 2) (.tmp 53) ?_)
                refine At.out (wpList_storeV rfl _ rfl (.tmp 2) (.tmp 53) rfl strF G _ #[.int .i64 0, .int .u64 0, .int .u32 0] rfl rfl hB1 rfl rfl (by simp [Value.oneCell']) ?_)
                intro w2 hB2 hbel _
                have hb2 := hbel G w hb1 (Nat.le_refl _)
                go_wp2_with fail
                exact bodyPost_ret (v := .tuple #[.agg #[.int .i64 0, .int .u64 0, .int .u32 0], .int .i64 3]) (results_cell2 rfl strF rfl rfl hB2 rfl) rfl ⟨rfl, HG.out ▸ hb2⟩
              have f2' : (k : Int) ≤ 8 := by omega
              clear f2
              skip
              go_wp2_with (with_reducible refine At.store 25 (.tmp 2) (.tmp 53) ?_)
              refine At.out (wpList_storeV rfl _ rfl (.tmp 2) (.tmp 53) rfl strF G _ #[.int .i64 0, .int .u64 0, .int .u32 0] rfl rfl hB1 rfl rfl (by simp [Value.oneCell']) ?_)
              intro w2 hB2 hbel _
              have hb2 := hbel G w hb1 (Nat.le_refl _)
              go_wp2_with fail
              exact bodyPost_ret (v := .tuple #[.agg #[.int .i64 0, .int .u64 0, .int .u32 0], .int .i64 3]) (results_cell2 rfl strF rfl rfl hB2 rfl) rfl ⟨rfl, HG.out ▸ hb2⟩
            · have hji : (j : Int) < (n : Int) := by omega
              have f3 : ¬ (n : Int) ≤ (j : Int) := by omega
              by_cases f1 : (k : Int) < 1
              · skip
                go_wp2_with (with_reducible refine At.store 25 (.tmp 2) (.tmp 53) ?_)
                refine At.out (wpList_storeV rfl _ rfl (.tmp 2) (.tmp 53) rfl strF G _ #[.int .i64 0, .int .u64 0, .int .u32 0] rfl rfl hB1 rfl rfl (by simp [Value.oneCell']) ?_)
                intro w2 hB2 hbel _
                have hb2 := hbel G w hb1 (Nat.le_refl _)
                go_wp2_with fail
                exact bodyPost_ret (v := .tuple #[.agg #[.int .i64 0, .int .u64 0, .int .u32 0], .int .i64 3]) (results_cell2 rfl strF rfl rfl hB2 rfl) rfl ⟨rfl, HG.out ▸ hb2⟩
              have f1' : (1 : Int) ≤ (k : Int) := by omega
              clear f1
              by_cases f2 : 8 < (k : Int)
              · skip
                go_wp2_with (with_reducible refine At.store 25 (.tmp 2) (.tmp 53) ?_)
                refine At.out (wpList_storeV rfl _ rfl (.tmp 2) (.tmp 53) rfl strF G _ #[.int .i64 0, .int .u64 0, .int .u32 0] rfl rfl hB1 rfl rfl (by simp [Value.oneCell']) ?_)
                intro w2 hB2 hbel _
                have hb2 := hbel G w hb1 (Nat.le_refl _)
                go_wp2_with fail
                exact bodyPost_ret (v := .tuple #[.agg #[.int .i64 0, .int .u64 0, .int .u32 0], .int .i64 3]) (results_cell2 rfl strF rfl rfl hB2 rfl) rfl ⟨rfl, HG.out ▸ hb2⟩
              have f2' : (k : Int) ≤ 8 := by omega
              clear f2
              have hk8 : k ≤ 8 := by omega
              have f1 : ¬ (k : Int) < 1 := by omega
              have f2 : ¬ 8 < (k : Int) := by omega
              go_wp2
              clear hget hji f1 f2 f3 f1' f2'
              go_loopw [6, 7] (fun s6 s7 w' => ∃ (i V : Nat), i ≤ k ∧ s7 = .int .i64 (i : Int) ∧ s6 = .int .i64 (V : Int) ∧ V < 10 ^ i ∧ w' = wr) (fun _ s7 _ => k - (intOf s7).toNat)
              case atStart => exact ⟨0, 0, by omega, rfl, rfl, by decide, rfl⟩
              case round =>
                obtain ⟨i, V, hi, rfl, rfl, hV, rfl⟩ := hrel
                by_cases hilt : i < k
                · obtain ⟨x, hx⟩ := HX.out i (by omega)
                  have hii : (i : Int) < (n : Int) := by omega
                  have hik : (i : Int) < (k : Int) := by omega
                  by_cases m1 : (x.toNat : Int) < 48
                  · clear hV
                    go_wp2_with (with_reducible refine At.store 25 (.tmp 2) (.tmp 69) ?_)
                    refine At.out (wpList_storeV rfl _ rfl (.tmp 2) (.tmp 69) rfl strF G _ #[.int .i64 0, .int .u64 0, .int .u32 0] rfl rfl hB1 rfl rfl (by simp [Value.oneCell']) ?_)
                    intro w2 hB2 hbel _
                    have hb2 := hbel G w hb1 (Nat.le_refl _)
                    go_wp2_with fail
                    exact bodyPost_ret (v := .tuple #[.agg #[.int .i64 0, .int .u64 0, .int .u32 0], .int .i64 3]) (results_cell2 rfl strF rfl rfl hB2 rfl) rfl ⟨rfl, HG.out ▸ hb2⟩
                  by_cases m2 : 57 < (x.toNat : Int)
                  · have m1' : (48 : Int) ≤ (x.toNat : Int) := by omega
                    clear m1 hV
                    go_wp2_with (with_reducible refine At.store 25 (.tmp 2) (.tmp 69) ?_)
                    refine At.out (wpList_storeV rfl _ rfl (.tmp 2) (.tmp 69) rfl strF G _ #[.int .i64 0, .int .u64 0, .int .u32 0] rfl rfl hB1 rfl rfl (by simp [Value.oneCell']) ?_)
                    intro w2 hB2 hbel _
                    have hb2 := hbel G w hb1 (Nat.le_refl _)
                    go_wp2_with fail
                    exact bodyPost_ret (v := .tuple #[.agg #[.int .i64 0, .int .u64 0, .int .u32 0], .int .i64 3]) (results_cell2 rfl strF rfl rfl hB2 rfl) rfl ⟨rfl, HG.out ▸ hb2⟩
                  have hp : 10 ^ i ≤ 10 ^ 7 := Nat.pow_le_pow_right (by decide) (by omega)
                  rw [ten7] at hp
                  obtain ⟨U, hU⟩ : ∃ U, U = V * 10 + (x.toNat - 48) := ⟨_, rfl⟩
                  have hUlt : U < 10 ^ (i + 1) := by rw [Nat.pow_succ]; omega
                  have e4 : (V : Int) * 10 + (x.toNat : Int) - 48 = (U : Int) := by omega
                  have o2i : (x.toNat : Int) ≤ 57 := by omega
                  have o1i : (48 : Int) ≤ (x.toNat : Int) := by omega
                  have hVb : (V : Int) ≤ 10000000 := by omega
                  have hUb : (U : Int) ≤ 1000000000 := by omega
                  have HU := Lib.hid hUlt
                  clear hV hp hU hUlt m1 m2
                  go_wp2
                  exact ⟨⟨i + 1, U, by omega, by congr 1, by congr 1, HU.out, trivial⟩, by simp [intOf]; omega⟩
                · obtain rfl : i = k := by omega
                  have hii : ¬ (i : Int) < (i : Int) := by omega
                  have hj1 : (j : Int) + 1 ≤ (n : Int) := by omega
                  have hpj : (i : Int) + 1 ≤ (j : Int) := by omega
                  have hjn : (j : Int) ≤ (n : Int) := by omega
                  obtain ⟨T1, hT1, hL1⟩ := ext_list S (i + 1) j
                  obtain ⟨T2, hT2, hL2⟩ := ext_list S (j + 1) n
                  have vB := unhex_any 1 16 T1 (by decide) (by have := HL.out; omega)
                  have vC := unhex_any 8 8 T2 (by decide) (by have := HL.out; omega)
                  clear hL1 hL2 hV
                  go_wp2_with fail
                  refine (vB _).mono ?_
                  rintro e w1 ⟨⟨V2, b2, rfl⟩, hw⟩
                  have hw := hw.symm
                  subst hw
                  go_wp2_with fail
                  refine (vC _).mono ?_
                  rintro e w1 ⟨⟨V3, b3, rfl⟩, hw⟩
                  have hw := hw.symm
                  subst hw
                  obtain ⟨c, hcc⟩ : ∃ c : UInt32, IntKind.u32.wrap (V3.toNat : Int) = (c.toNat : Int) := by
                    refine ⟨UInt32.ofNat (V3.toNat % 4294967296), ?_⟩
                    rw [IntKind.wrap_u32, UInt32.toNat_ofNat', Nat.mod_eq_of_lt (Nat.mod_lt _ (by decide))]; omega
                  clear vB vC hT1 hT2 hii hj1 hpj hjn
                  go_wp2_with fail
                  clear hcc
                  refine (hT _ _ _ _).mono ?_
                  rintro e W5 ⟨he, hb5⟩
                  have hq5 := ((Below.refl wr.heap.size wr).alloc (Nat.le_refl _) (.cells #[.int .i64 (V : Int), .int .u64 (V2.toNat : Int), .int .u32 (c.toNat : Int)] 25)).trans (hb5.mono (by simp))
                  have p4 := hB1.below hq5
                  have p3 : Below G w W5 := hb1.trans (hq5.mono (Nat.le_of_lt hB1.lt))
                  obtain ⟨F, hF⟩ : ∃ F, F = wr.heap.size := ⟨_, rfl⟩
                  rw [← hF]
                  clear hb5 hF hq5 hB1 hb1 hT
                  rcases he with ⟨t, hne, rfl⟩ | rfl
                  · have hne1 : (t == S) = false := beq_eq_false_iff_ne.2 hne
                    clear hne
                    cases b2 <;> cases b3 <;> (
                    go_wp2_with (with_reducible refine At.store 25 (.tmp 2) (.tmp 120) ?_)
                    refine At.out (wpList_storeV rfl _ rfl (.tmp 2) (.tmp 120) rfl strF G _ #[.int .i64 0, .int .u64 0, .int .u32 0] rfl rfl p4 rfl rfl (by simp [Value.oneCell']) ?_)
                    intro w2 hB2 hbel _
                    have hb2 := hbel G w p3 (Nat.le_refl _)
                    go_wp2_with fail
                    exact bodyPost_ret (v := .tuple #[.agg #[.int .i64 0, .int .u64 0, .int .u32 0], .int .i64 3]) (results_cell2 rfl strF rfl rfl hB2 rfl) rfl ⟨rfl, HG.out ▸ hb2⟩)
                  · cases b2 <;> cases b3 <;> (
                    go_wp2_with (with_reducible refine At.store 25 (.tmp 2) (.tmp 120) ?_)
                    refine At.out (wpList_storeV rfl _ rfl (.tmp 2) (.tmp 120) rfl strF G _ #[.int .i64 0, .int .u64 0, .int .u32 0] rfl rfl p4 rfl rfl (by simp [Value.oneCell']) ?_)
                    intro w2 hB2 hbel _
                    have hb2 := hbel G w p3 (Nat.le_refl _)
                    go_wp2_with fail
                    exact bodyPost_ret (v := .tuple #[.agg #[.int .i64 0, .int .u64 0, .int .u32 0], .int .i64 3]) (results_cell2 rfl strF rfl rfl hB2 rfl) rfl ⟨rfl, HG.out ▸ hb2⟩)
end Go.Proofs.YtbigihlepdpccaaDoor
