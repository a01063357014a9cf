/- The reference's Parse of a text. -/
import Derived.Test.YtbigihlepdpccaaDoorFidStep
namespace Go.Proofs.YtbigihlepdpccaaDoor
open Go Go.RowKit

theorem sget1 (A B C : List UInt8) (k : Nat) (x : UInt8) (h : A[k]? = some x) : (A ++ [44] ++ B ++ [44] ++ C)[k]? = some x := by
  have hk : k < A.length := (List.getElem?_eq_some_iff.1 h).1
  rw [show A ++ [44] ++ B ++ [44] ++ C = A ++ ([44] ++ B ++ [44] ++ C) by simp, List.getElem?_append_left hk, h]
theorem sget2 (A B C : List UInt8) : (A ++ [44] ++ B ++ [44] ++ C)[A.length]? = some 44 := by
  rw [show A ++ [44] ++ B ++ [44] ++ C = A ++ (44 :: (B ++ [44] ++ C)) by simp, List.getElem?_append_right (Nat.le_refl _)]
  simp
theorem sget3 (A B C : List UInt8) (j : Nat) (x : UInt8) (h : B[j]? = some x) : (A ++ [44] ++ B ++ [44] ++ C)[A.length + 1 + j]? = some x := by
  have hk : j < B.length := (List.getElem?_eq_some_iff.1 h).1
  rw [show A ++ [44] ++ B ++ [44] ++ C = (A ++ [44]) ++ (B ++ ([44] ++ C)) by simp, List.getElem?_append_right (by simp)]
  have e : A.length + 1 + j - (A ++ [44]).length = j := by simp
  rw [e, List.getElem?_append_left hk, h]
theorem sget4 (A B C : List UInt8) : (A ++ [44] ++ B ++ [44] ++ C)[A.length + 1 + B.length]? = some 44 := by
  rw [show A ++ [44] ++ B ++ [44] ++ C = (A ++ [44] ++ B) ++ (44 :: C) by simp, List.getElem?_append_right (by simp; omega)]
  have e : A.length + 1 + B.length - (A ++ [44] ++ B).length = 0 := by simp; omega
  rw [e]
  rfl
theorem sext1 (A B C : List UInt8) : (ByteArray.mk (A ++ [44] ++ B ++ [44] ++ C).toArray).extract (A.length + 1) (A.length + 1 + B.length) = ByteArray.mk B.toArray := by
  have : ((ByteArray.mk (A ++ [44] ++ B ++ [44] ++ C).toArray).extract (A.length + 1) (A.length + 1 + B.length)).data.toList = B := by
    rw [Lib.extract_data]
    show ((A ++ [44] ++ B ++ [44] ++ C).drop (A.length + 1)).take _ = _
    rw [show A ++ [44] ++ B ++ [44] ++ C = (A ++ [44]) ++ (B ++ ([44] ++ C)) by simp, show A.length + 1 = (A ++ [44]).length by simp, List.drop_left]
    have e : (A ++ [44]).length + B.length - (A ++ [44]).length = B.length := by omega
    rw [e, List.take_left]
  cases hE : (ByteArray.mk (A ++ [44] ++ B ++ [44] ++ C).toArray).extract (A.length + 1) (A.length + 1 + B.length) with
  | mk d => rw [hE] at this; simp only at this; rw [← this]
theorem sext2 (A B C : List UInt8) : (ByteArray.mk (A ++ [44] ++ B ++ [44] ++ C).toArray).extract (A.length + 1 + B.length + 1) (A ++ [44] ++ B ++ [44] ++ C).length = ByteArray.mk C.toArray := by
  have : ((ByteArray.mk (A ++ [44] ++ B ++ [44] ++ C).toArray).extract (A.length + 1 + B.length + 1) (A ++ [44] ++ B ++ [44] ++ C).length).data.toList = C := by
    rw [Lib.extract_data]
    show ((A ++ [44] ++ B ++ [44] ++ C).drop (A.length + 1 + B.length + 1)).take _ = _
    rw [show A.length + 1 + B.length + 1 = (A ++ [44] ++ B ++ [44]).length by simp; omega, List.drop_left]
    rw [List.take_of_length_le (by simp; omega)]
  cases hE : (ByteArray.mk (A ++ [44] ++ B ++ [44] ++ C).toArray).extract (A.length + 1 + B.length + 1) (A ++ [44] ++ B ++ [44] ++ C).length with
  | mk d => rw [hE] at this; simp only at this; rw [← this]
theorem bget? (l : List UInt8) (k : Nat) (x : UInt8) (hx : l[k]? = some x) : ∀ h, (ByteArray.mk l.toArray)[k]'h = x := by
  obtain ⟨hk, hx⟩ := List.getElem?_eq_some_iff.1 hx
  exact bget l k x hk hx.symm

set_option maxRecDepth 100000 in
set_option maxHeartbeats 4000000 in
theorem refParse_ok (v : Nat) (key : UInt64) (c : UInt32) (hv1 : 1 ≤ v) (hv2 : v ≤ 99999999) (hk : key.toNat ≠ 0) (w : World) :
    Calls Tryd.prog 10 #[.string ⟨(textL v key c).toArray⟩] w fun e w' => e = .returned (.tuple #[fidV v key c, .int .i64 0]) ∧ Below w.heap.size w w' := by
  obtain ⟨S, hS⟩ : ∃ S, S = textL v key c := ⟨_, rfl⟩
  obtain ⟨A, hA⟩ : ∃ A, A = decL v := ⟨_, rfl⟩
  obtain ⟨B, hB⟩ : ∃ B, B = HX key.toNat 1 := ⟨_, rfl⟩
  obtain ⟨C, hC⟩ : ∃ C, C = HX c.toNat 8 := ⟨_, rfl⟩
  have hSL : S = A ++ [44] ++ B ++ [44] ++ C := by rw [hS, hA, hB, hC]; rfl
  have kA : ∀ x ∈ A, DOk 10 x := by rw [hA]; exact decL_ok v
  have kB : ∀ x ∈ B, DOk 16 x := by rw [hB]; exact hexL_ok _ _
  have kC : ∀ x ∈ C, DOk 16 x := by rw [hC]; exact hexL_ok _ _
  have nA : 1 ≤ A.length := by rw [hA]; exact decL_pos v (by omega)
  have nA8 : A.length ≤ 8 := by rw [hA]; exact decL_len v (by omega)
  have nB : 1 ≤ B.length := by rw [hB]; exact hexL_pos _ _ (by decide)
  have nB16 : B.length ≤ 16 := by rw [hB]; exact HX_le _ _
  have nC : C.length = 8 := by rw [hC]; exact hexL8_len c.toNat c.toNat_lt
  have hlen : S.length = A.length + 1 + B.length + 1 + C.length := by rw [hSL]; simp; omega
  have vB := unhex_ok 1 16 B (by decide) nB nB16 kB
  have vC := unhex_ok 8 8 C (by decide) (by omega) (by omega) kC
  have hvA : valN 10 A = v := by rw [hA]; exact decL_val v (by omega)
  rw [show valN 16 B = key.toNat by rw [hB]; exact hexL_val _ _ key.toNat_lt] at vB
  rw [show valN 16 C = c.toNat by rw [hC]; exact hexL_val _ _ (Nat.lt_of_lt_of_le c.toNat_lt (by decide))] at vC
  have hT := refText_ok v key c hv1 hv2 hk
  rw [← hS] at hT ⊢
  have g1 := fun k x h => bget? S k x (hSL ▸ sget1 A B C k x h)
  have g2 := bget? S A.length 44 (hSL ▸ sget2 A B C)
  have g3 := fun j x h => bget? S (A.length + 1 + j) x (hSL ▸ sget3 A B C j x h)
  have g4 := bget? S (A.length + 1 + B.length) 44 (hSL ▸ sget4 A B C)
  have x1 : (ByteArray.mk S.toArray).extract (A.length + 1) (A.length + 1 + B.length) = ByteArray.mk B.toArray := hSL ▸ sext1 A B C
  have x2 : (ByteArray.mk S.toArray).extract (A.length + 1 + B.length + 1) S.length = ByteArray.mk C.toArray := hSL ▸ sext2 A B C
  obtain ⟨a, ha⟩ : ∃ a, a = A.length := ⟨_, rfl⟩
  obtain ⟨p, hp⟩ : ∃ p, p = A.length + 1 := ⟨_, rfl⟩
  obtain ⟨q, hq⟩ : ∃ q, q = A.length + 1 + B.length := ⟨_, rfl⟩
  obtain ⟨n, hn⟩ : ∃ n, n = S.length := ⟨_, rfl⟩
  have hpi : (a : Int) + 1 = (p : Int) := by omega
  rw [← hq, ← hp] at x1
  rw [← hq, ← hn] at x2
  rw [← hq] at g4
  rw [← ha] at g2
  have hszn : (ByteArray.mk S.toArray).size = n := by rw [hn]; rfl
  have G1 := Lib.hid g1
  have G3 := Lib.hid g3
  have G4 := Lib.hid g4
  have G2 := Lib.hid g2
  have HA := Lib.hid ha
  have HP := Lib.hid hp
  have HQ := Lib.hid hq
  have HN := Lib.hid hn
  have HV := Lib.hid hvA
  have b1 : a ≤ 8 := by omega
  have b2 : 1 ≤ a := by omega
  have b3 : q + 9 = n := by omega
  have b4 : p ≤ q := by omega
  have b5 : q ≤ 40 := by omega
  have hSn : S.length = n := hn.symm
  have nBb : B.length = q - p := by omega
  have HkB := Lib.hid kB
  clear hS hA hB hC hSL kB kC hlen nB nB16 nC g1 g2 g3 g4 ha hp hq hn hvA nA nA8
  unfold fidV at hT ⊢
  go_enter Tryd.func10, Tryd.ntmps10
  go_wp2
  obtain ⟨G, hG⟩ : ∃ G, G = w.heap.size := ⟨_, rfl⟩
  obtain ⟨W1, hW1⟩ : ∃ W1, W1 = w.alloc (.cells #[.int .i64 0, .int .u64 0, .int .u32 0] 25) := ⟨_, rfl⟩
  have hB1 : BlkV W1 G 25 #[.int .i64 0, .int .u64 0, .int .u32 0] := by rw [hW1, hG]; exact BlkV.new w _ _
  have hb1 : Below G w W1 := by rw [hW1, hG]; exact (Below.refl _ _).alloc (Nat.le_refl _) _
  rw [← hG, ← hW1]
  have HG := Lib.hid hG
  clear hG hW1
  go_loopw [4] (fun s4 wr => ∃ (k : Nat), k ≤ a ∧ s4 = .int .i64 (k : Int) ∧ wr = W1) (fun s4 _ => a - (intOf s4).toNat)
  case atStart => exact ⟨0, by omega, rfl, rfl⟩
  case round =>
    obtain ⟨k, hk, rfl, rfl⟩ := hrel
    by_cases hlt : k < a
    · obtain ⟨x, hx⟩ : ∃ x, A[k]? = some x := ⟨A[k]'(by have := HA.out; omega), List.getElem?_eq_getElem _⟩
      have hget := G1.out k x hx
      have hne : ¬ (x.toNat : Int) = 44 := by
        have := (kA x (List.mem_of_getElem? hx)).1
        omega
      have hki : (k : Int) < (n : Int) := by omega
      clear hx
      go_wp2
      exact ⟨⟨k + 1, by omega, by congr 1, trivial⟩, by simp [intOf]; omega⟩
    · obtain rfl : k = a := by omega
      have hget := G2.out
      have hki : (k : Int) < (n : Int) := by omega
      go_wp2
      clear hget hki
      go_loopw [5] (fun s5 w' => ∃ (j : Nat), p ≤ j ∧ j ≤ q ∧ s5 = .int .i64 (j : Int) ∧ w' = wr) (fun s5 _ => q - (intOf s5).toNat)
      case atStart => exact ⟨p, by omega, by omega, rfl, rfl⟩
      case round =>
        obtain ⟨j, hj1, hj2, rfl, rfl⟩ := hrel
        by_cases hjlt : j < q
        · obtain ⟨x, hx⟩ : ∃ x, B[j - p]? = some x := ⟨B[j - p]'(by omega), List.getElem?_eq_getElem _⟩
          have hget := G3.out (j - p) x hx
          rw [show A.length + 1 + (j - p) = j by have := HP.out; omega] at hget
          have hne : ¬ (x.toNat : Int) = 44 := by
            have := (HkB.out x (List.mem_of_getElem? hx)).1
            omega
          have hji : (j : Int) < (n : Int) := by omega
          clear hx
          go_wp2
          exact ⟨⟨j + 1, by omega, by omega, by congr 1, trivial⟩, by simp [intOf]; omega⟩
        · obtain rfl : j = q := by omega
          have hget := G4.out
          have hji : (j : Int) < (n : Int) := by omega
          have f1 : ¬ (k : Int) < 1 := by omega
          have f2 : ¬ 8 < (k : Int) := by omega
          have f3 : ¬ (n : Int) ≤ (j : Int) := by omega
          go_wp2
          clear hget hji f1 f2 f3
          go_loopw [6, 7] (fun s6 s7 w' => ∃ (i : Nat), i ≤ k ∧ s7 = .int .i64 (i : Int) ∧ s6 = .int .i64 (valN 10 (A.take i) : Nat) ∧ w' = wr) (fun _ s7 _ => k - (intOf s7).toNat)
          case atStart => exact ⟨0, by omega, rfl, rfl, rfl⟩
          case round =>
            obtain ⟨i, hi, rfl, rfl, rfl⟩ := hrel
            by_cases hilt : i < k
            · obtain ⟨x, hx⟩ : ∃ x, A[i]? = some x := ⟨A[i]'(by have := HA.out; omega), List.getElem?_eq_getElem _⟩
              have hget := G1.out i x hx
              obtain ⟨o1, o2, hnext⟩ := step10 A kA i x hx
              have hlast := take10_lt A (by have := HA.out; omega) kA (i + 1)
              rw [ten8] at hlast
              obtain ⟨V, hV⟩ : ∃ V, V = valN 10 (A.take i) := ⟨_, rfl⟩
              rw [← hV] at hnext ⊢
              rw [hnext] at hlast
              obtain ⟨U, hU⟩ : ∃ U, U = V * 10 + (x.toNat - 48) := ⟨_, rfl⟩
              have m1 : ¬ (x.toNat : Int) < 48 := by omega
              have m2 : ¬ 57 < (x.toNat : Int) := by omega
              have hii : (i : Int) < (n : Int) := by omega
              have hik : (i : Int) < (k : Int) := by omega
              have e4 : (V : Int) * 10 + (x.toNat : Int) - 48 = (U : Int) := by omega
              have o2i : (x.toNat : Int) ≤ 57 := by omega
              have hVb : (V : Int) ≤ 10000000 := by omega
              have hUb : (U : Int) ≤ 100000000 := by omega
              rw [← hU] at hnext
              have HN2 := Lib.hid hnext
              clear hx o1 o2 hnext hlast hV hU
              go_wp2
              exact ⟨⟨i + 1, by omega, by congr 1, by rw [HN2.out], trivial⟩, by simp [intOf]; omega⟩
            · obtain rfl : i = k := by omega
              have hVi : valN 10 (A.take i) = v := by rw [HA.out, List.take_length]; exact HV.out
              rw [hVi]
              clear hVi
              have hii : ¬ (i : Int) < (i : Int) := by omega
              have hj1 : (j : Int) + 1 ≤ (n : Int) := by omega
              have hpj : (p : Int) ≤ (j : Int) := by omega
              have hjn : (j : Int) ≤ (n : Int) := by omega
              have hcc : IntKind.u32.wrap (c.toNat : Int) = (c.toNat : Int) := by rw [IntKind.wrap_u32]; have := c.toNat_lt; omega
              go_wp2_with fail
              refine (vB _).mono ?_
              rintro e w1 ⟨rfl, hw⟩
              have hw := hw.symm
              subst hw
              go_wp2_with fail
              refine (vC _).mono ?_
              rintro e w1 ⟨rfl, hw⟩
              have hw := hw.symm
              subst hw
              go_wp2_with fail
              refine (hT _).mono ?_
              rintro e W5 ⟨rfl, hb5⟩
              have hF5 := (BlkV.new wr 25 #[.int .i64 (v : Int), .int .u64 (key.toNat : Int), .int .u32 (c.toNat : Int)]).below hb5
              have hq5 := ((Below.refl wr.heap.size wr).alloc (Nat.le_refl _) (.cells #[.int .i64 (v : Int), .int .u64 (key.toNat : Int), .int .u32 (c.toNat : Int)] 25)).trans (hb5.mono (by simp))
              have p4 := hB1.below hq5
              have p3 : Below G w W5 := hb1.trans (hq5.mono (Nat.le_of_lt hB1.lt))
              obtain ⟨F, hF⟩ : ∃ F, F = wr.heap.size := ⟨_, rfl⟩
              rw [← hF] at hF5 ⊢
              clear hb5 hF hq5 hB1 hb1
              have q0 := hF5.cell 0
              have q1 := hF5.cell 1
              have q2 := hF5.cell 2
              simp only [List.getElem?_toArray, List.getElem?_cons_succ, List.getElem?_cons_zero] at q0 q1 q2
              go_wp2_with (with_reducible refine At.store 25 (.tmp 2) (.tmp 121) ?_)
              refine At.out (wpList_storeV rfl _ rfl (.tmp 2) (.tmp 121) rfl strF G _ #[.int .i64 (v : Int), .int .u64 (key.toNat : Int), .int .u32 (c.toNat : Int)] rfl rfl p4 rfl rfl (by simp [Value.oneCell']) ?_)
              intro w2 hB2 hbel _
              have hb2 := hbel G w p3 (Nat.le_refl _)
              go_wp2_with fail
              exact bodyPost_ret (v := .tuple #[.agg #[.int .i64 (v : Int), .int .u64 (key.toNat : Int), .int .u32 (c.toNat : Int)], .int .i64 0]) (results_cell2 rfl strF rfl rfl hB2 rfl) rfl ⟨rfl, HG.out ▸ hb2⟩
end Go.Proofs.YtbigihlepdpccaaDoor
