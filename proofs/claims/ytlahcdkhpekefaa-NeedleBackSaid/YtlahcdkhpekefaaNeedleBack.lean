/- NeedleBack: for every needle, any bytes behind it, any place and any byte the law returns true. Conditions: none. -/
import Derived.Test.YtlahcdkhpekefaaNeedleCuts
import Derived.Test.YtlahcdkhpekefaaFlip
namespace Go.Proofs.Ytlahcdkhpekefaa
open Go Go.RowKit

set_option maxRecDepth 100000 in
set_option maxHeartbeats 8000000 in
theorem needleBack_any (key : UInt64) (ck : UInt32) (dead : Bool) (ad : Option Addr) (c : Nat) (l : List UInt8) (am : Option Addr) (cm : Nat) (m : List UInt8) (at' : Int) (by' : UInt8) (w : World) (hr : Rd w ad c (B8 l)) (hrm : Rd w am cm (B8 m)) (_hat : -9223372036854775808 ≤ at' ∧ at' ≤ 9223372036854775807) :
    Calls Try.prog 6 #[needV key ck dead ad l.length c, .slice am m.length cm, .int .i64 at', .int .u8 by'.toNat] w fun e w' => e = .returned (.bool true) ∧ Below w.heap.size w w' := by
  have hstart : ∀ o, Below w.heap.size w (w.alloc o) := fun o => (Below.refl _ _).alloc (Nat.le_refl _) o
  have hlm := hr.le
  have hmm := hrm.le
  rw [B8_length] at hlm hmm
  have hE := fun o => nEncode_any key ck dead ad c l (w.alloc o) (hr.kept (hstart o))
  by_cases hbig : 5000 < l.length
  · have hbd : (5000 : Int) < (l.length : Int) := by omega
    clear hE
    unfold needV
    go_enter Try.func6, Try.ntmps6
    go_wp2
    go_ret
    exact ⟨rfl, hstart _⟩
  have hbd : (l.length : Int) ≤ 5000 := by omega
  by_cases hbig2 : 5000 < m.length
  · have hbd2 : (5000 : Int) < (m.length : Int) := by omega
    clear hE
    unfold needV
    go_enter Try.func6, Try.ntmps6
    go_wp2
    go_ret
    exact ⟨rfl, hstart _⟩
  have hbd2 : (m.length : Int) ≤ 5000 := by omega
  rcases nEncode_cases key ck dead l with ⟨F, hF, he⟩ | ⟨hw, he⟩
  · rw [he] at hE
    unfold needV at hE ⊢
    have hFi : ((F : Int) != 0) = true := by rw [bne_iff_ne]; omega
    have HE := Lib.hid hE
    clear hE he
    go_enter Try.func6, Try.ntmps6
    go_wp2_with fail
    refine (HE.out _).mono ?_
    rintro e w1 ⟨a1, c1, rfl, hr1, hb1⟩
    have hb1' : Below w.heap.size w w1 := (hstart _).trans (hb1.mono (by simp))
    go_wp2_with fail
    refine (nKnown_any _).mono ?_
    rintro e w2 ⟨rfl, hb2⟩
    go_wp2
    go_ret
    exact ⟨rfl, hb1'.trans (hb2.mono hb1'.size)⟩
  · clear hE he
    obtain ⟨N, hN⟩ : ∃ N, N = sizeN l.length := ⟨_, rfl⟩
    obtain ⟨X, hX⟩ : ∃ X, X = needL key ck dead l := ⟨_, rfl⟩
    have hXl : X.length = N := by rw [hX, hN, needL_length]
    have hN1 : 32 ≤ N := hN ▸ sizeN_32 _
    have hN2 : N ≤ 5035 := by have := sizeN_le l.length; omega
    have hE2 : ∀ o, Calls Try.prog 9 #[needV key ck dead ad l.length c] (w.alloc o) fun e w' => ∃ g, e = .returned (.tuple #[.slice (some ⟨g, 0, none⟩) N N, .int .i64 0]) ∧ Blk w' g 5 X ∧ (w.alloc o).heap.size ≤ g ∧ Below (w.alloc o).heap.size (w.alloc o) w' := by
      intro o
      rw [hN, hX]
      exact nEncode_yes key ck dead ad c l (w.alloc o) (hr.kept (hstart o)) hw.le hw.dead0
    have hD1 : ∀ (W : World) (a : Option Addr) (c : Nat), Rd W a c (B8 (X ++ m)) → Calls Try.prog 16 #[.slice a (N + m.length) c] W fun e w' => ∃ a' c', e = .returned (.tuple #[.agg #[.int .u64 key.toNat, .int .u32 ck.toNat, .bool dead, .slice a' l.length c'], .int .i64 (N : Int), .int .i64 0]) ∧ Rd w' a' c' (B8 l) ∧ Below W.heap.size W w' := by
      intro W a c h
      have := nDecode_any W a c (X ++ m) h
      rw [hX, nDec_back key ck dead l m hw, ← hX, List.length_append, hXl, ← hN] at this
      refine this.mono ?_
      rintro e w' ⟨r, rfl, ho, hb⟩
      obtain ⟨a', c', rfl, hrd⟩ := Rd.ofOwn ho
      exact ⟨a', c', rfl, hrd, hb⟩
    obtain ⟨t, hT⟩ : ∃ t, at'.tmod (N : Int) = t := ⟨_, rfl⟩
    have hk : ∃ k : Nat, k < N ∧ ((t < 0 ∧ t + N = (k : Int)) ∨ (¬ t < 0 ∧ t = (k : Int))) := by
      obtain ⟨k, hk, h⟩ := place at' (n := N) (by omega)
      rw [hT] at h
      exact ⟨k, hk, h⟩
    have ht : -5036 < t ∧ t < 5036 := by obtain ⟨k, hk, h⟩ := hk; omega
    obtain ⟨ht1, ht2⟩ := ht
    obtain ⟨k, hkN, hk2⟩ := hk
    have hkl : k < X.length := by omega
    have hD2 : ∀ (W : World) (a : Option Addr) (c : Nat) (x : UInt8), x ≠ X[k] → Rd W a c (B8 (X.set k x)) → Calls Try.prog 16 #[.slice a N c] W fun e w' => ∃ (v0 v1 : Int) (v2 : Bool) (a' : Option Addr) (n' c' : Nat) (v3 : Int) (F : Int), e = .returned (.tuple #[.agg #[.int .u64 v0, .int .u32 v1, .bool v2, .slice a' n' c'], .int .i64 v3, .int .i64 F]) ∧ (F = 3 ∨ F = 4) ∧ Below W.heap.size W w' := by
      intro W a c x hx h
      have := nDecode_any W a c (X.set k x) h
      rw [List.length_set, hXl] at this
      refine this.mono ?_
      rintro e w' ⟨r, rfl, ho, hb⟩
      obtain ⟨a', c', rfl, hrd⟩ := Rd.ofOwn ho
      have hbad := nDec_bad key ck dead l hw k x (by rw [← hX]; exact hkl) (by simp only [← hX]; exact hx)
      rw [← hX] at hbad
      exact ⟨_, _, _, _, _, _, _, _, rfl, by omega, hb⟩
    have hNi : (32 : Int) ≤ (N : Int) := by omega
    have hNi2 : (N : Int) ≤ 5035 := by omega
    have hki : (k : Int) < (N : Int) := by omega
    have HE := Lib.hid hE2
    have HD1 := Lib.hid hD1
    have HD2 := Lib.hid hD2
    have HXl := Lib.hid hXl
    clear hE2 hD1 hD2 hXl hX hN hw
    have hN0 : ((N : Int) == 0) = false := by rw [beq_eq_false_iff_ne]; omega
    unfold needV at HE ⊢
    obtain ⟨C0, hC0⟩ : ∃ C0, C0 = #[Value.int .u64 (key.toNat : Int), .int .u32 (ck.toNat : Int), .bool dead, .slice ad l.length c] := ⟨_, rfl⟩
    go_enter Try.func6, Try.ntmps6
    go_wp2_with fail
    refine (HE.out _).mono ?_
    rintro e w1 ⟨g, rfl, hB1, hg1, hb1⟩
    have hb1' : Below w.heap.size w w1 := (hstart _).trans (hb1.mono (by simp))
    have hBn := (BlkV.new w 26 #[Value.int .u64 (key.toNat : Int), .int .u32 (ck.toNat : Int), .bool dead, .slice ad l.length c]).below hb1
    have hg1' : w.heap.size < g := by simp at hg1; omega
    obtain ⟨G, hG⟩ : ∃ G, G = w.heap.size := ⟨_, rfl⟩
    rw [← hG] at hBn hg1' ⊢
    have HG := Lib.hid hG
    clear hb1 hg1 hC0 hG
    have hz1 := hB1.lt
    have hrd1 := (hB1.rd (by have := HXl.out; omega)).cap' HXl.out
    go_wp2_with (with_reducible refine At.slot 46 ?_)
    refine At.out (wpList_app rfl (.tmp 44) (.tmp 45) 24 rfl elemB rfl w1.heap.size _ 0 [] rfl (own_empty w1 _) _ N N (B8 X) rfl (by rw [B8_length]; exact HXl.out.symm) (hrd1.kept ((Below.refl _ _).alloc (Nat.le_refl _) _)) (B8_one _) (by unfold maxLen; omega) (by omega) (by simp) ?_)
    intro v2 w2 ho2 hb2 _
    rw [Nat.zero_add, List.nil_append] at ho2
    have hb2' : Below w1.heap.size w1 w2 := ((Below.refl _ _).alloc (Nat.le_refl _) _).trans hb2
    have hw2 := hb1'.trans (hb2'.mono hb1'.size)
    clear hb2
    go_wp2_with (with_reducible refine At.slot 48 ?_)
    refine At.out (wpList_app rfl (.tmp 46) (.tmp 47) 24 rfl elemB rfl w1.heap.size _ N _ rfl ho2 am m.length cm (B8 m) rfl (B8_length m).symm (hrm.kept hw2) (B8_one _) (by unfold maxLen; omega) (by omega) hb2'.size ?_)
    intro v3 w3 ho3 hb3 _
    rw [← B8_append] at ho3
    obtain ⟨a3, c3, rfl, hrd3⟩ := Rd.ofOwn ho3
    have hb3' : Below w1.heap.size w1 w3 := hb2'.trans hb3
    clear ho3 ho2 hb3
    go_wp2_with fail
    refine (HD1.out w3 a3 c3 hrd3).mono ?_
    rintro e w4 ⟨a4, c4, rfl, hrd4, hb4⟩
    have hb4' : Below w1.heap.size w1 w4 := hb3'.trans (hb4.mono hb3'.size)
    have hw4 := hb1'.trans (hb4'.mono hb1'.size)
    have hBn4 := hBn.below hb4'
    have n0 := hBn4.cell 0
    have n1 := hBn4.cell 1
    have n2 := hBn4.cell 2
    have n3 := hBn4.cell 3
    have nz := hBn4.lt
    simp only [List.getElem?_toArray, List.getElem?_cons_succ, List.getElem?_cons_zero] at n0 n1 n2 n3
    clear hrd3 hb4
    go_wp2_with fail
    refine (needles_true _ key.toNat ck.toNat dead ad a4 c c4 l.length l rfl ((hr.kept hw4).kept ((Below.refl _ _).alloc (Nat.le_refl _) _)) (hrd4.kept ((Below.refl _ _).alloc (Nat.le_refl _) _))).mono ?_
    rintro e w5 ⟨rfl, hb5⟩
    have hb5' : Below w1.heap.size w1 w5 := (hb4'.alloc hb4'.size _).trans (hb5.mono (by have := hb4'.size; simp; omega))
    have hw5 := hb1'.trans (hb5'.mono hb1'.size)
    have ho5 := (hB1.below hb5').own (base := w.heap.size) (by have := HG.out; omega) (by unfold maxLen; have := HXl.out; omega)
    rw [HXl.out] at ho5
    have hcell := own_cell8n ho5 k hkl
    have hfr := ho5.frozenAt k
    obtain ⟨bb, hbb, hbn⟩ := flip_byte by'
    have hxr := u8_bin_xor X[k] bb
    obtain ⟨x, hxe⟩ : ∃ x, x = X[k] ^^^ bb := ⟨_, rfl⟩
    rw [← hxe] at hxr
    have hset := own_set8n ho5 k x
    have hne : x ≠ X[k] := by rw [hxe]; exact xor_ne _ _ hbn
    have hset2 := own_rd hset
    have hb6 : Below w.heap.size w (w5.setCell ⟨g, k, none⟩ (.int .u8 (x.toNat : Int))) := hw5.setCell (by have := HG.out; simp; omega) _
    have HNE := Lib.hid hne
    clear hset ho5 hrd1 hrd4 hxe hne hBn hBn4 n0 n1 n2 n3 nz hB1 hb5 hb5'
    rcases hk2 with ⟨hneg, e1⟩ | ⟨hneg, e1⟩
    · rcases hbb with ⟨hbz, rfl⟩ | ⟨hbz, rfl⟩
      · have hxr1 : bits BinOp.xor IntKind.u8 (X[k].toNat : Int) 1 = (x.toNat : Int) := hxr
        clear hxr
        go_wp2_with fail
        refine (HD2.out _ _ N x HNE.out hset2).mono ?_
        rintro e w6 ⟨v0, v1, v2, a', n', c', v3, F, rfl, hF, hb7⟩
        have hb7' : Below w.heap.size w w6 := hb6.trans (hb7.mono hb6.size)
        rcases hF with rfl | rfl
        all_goals
          go_wp2_with fail
          refine (nKnown_any _).mono ?_
          rintro e w7 ⟨rfl, hb8⟩
          have hb7a := hb7'.alloc hb7'.size (.cells #[.int .u64 v0, .int .u32 v1, .bool v2, .slice a' n' c'] 26)
          go_wp2
          go_ret
          exact ⟨rfl, hb7a.trans (hb8.mono hb7a.size)⟩
      · go_wp2_with fail
        refine (HD2.out _ _ N x HNE.out hset2).mono ?_
        rintro e w6 ⟨v0, v1, v2, a', n', c', v3, F, rfl, hF, hb7⟩
        have hb7' : Below w.heap.size w w6 := hb6.trans (hb7.mono hb6.size)
        rcases hF with rfl | rfl
        all_goals
          go_wp2_with fail
          refine (nKnown_any _).mono ?_
          rintro e w7 ⟨rfl, hb8⟩
          have hb7a := hb7'.alloc hb7'.size (.cells #[.int .u64 v0, .int .u32 v1, .bool v2, .slice a' n' c'] 26)
          go_wp2
          go_ret
          exact ⟨rfl, hb7a.trans (hb8.mono hb7a.size)⟩
    · rcases hbb with ⟨hbz, rfl⟩ | ⟨hbz, rfl⟩
      · have hxr1 : bits BinOp.xor IntKind.u8 (X[k].toNat : Int) 1 = (x.toNat : Int) := hxr
        clear hxr
        go_wp2_with fail
        refine (HD2.out _ _ N x HNE.out hset2).mono ?_
        rintro e w6 ⟨v0, v1, v2, a', n', c', v3, F, rfl, hF, hb7⟩
        have hb7' : Below w.heap.size w w6 := hb6.trans (hb7.mono hb6.size)
        rcases hF with rfl | rfl
        all_goals
          go_wp2_with fail
          refine (nKnown_any _).mono ?_
          rintro e w7 ⟨rfl, hb8⟩
          have hb7a := hb7'.alloc hb7'.size (.cells #[.int .u64 v0, .int .u32 v1, .bool v2, .slice a' n' c'] 26)
          go_wp2
          go_ret
          exact ⟨rfl, hb7a.trans (hb8.mono hb7a.size)⟩
      · go_wp2_with fail
        refine (HD2.out _ _ N x HNE.out hset2).mono ?_
        rintro e w6 ⟨v0, v1, v2, a', n', c', v3, F, rfl, hF, hb7⟩
        have hb7' : Below w.heap.size w w6 := hb6.trans (hb7.mono hb6.size)
        rcases hF with rfl | rfl
        all_goals
          go_wp2_with fail
          refine (nKnown_any _).mono ?_
          rintro e w7 ⟨rfl, hb8⟩
          have hb7a := hb7'.alloc hb7'.size (.cells #[.int .u64 v0, .int .u32 v1, .bool v2, .slice a' n' c'] 26)
          go_wp2
          go_ret
          exact ⟨rfl, hb7a.trans (hb8.mono hb7a.size)⟩
end Go.Proofs.Ytlahcdkhpekefaa
