/- FrameBack: for all bytes, any bytes behind them, any place and any byte the law returns true. Conditions: none (the reach of the row is handed in). -/
import Derived.Test.YtnohhhlgfnjaoaaDecLaw
import Derived.Test.YtnohhhlgfnjaoaaFrameEncodes
import Derived.Test.YtnohhhlgfnjaoaaIdx
import Derived.Test.YtnohhhlgfnjaoaaFlip
namespace Go.Proofs.Ytnohhhlgfnjaoaa
open Go Go.RowKit

set_option maxRecDepth 100000 in
set_option maxHeartbeats 4000000 in
theorem frameBack_any (a1 : Option Addr) (c1 : Nat) (p : List UInt8) (a2 : Option Addr) (c2 : Nat) (m : List UInt8) (at' : Int) (by' : UInt8) (w : World) (h1 : Rd w a1 c1 (B8 p)) (z1 : c1 * 1 ≤ 140737488351232) (h2 : Rd w a2 c2 (B8 m)) (z2 : c2 * 1 ≤ 140737488351232)
    (_hat : -9223372036854775808 ≤ at' ∧ at' ≤ 9223372036854775807) :
    Calls Try.prog 5 #[.slice a1 p.length c1, .slice a2 m.length c2, .int .i64 at', .int .u8 by'.toNat] w fun e w' => e = .returned (.bool true) ∧ Below w.heap.size w w' := by
  have l1 := h1.1
  have l2 := h2.1
  rw [B8_length] at l1 l2
  have b1 : (p.length : Int) ≤ 140737488351232 := by omega
  have b2 : (m.length : Int) ≤ 140737488351232 := by omega
  by_cases hbig : 4000 < p.length + m.length
  · have hbd : (4000 : Int) < (p.length : Int) + (m.length : Int) := by omega
    go_enter Try.func5, Try.ntmps5
    go_wp2
    go_ret
    exact ⟨rfl, Below.refl _ _⟩
  · have hbd : (p.length : Int) + (m.length : Int) ≤ 4000 := by omega
    obtain ⟨N, hN⟩ : ∃ N, N = 8 + p.length := ⟨_, rfl⟩
    have hE : ∀ W : World, Below w.heap.size w W → Calls Try.prog 9 #[.slice a1 p.length c1] W fun e w' => ∃ r, e = .returned (.tuple #[r, .int .i64 0]) ∧ w'.ownsRow W.heap.size 5 1 r N (B8 (encL p)) ∧ Below W.heap.size W w' := by
      intro W hb
      rw [hN]
      exact encode_any W a1 c1 p (h1.kept hb) (by omega)
    have hlenE : (encL p).length = N := by rw [hN, encL_length]
    have hD1 : ∀ (W : World) (ad : Option Addr) (cd : Nat), Rd W ad cd (B8 (encL p ++ m)) → Calls Try.prog 15 #[.slice ad (N + m.length) cd] W fun e w' => ∃ r, e = .returned (.tuple #[r, .int .i64 (N : Int), .int .i64 0]) ∧ w'.ownsRow W.heap.size 5 1 r p.length (B8 p) ∧ Below W.heap.size W w' := by
      intro W ad cd h
      have := decode_any W ad cd (encL p ++ m) h
      rw [dec_enc p m (by omega), ← hN, List.length_append, hlenE] at this
      exact this
    have hN8 : 8 ≤ N := by omega
    have hNm : N ≤ 4008 := by omega
    have hNi : (8 : Int) ≤ (N : Int) := by omega
    have hNi2 : (N : Int) ≤ 4008 := by omega
    have hml : m.length ≤ 4000 := by omega
    have hpl : p.length ≤ 4000 := by omega
    have hM : ((N - 4 : Nat) : Int) = (N : Int) - 4 := by omega
    obtain ⟨t, hT⟩ : ∃ t, at'.tmod ((N : Int) - 4) = t := ⟨_, rfl⟩
    have ht1 : -4008 < t ∧ t < 4008 := by
      rw [← hT, ← hM]
      have h1 := Int.lt_tmod_of_pos at' (show (0 : Int) < ((N - 4 : Nat) : Int) by omega)
      have h2 := Int.tmod_lt_of_pos at' (show (0 : Int) < ((N - 4 : Nat) : Int) by omega)
      omega
    obtain ⟨ht1, ht2⟩ := ht1
    have hk : ∃ k : Nat, k < N - 4 ∧ ((t < 0 ∧ t + N - 4 = (k : Int)) ∨ (¬ t < 0 ∧ t = (k : Int))) := by
      obtain ⟨k, hk, h⟩ := place at' (n := N - 4) (by omega)
      rw [hM, hT] at h
      refine ⟨k, hk, ?_⟩
      rcases h with ⟨h, e⟩ | ⟨h, e⟩
      · exact .inl ⟨h, by omega⟩
      · exact .inr ⟨h, e⟩
    obtain ⟨k, hk, hk2⟩ := hk
    have hD2 : ∀ (W : World) (ad : Option Addr) (cd : Nat) (x : UInt8), (∀ h : 4 + k < (encL p).length, x ≠ (encL p)[4 + k]) → Rd W ad cd (B8 ((encL p).set (4 + k) x)) → Calls Try.prog 15 #[.slice ad N cd] W fun e w' => ∃ r, e = .returned (.tuple #[r, .int .i64 0, .int .i64 4]) ∧ Below W.heap.size W w' := by
      intro W ad cd x hx h
      have := decode_any W ad cd _ h
      rw [dec_bad p (by omega) k (by omega) x hx, List.length_set, hlenE] at this
      exact this.mono fun e w' ⟨r, he, _, hb⟩ => ⟨r, he, hb⟩
    obtain ⟨X, hX⟩ : ∃ X, X = encL p := ⟨_, rfl⟩
    rw [← hX] at hE hlenE hD1 hD2
    have hkl : 4 + k < X.length := by omega
    have hki : (4 : Int) + (k : Int) < (N : Int) := by omega
    have HE := Lib.hid hE
    have HD1 := Lib.hid hD1
    have HD2 := Lib.hid hD2
    have HL := Lib.hid hlenE
    clear hE hD1 hD2 hX hM hN hlenE
    go_enter Try.func5, Try.ntmps5
    go_wp2_with fail
    refine (HE.out w (Below.refl _ _)).mono ?_
    rintro e w1 ⟨r1, rfl, ho1, hb1⟩
    obtain ⟨g, cap, rfl, hg1, hg2, hg3, hg4⟩ := own_pos ho1 (by omega)
    have hrd1 := own_rd ho1
    go_wp2_with (with_reducible refine At.slot 42 ?_)
    refine At.out (wpList_app rfl (.tmp 40) (.tmp 41) 22 rfl elemB rfl w1.heap.size _ 0 [] rfl (own_empty w1 _) _ N cap (B8 X) rfl (by rw [B8_length]; exact HL.out.symm) (hrd1.kept ((Below.refl _ _).alloc (Nat.le_refl _) _)) (B8_one _) (by unfold maxLen; omega) (by omega) (by simp) ?_)
    intro v2 w2 ho2 hb2 _
    rw [Nat.zero_add, List.nil_append] at ho2
    have hb2' : Below w1.heap.size w1 w2 := ((Below.refl _ _).alloc (Nat.le_refl _) _).trans hb2
    have hw2 : Below w.heap.size w w2 := hb1.trans (hb2'.mono hb1.size)
    clear hb2
    go_wp2_with (with_reducible refine At.slot 44 ?_)
    refine At.out (wpList_app rfl (.tmp 42) (.tmp 43) 22 rfl elemB rfl w1.heap.size _ N _ rfl ho2 _ m.length c2 (B8 m) rfl (B8_length m).symm (h2.kept hw2) (B8_one _) (by unfold maxLen; omega) (by omega) hb2'.size ?_)
    intro v3 w3 ho3 hb3 _
    rw [← B8_append] at ho3
    obtain ⟨a3, c3, rfl, hrd3⟩ := Rd.ofOwn ho3
    have hb3' : Below w1.heap.size w1 w3 := hb2'.trans hb3
    clear ho3 ho2 hb3
    go_wp2_with fail
    refine (HD1.out w3 a3 c3 hrd3).mono ?_
    rintro e w4 ⟨r4, rfl, ho4, hb4⟩
    obtain ⟨a4, c4, rfl, hrd4⟩ := Rd.ofOwn ho4
    have hb4' : Below w1.heap.size w1 w4 := hb3'.trans (hb4.mono hb3'.size)
    have hw4 : Below w.heap.size w w4 := hb1.trans (hb4'.mono hb1.size)
    clear ho4 hb4 hrd3
    go_wp2_with fail
    refine (same_true w4 a1 a4 c1 c4 p (h1.kept hw4) hrd4).mono ?_
    rintro e w5 ⟨rfl, hq5⟩
    have hb5' : Below w1.heap.size w1 w5 := hb4'.trans (hq5.below _)
    have hw5 : Below w.heap.size w w5 := hb1.trans (hb5'.mono hb1.size)
    have ho5 := own_below ho1 hb5'
    have hcell := own_cell8n ho5 (4 + k) hkl
    have hfr := ho5.frozenAt (4 + k)
    obtain ⟨bb, hbb, hbn⟩ := flip_byte by'
    have hxr := u8_bin_xor X[4 + k] bb
    obtain ⟨x, hxe⟩ : ∃ x, x = X[4 + k] ^^^ bb := ⟨_, rfl⟩
    rw [← hxe] at hxr
    have hset := own_set8n ho5 (4 + k) x
    have hne : x ≠ X[4 + k] := by rw [hxe]; exact xor_ne _ _ hbn
    have hset2 := own_rd hset
    have hb6 : Below w.heap.size w (w5.setCell ⟨g, 4 + k, none⟩ (.int .u8 (x.toNat : Int))) := hw5.setCell hg1 _
    have HNE := Lib.hid hne
    clear hset ho5 ho1 hrd1 hrd4 hq5 hxe hne
    rcases hk2 with ⟨hneg, e1⟩ | ⟨hneg, e1⟩
    · rcases hbb with ⟨hbz, rfl⟩ | ⟨hbz, rfl⟩
      · have hxr1 : bits BinOp.xor IntKind.u8 (X[4 + k].toNat : Int) 1 = (x.toNat : Int) := hxr
        clear hxr
        go_wp2_with fail
        refine (HD2.out _ _ cap x (fun _ => HNE.out) hset2).mono ?_
        rintro e w6 ⟨r6, rfl, hb7⟩
        have hb7' : Below w.heap.size w w6 := hb6.trans (hb7.mono hb6.size)
        go_wp2_with fail
        refine (frameKnown_any _).mono ?_
        rintro e w7 ⟨rfl, hb8⟩
        go_wp2
        go_ret
        exact ⟨rfl, hb7'.trans (hb8.mono hb7'.size)⟩
      · go_wp2_with fail
        refine (HD2.out _ _ cap x (fun _ => HNE.out) hset2).mono ?_
        rintro e w6 ⟨r6, rfl, hb7⟩
        have hb7' : Below w.heap.size w w6 := hb6.trans (hb7.mono hb6.size)
        go_wp2_with fail
        refine (frameKnown_any _).mono ?_
        rintro e w7 ⟨rfl, hb8⟩
        go_wp2
        go_ret
        exact ⟨rfl, hb7'.trans (hb8.mono hb7'.size)⟩
    · rcases hbb with ⟨hbz, rfl⟩ | ⟨hbz, rfl⟩
      · have hxr1 : bits BinOp.xor IntKind.u8 (X[4 + k].toNat : Int) 1 = (x.toNat : Int) := hxr
        clear hxr
        go_wp2_with fail
        refine (HD2.out _ _ cap x (fun _ => HNE.out) hset2).mono ?_
        rintro e w6 ⟨r6, rfl, hb7⟩
        have hb7' : Below w.heap.size w w6 := hb6.trans (hb7.mono hb6.size)
        go_wp2_with fail
        refine (frameKnown_any _).mono ?_
        rintro e w7 ⟨rfl, hb8⟩
        go_wp2
        go_ret
        exact ⟨rfl, hb7'.trans (hb8.mono hb7'.size)⟩
      · go_wp2_with fail
        refine (HD2.out _ _ cap x (fun _ => HNE.out) hset2).mono ?_
        rintro e w6 ⟨r6, rfl, hb7⟩
        have hb7' : Below w.heap.size w w6 := hb6.trans (hb7.mono hb6.size)
        go_wp2_with fail
        refine (frameKnown_any _).mono ?_
        rintro e w7 ⟨rfl, hb8⟩
        go_wp2
        go_ret
        exact ⟨rfl, hb7'.trans (hb8.mono hb7'.size)⟩
end Go.Proofs.Ytnohhhlgfnjaoaa
