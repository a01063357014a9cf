/- NeedleCuts: for every needle and place the law returns true. Conditions: none. -/
import Derived.Test.YtlahcdkhpekefaaNLaw
import Derived.Test.YtlahcdkhpekefaaNKnown
import Derived.Test.YtlahcdkhpekefaaNeedles
import Derived.Test.YtlahcdkhpekefaaIdx
namespace Go.Proofs.Ytlahcdkhpekefaa
open Go Go.RowKit

/-- Encode of a needle that is one, or of one that is none. -/
theorem nEncode_cases (key : UInt64) (ck : UInt32) (dead : Bool) (l : List UInt8) : (∃ F : Nat, F ≠ 0 ∧ nEnc key ck dead l = ([], F)) ∨ (Whole dead l ∧ nEnc key ck dead l = (needL key ck dead l, 0)) := by
  rcases nEnc_cases key ck dead l with ⟨_, _, he⟩ | ⟨_, _, he⟩ | ⟨h1, h2, he⟩
  · exact .inl ⟨1, by decide, he⟩
  · exact .inl ⟨5, by decide, he⟩
  · exact .inr ⟨⟨h1, h2⟩, he⟩
theorem sizeN_32 (n : Nat) : 32 ≤ sizeN n := by unfold sizeN; omega

set_option maxRecDepth 100000 in
set_option maxHeartbeats 4000000 in
theorem needleCuts_any (key : UInt64) (ck : UInt32) (dead : Bool) (ad : Option Addr) (c : Nat) (l : List UInt8) (at' : Int) (w : World) (hr : Rd w ad c (B8 l)) (_hat : -9223372036854775808 ≤ at' ∧ at' ≤ 9223372036854775807) :
    Calls Try.prog 7 #[needV key ck dead ad l.length c, .int .i64 at'] w fun e w' => e = .returned (.bool true) ∧ Below w.heap.size w w' := by
  have hstart : ∀ o, Below w.heap.size w (w.alloc o) := fun o => (Below.refl _ _).alloc (Nat.le_refl _) o
  have hlm := hr.le
  rw [B8_length] at hlm
  have hE := fun o => nEncode_any key ck dead ad c l (w.alloc o) (hr.kept (hstart o))
  by_cases hbig : 5000 < l.length
  · have hbd : (5000 : Int) < (l.length : Int) := by omega
    clear hE
    unfold needV
    go_enter Try.func7, Try.ntmps7
    go_wp2
    go_ret
    exact ⟨rfl, hstart _⟩
  · have hbd : (l.length : Int) ≤ 5000 := by omega
    rcases nEncode_cases key ck dead l with ⟨F, hF, he⟩ | ⟨hw, he⟩
    · rw [he] at hE
      unfold needV at hE ⊢
      have hFi : ((F : Int) != 0) = true := by rw [bne_iff_ne]; omega
      have HE := Lib.hid hE
      clear hE he
      go_enter Try.func7, Try.ntmps7
      go_wp2_with fail
      refine (HE.out _).mono ?_
      rintro e w1 ⟨a1, c1, rfl, hr1, hb1⟩
      have hb1' : Below w.heap.size w w1 := (hstart _).trans (hb1.mono (by simp))
      go_wp2_with fail
      refine (nKnown_any _).mono ?_
      rintro e w2 ⟨rfl, hb2⟩
      go_wp2
      go_ret
      exact ⟨rfl, hb1'.trans (hb2.mono hb1'.size)⟩
    · obtain ⟨N, hN⟩ : ∃ N, N = sizeN l.length := ⟨_, rfl⟩
      obtain ⟨X, hX⟩ : ∃ X, X = needL key ck dead l := ⟨_, rfl⟩
      have hXl : X.length = N := by rw [hX, hN, needL_length]
      have hcut : ∀ k, k < N → nDec (X.take k) = ((0, 0, false, []), 0, 2) := by
        intro k hk
        rw [hX]; exact nDec_cut key ck dead l hw k (by rw [needL_length, ← hN]; exact hk)
      have hN1 : 32 ≤ N := hN ▸ sizeN_32 _
      have hN2 : N ≤ 5035 := by have := sizeN_le l.length; omega
      have hE2 : ∀ o, Calls Try.prog 9 #[needV key ck dead ad l.length c] (w.alloc o) fun e w' => ∃ a c, e = .returned (.tuple #[.slice a N c, .int .i64 0]) ∧ Rd w' a c (B8 X) ∧ Below (w.alloc o).heap.size (w.alloc o) w' := by
        intro o
        have := hE o
        rw [he, ← hX] at this
        refine this.mono ?_
        rintro e w' ⟨a, c, rfl, h1, h2⟩
        exact ⟨a, c, by show Ending.returned (.tuple #[.slice a X.length c, .int .i64 0]) = _; rw [hXl], h1, h2⟩
      obtain ⟨t, hT⟩ : ∃ t, at'.tmod (N : Int) = t := ⟨_, rfl⟩
      have hk : ∃ k : Nat, k < N ∧ ((t < 0 ∧ t + N = (k : Int)) ∨ (¬ t < 0 ∧ t = (k : Int))) := by
        obtain ⟨k, hk, h⟩ := place at' (n := N) (by omega)
        rw [hT] at h
        exact ⟨k, hk, h⟩
      have ht : -5036 < t ∧ t < 5036 := by obtain ⟨k, hk, h⟩ := hk; omega
      obtain ⟨ht1, ht2⟩ := ht
      obtain ⟨k, hkN, hk2⟩ := hk
      have hD : ∀ (W : World) (a : Option Addr) (c : Nat), Rd W a c (B8 (X.take k)) → Calls Try.prog 16 #[.slice a k c] W fun e w' => ∃ a' c', e = .returned (.tuple #[.agg #[.int .u64 0, .int .u32 0, .bool false, .slice a' 0 c'], .int .i64 0, .int .i64 2]) ∧ Rd w' a' c' (B8 []) ∧ Below W.heap.size W w' := by
        intro W a c h
        have := nDecode_any W a c (X.take k) h
        rw [hcut k hkN, List.length_take, hXl, Nat.min_eq_left (by omega)] at this
        refine this.mono ?_
        rintro e w' ⟨r, rfl, ho, hb⟩
        obtain ⟨a', c', rfl, hrd⟩ := Rd.ofOwn ho
        exact ⟨a', c', rfl, hrd, hb⟩
      have hNi : (32 : Int) ≤ (N : Int) := by omega
      have hNi2 : (N : Int) ≤ 5035 := by omega
      have HE := Lib.hid hE2
      have HD := Lib.hid hD
      have HXl := Lib.hid hXl
      clear hE he hE2 hD hXl hX hN hcut hw
      unfold needV at HE ⊢
      rcases hk2 with ⟨hneg, e1⟩ | ⟨hneg, e1⟩
      all_goals
        go_enter Try.func7, Try.ntmps7
        go_wp2_with fail
        refine (HE.out _).mono ?_
        rintro e w1 ⟨a1, c1, rfl, hr1, hb1⟩
        have hb1' : Below w.heap.size w w1 := (hstart _).trans (hb1.mono (by simp))
        go_wp2_with (with_reducible refine At.slot 39 ?_)
        refine At.out (wpList_ph rfl (.tmp 37) (.tmp 38) rfl elemB a1 N c1 _ rfl hr1 .i64 k rfl (by rw [B8_length, HXl.out]; omega) ?_)
        intro a2 hp2
        have hr2 := hp2.rd
        rw [← B8_take] at hr2
        clear hp2
        go_wp2_with fail
        refine (HD.out _ _ _ hr2).mono ?_
        rintro e w3 ⟨a3, c3, rfl, hr3, hb3⟩
        have hb3' : Below w.heap.size w w3 := hb1'.trans (hb3.mono hb1'.size)
        go_wp2_with fail
        refine (needles_true _ 0 0 false a3 none c3 0 0 [] rfl (hr3.kept ((Below.refl _ _).alloc (Nat.le_refl _) _)) (Rd.none _)).mono ?_
        rintro e w4 ⟨rfl, hb4⟩
        have hb4' : Below w.heap.size w w4 := (hb3'.alloc hb3'.size _).trans (hb4.mono (by have := hb3'.size; simp; omega))
        go_wp2_with fail
        refine (nKnown_any _).mono ?_
        rintro e w5 ⟨rfl, hb5⟩
        go_wp2
        go_ret
        exact ⟨rfl, hb4'.trans (hb5.mono hb4'.size)⟩
end Go.Proofs.Ytlahcdkhpekefaa
