/- BitsUnpacks: for every row of bytes and number the law returns true. Conditions: none. -/
import Derived.Test.YtelmjcalacdncaaKnown1
import Derived.Test.YtelmjcalacdncaaUnpack
namespace Go.Proofs.Ytelmjcalacdncaa
open Go Go.RowKit

set_option maxRecDepth 100000 in
set_option maxHeartbeats 1000000 in
theorem bitsUnpacks_walk (a : Option Addr) (c : Nat) (b : List UInt8) (n : Int) (w : World) (hr : Rd w a c (B8 b)) (hn : -9223372036854775808 ≤ n ∧ n ≤ 9223372036854775807) :
    Calls Try.prog 9 #[.slice a b.length c, .int .i64 n] w fun e w' => e = .returned (.bool true) ∧ Below w.heap.size w w' := by
  have hl := hr.le
  rw [B8_length] at hl
  have HN := Lib.hid hn; clear hn
  by_cases hbig : 3000 < b.length
  · go_enter Try.func9, Try.ntmps9
    go_wp2
    go_ret
    exact ⟨rfl, Below.refl _ _⟩
  have hbd : decide ((3000 : Int) < (b.length : Int)) = false := by simp; omega
  obtain ⟨l, hll⟩ : ∃ l, l = (unp b n).1 := ⟨_, rfl⟩
  obtain ⟨f, hf⟩ : ∃ f, f = (unp b n).2 := ⟨_, rfl⟩
  have hl7 : l.length ≤ 9223372036854775807 := by
    rw [hll]; unfold unp
    split
    · simp
    · split
      · simp
      · split
        · simp
        · split
          · simp [bitsOf_length]; omega
          · simp
  have HL := Lib.hid hll; clear hll
  have HF := Lib.hid hf; clear hf
  go_enter Try.func9, Try.ntmps9
  go_wp2_with fail
  refine (unpack_any _ _ _ b n hr (by omega) HN.out.2 HN.out.1).mono ?_
  rintro e w1 ⟨r, rfl, ho1, hb1⟩
  rw [← HL.out] at ho1
  rw [← HF.out]
  have hr1 := hr.kept hb1
  obtain ⟨a1, c1, rfl, rd1⟩ := Rd.ofOwn ho1
  clear ho1 hr
  go_wp2_with fail
  refine (refUnpack_any _ _ _ b n hr1 (by omega) HN.out.2 HN.out.1).mono ?_
  rintro e w4 ⟨r, rfl, ho2, hb2⟩
  rw [← HL.out] at ho2
  rw [← HF.out]
  have rd2 := rd1.kept hb2
  have hbb4 := hb1.trans (hb2.mono hb1.size)
  obtain ⟨a2, c2, rfl, rd4⟩ := Rd.ofOwn ho2
  clear ho2 hr1 hb1 hb2 rd1
  have hff : ((f : Int) != (f : Int)) = false := by simp
  have hll : ((l.length : Int) != (l.length : Int)) = false := by simp
  go_wp2
  go_loopw [9] (fun s9 wr => ∃ (k n : Nat), k ≤ l.length ∧ s9 = .int .i64 k ∧ wr = w4.drewN n) (fun s9 _ => l.length - (intOf s9).toNat)
  case atStart => exact ⟨0, 0, by omega, rfl, rfl⟩
  case round =>
    obtain ⟨k, n, hk, rfl, rfl⟩ := hrel
    by_cases hkl : k < l.length
    · obtain ⟨b1, o1, rfl, hc1⟩ := rd2.cs.bb k hkl
      obtain ⟨b2, o2, rfl, hc2⟩ := rd4.cs.bb k hkl
      have hki : (k : Int) < (l.length : Int) := by omega
      obtain ⟨v, hv⟩ : ∃ v, v = l[k] := ⟨_, rfl⟩
      rw [← hv] at hc1 hc2
      clear hv
      go_wp2
      cases v
      all_goals
        go_quiet (fail)
        go_wp2
        go_roundw
        case rel => exact ⟨k + 1, _, by omega, by go_num, rfl⟩
        case measure => simp [intOf]; omega
    · go_wp2_with fail
      refine (known_any _).mono ?_
      rintro e w5 ⟨rfl, hb5⟩
      go_wp2
      go_ret
      have hb6 := below_drewN hbb4 n
      exact ⟨rfl, hb6.trans (hb5.mono hb6.size)⟩
end Go.Proofs.Ytelmjcalacdncaa
