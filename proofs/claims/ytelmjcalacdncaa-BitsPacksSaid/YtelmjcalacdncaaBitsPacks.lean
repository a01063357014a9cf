/- BitsPacks: for every row of truths the law returns true. Conditions: none. -/
import Derived.Test.YtelmjcalacdncaaKnown1
import Derived.Test.YtelmjcalacdncaaUnpack
namespace Go.Proofs.Ytelmjcalacdncaa
open Go Go.RowKit

theorem unp_pk {l : List Bool} {b : List UInt8} (h : PkTo l l.length b) (hl : b.length = (l.length + 7) / 8) : unp b (l.length : Int) = (l, 0) := by
  have hbit : ∀ i, i < 8 * b.length → bitAt b i = (decide (i < l.length) && l.getD i false) := by
    intro i hi
    rw [bitAt_lt (by omega), h (i / 8) (by omega) (i % 8) (by omega)]
    have e : 8 * (i / 8) + i % 8 = i := by omega
    rw [e]
  have hz : restZero b l.length := by
    intro i h1 h2
    rw [hbit i h2, decide_eq_false (by omega), Bool.false_and]
  have hb : bitsOf b l.length = l := by
    symm
    apply bitsOf_eq rfl
    intro i hi _
    rw [hbit i (by omega), decide_eq_true hi, Bool.true_and, List.getD_eq_getElem?_getD, List.getElem?_eq_getElem hi]
    rfl
  unfold unp
  rw [if_neg (by omega), Int.toNat_natCast, if_neg (by omega), if_neg (by omega), if_pos hz, hb]

set_option maxRecDepth 100000 in
set_option maxHeartbeats 1000000 in
theorem bitsPacks_walk (a : Option Addr) (c : Nat) (l : List Bool) (w : World) (hr : Rd w a c (BB l)) :
    Calls Try.prog 11 #[.slice a l.length c] w fun e w' => e = .returned (.bool true) ∧ Below w.heap.size w w' := by
  have hl := hr.le
  rw [BB_length] at hl
  by_cases hbig : 3000 < l.length
  · go_enter Try.func11, Try.ntmps11
    go_wp2
    go_ret
    exact ⟨rfl, Below.refl _ _⟩
  have hbd : decide ((3000 : Int) < (l.length : Int)) = false := by simp; omega
  go_enter Try.func11, Try.ntmps11
  go_wp2_with fail
  refine (pack_any w a c l hr (by omega)).mono ?_
  rintro e w1 ⟨r, b, rfl, hbl, hpk, ho1, hb1⟩
  have hr1 := hr.kept hb1
  obtain ⟨a1, c1, rfl, rd1⟩ := Rd.ofOwn ho1
  have HBL := Lib.hid hbl
  have HU := Lib.hid (unp_pk hpk hbl)
  clear ho1 hr hbl
  go_wp2_with fail
  refine (refPack_any w1 a c l hr1 (by omega)).mono ?_
  rintro e w2 ⟨r, b', rfl, hbl', hpk', ho2, hb2⟩
  obtain rfl := hpk.same hpk' (by rw [HBL.out, hbl'])
  have hr2 := hr1.kept hb2
  have rd1' := rd1.kept hb2
  have hbb2 := hb1.trans (hb2.mono hb1.size)
  obtain ⟨a2, c2, rfl, rd2⟩ := Rd.ofOwn ho2
  clear ho2 hr1 hbl' hb1 hb2 rd1 hpk hpk'
  go_wp2_with fail
  refine (same_true _ _ _ _ _ b rd1' rd2).mono ?_
  rintro e w3 ⟨rfl, hq⟩
  have hr3 := hr2.kept (hq.below _)
  have rd3 := rd1'.kept (hq.below _)
  have hbb3 := hbb2.trans (hq.below _)
  have hne : ((b.length : Int) != ((l.length : Int) + 7) / 8) = false := by rw [bne_eq_false_iff_eq]; have := HBL.out; omega
  have hbl : b.length ≤ 1000000 := by have := HBL.out; omega
  clear hq hr2 rd1' rd2 hbb2
  go_wp2_with fail
  refine (unpack_any _ _ _ b (l.length : Int) rd3 hbl (by omega) (by omega)).mono ?_
  rintro e w4 ⟨r, rfl, ho4, hb4⟩
  rw [HU.out] at ho4
  rw [HU.out]
  have hr4 := hr3.kept hb4
  have hbb4 := hbb3.trans (hb4.mono hbb3.size)
  obtain ⟨a4, c4, rfl, rd4⟩ := Rd.ofOwn ho4
  have hll : ((l.length : Int) != (l.length : Int)) = false := by simp
  clear ho4 hr3 rd3 hb4 hbb3 hne hbl
  go_wp2
  go_loopw [6] (fun s6 wr => ∃ (k n : Nat), k ≤ l.length ∧ s6 = .int .i64 k ∧ wr = w4.drewN n) (fun s6 _ => l.length - (intOf s6).toNat)
  case atStart => exact ⟨0, 0, by omega, rfl, rfl⟩
  case round =>
    obtain ⟨k, n, hk, rfl, rfl⟩ := hrel
    by_cases hkl : k < l.length
    · obtain ⟨b1, o1, rfl, hc1⟩ := hr4.cs.bb k hkl
      obtain ⟨b2, o2, rfl, hc2⟩ := rd4.cs.bb k hkl
      have hki : (k : Int) < (l.length : Int) := by omega
      obtain ⟨v, hv⟩ : ∃ v, v = l[k] := ⟨_, rfl⟩
      rw [← hv] at hc1 hc2
      clear hv
      go_wp2
      cases v
      all_goals
        go_quiet (fail)
        go_wp2
        go_roundw
        case rel => exact ⟨k + 1, _, by omega, by go_num, rfl⟩
        case measure => simp [intOf]; omega
    · go_wp2_with fail
      refine (known_any _).mono ?_
      rintro e w5 ⟨rfl, hb5⟩
      go_wp2
      go_ret
      have hb6 := below_drewN hbb4 n
      exact ⟨rfl, hb6.trans (hb5.mono hb6.size)⟩
end Go.Proofs.Ytelmjcalacdncaa
