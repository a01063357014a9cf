/- BitsWrong: for every row of bytes, place and byte the law returns true. Conditions: none. -/
import Derived.Test.YtelmjcalacdncaaKnown1
import Derived.Test.YtelmjcalacdncaaIdx
namespace Go.Proofs.Ytelmjcalacdncaa
open Go Go.RowKit

theorem xor_ne (a b : UInt8) (h : b ≠ 0) : a ^^^ b ≠ a := by
  intro e
  apply h
  have := congrArg (a ^^^ ·) e
  simpa [← UInt8.xor_assoc] using this

set_option maxRecDepth 100000 in
set_option maxHeartbeats 1000000 in
theorem bitsWrong_walk (a : Option Addr) (c : Nat) (l : List UInt8) (at' : Int) (by' : UInt8) (w : World) (hr : Rd w a c (B8 l)) (_hat : -9223372036854775808 ≤ at' ∧ at' ≤ 9223372036854775807) :
    Calls Try.prog 4 #[.slice a l.length c, .int .i64 at', .int .u8 by'.toNat] w fun e w' => e = .returned (.bool true) ∧ Below w.heap.size w w' := by
  have hl := hr.le
  rw [B8_length] at hl
  clear _hat
  by_cases hbig : 3000 < l.length
  · go_enter Try.func4, Try.ntmps4
    go_wp2
    go_ret
    exact ⟨rfl, Below.refl _ _⟩
  by_cases hz : l.length = 0
  · go_enter Try.func4, Try.ntmps4
    go_wp2
    go_ret
    exact ⟨rfl, Below.refl _ _⟩
  have hz' : ((l.length : Int) == 0) = false := by rw [beq_eq_false_iff_ne]; omega
  have hbd : decide ((3000 : Int) < (l.length : Int)) = false := by simp; omega
  by_cases hb0 : by' = 0
  · have hb0' : ((by'.toNat : Int) == 0) = true := by rw [hb0]; rfl
    clear hb0
    go_enter Try.func4, Try.ntmps4
    go_wp2
    go_ret
    exact ⟨rfl, Below.refl _ _⟩
  have hb0' : ((by'.toNat : Int) == 0) = false := by
    rw [beq_eq_false_iff_ne]; intro e; apply hb0; apply UInt8.toNat_inj.1; have : (0 : UInt8).toNat = 0 := rfl; omega
  have HB := Lib.hid hb0; clear hb0
  have hpos : 0 < l.length := by omega
  have hw0 := place_wrap (at' := at') hpos (by omega)
  have hx := fun (x : UInt8) => u8_bin_xor x by'
  have HXR := Lib.hid hx; clear hx
  obtain ⟨k, hk, ⟨hneg, e1⟩ | ⟨hneg, e1⟩⟩ := place at' hpos
  all_goals
    go_enter Try.func4, Try.ntmps4
    go_wp2_with (with_reducible refine At.slot 23 ?_)
    refine At.out (wpList_app rfl (.tmp 21) (.tmp 22) 22 rfl elemB rfl w.heap.size _ 0 [] rfl (own_empty w _) a l.length c (B8 l) rfl (B8_length l).symm (hr.kept ((Below.refl _ _).alloc (Nat.le_refl _) _)) (B8_one _) (by unfold maxLen; omega) (by omega) (by simp) ?_)
    intro v1 w1 ho1 hb1 _
    simp only [Nat.zero_add, List.nil_append] at ho1
    obtain ⟨g, cap, rfl, hg1, hg2, hg3, hg4⟩ := own_pos ho1 hpos
    have hbb : Below w.heap.size w w1 := ((Below.refl _ _).alloc (Nat.le_refl _) _).trans hb1
    clear hb1
    have hcell := own_cell8 ho1 k hk
    have hfr := ho1.frozenAt k
    have hxr := HXR.out l[k]
    obtain ⟨x, hxe⟩ : ∃ x, x = l[k] ^^^ by' := ⟨_, rfl⟩
    rw [← hxe] at hxr
    have HXE := Lib.hid hxe; clear hxe
    have hset := own_set8 ho1 k x
    have hki : (k : Int) < (l.length : Int) := by omega
    obtain ⟨a2, cap2, hv2, hrd2⟩ := Rd.ofOwn hset
    simp only [Value.slice.injEq, true_and] at hv2
    obtain ⟨rfl, rfl⟩ := hv2
    clear ho1 hset
    go_wp2_with fail
    have hb2 : Below w.heap.size w (w1.setCell ⟨g, k, none⟩ (.int .u8 (x.toNat : Int))) := hbb.setCell hg1 _
    have hr2 := hr.kept hb2
    have hs2 : (w1.setCell ⟨g, k, none⟩ (.int .u8 (x.toNat : Int))).heap.size = w1.heap.size := by simp
    have HS2 := Lib.hid hs2; clear hs2
    have hlen : l.length = (l.set k x).length := by simp
    rw [hlen]
    refine (sum_any _ _ _ (l.set k x) hrd2).mono ?_
    rintro e w2 ⟨rfl, hb3⟩
    rw [← hlen]
    have hb4 : Below w.heap.size w w2 := hb2.trans (hb3.mono hb2.size)
    have hr3 := hr2.kept hb3
    clear hlen hb3 hb2 hr2 hrd2 hcell hfr hxr
    go_wp2_with fail
    refine (sum_any _ _ _ l hr3).mono ?_
    rintro e w3 ⟨rfl, hb5⟩
    have hb6 : Below w.heap.size w w3 := hb4.trans (hb5.mono hb4.size)
    clear hb4 hb5 hr3
    have hne : (((crc (l.set k x)).toNat : Int) != ((crc l).toNat : Int)) = true := by
      rw [bne_iff_ne]
      intro e
      exact crc_set l k hk x (by rw [HXE.out]; exact xor_ne _ _ HB.out) (UInt32.toNat_inj.1 (by omega))
    go_wp2_with fail
    refine (known_any _).mono ?_
    rintro e w4 ⟨rfl, hb7⟩
    go_wp2
    go_ret
    exact ⟨rfl, hb6.trans (hb7.mono hb6.size)⟩
end Go.Proofs.Ytelmjcalacdncaa
