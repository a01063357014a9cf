/- BitsVarints: for every number and bytes the law returns true. Conditions: none. -/
import Derived.Test.YtelmjcalacdncaaKnown1
import Derived.Test.YtelmjcalacdncaaUvRd
namespace Go.Proofs.Ytelmjcalacdncaa
open Go Go.RowKit

set_option maxRecDepth 100000 in
set_option maxHeartbeats 1000000 in
theorem bitsVarints_walk (v : UInt64) (a : Option Addr) (c : Nat) (l : List UInt8) (w : World) (hr : Rd w a c (B8 l)) :
    Calls Try.prog 7 #[.int .u64 v.toNat, .slice a l.length c] w fun e w' => e = .returned (.bool true) ∧ Below w.heap.size w w' := by
  have hl := hr.le
  rw [B8_length] at hl
  by_cases hbig : 3000 < l.length
  · go_enter Try.func7, Try.ntmps7
    go_wp2
    go_ret
    exact ⟨rfl, Below.refl _ _⟩
  have hbd : decide ((3000 : Int) < (l.length : Int)) = false := by simp; omega
  have hres := rd_uv v.toNat (u64_lt v) l
  have HR := Lib.hid hres; clear hres
  have hul := uvF_length 10 v.toNat
  have hn1 : 1 ≤ (uv v.toNat).length := hul.1
  have hn11 : (uv v.toNat).length ≤ 11 := hul.2
  clear hul
  go_enter Try.func7, Try.ntmps7
  go_wp2_with fail
  refine (uvarint_any v _).mono ?_
  rintro e w1 ⟨b, rfl, ho1, hb1⟩
  go_wp2_with fail
  refine (refUvarint_any v _).mono ?_
  rintro e w2 ⟨b2, rfl, ho2, hb2⟩
  have hr2 := (hr.kept hb1).kept hb2
  have hbb2 := hb1.trans (hb2.mono hb1.size)
  obtain ⟨a2, c2, rfl, hrd2⟩ := Rd.ofOwn ho2
  obtain ⟨g, cap, rfl, hg1, hg2, hg3, hg4⟩ := own_pos ho1 hn1
  have ho1' := own_below ho1 hb2
  clear ho1 ho2 hb1 hb2 hr
  go_wp2_with fail
  refine (same_true _ _ _ _ _ (uv v.toNat) (own_rd ho1') hrd2).mono ?_
  rintro e w3 ⟨rfl, hq⟩
  have hbb3 := hbb2.trans (hq.below _)
  have hr3 := hr2.kept (hq.below _)
  have ho3 := own_below ho1' (hq.below _)
  have hs3 := hbb3.size
  clear hq hrd2 ho1' hr2 hbb2
  go_wp2_with (with_reducible refine At.slot 30 ?_)
  refine At.out (wpList_app rfl (.tmp 28) (.tmp 29) 22 rfl elemB rfl w.heap.size _ _ _ rfl ho3 a l.length c (B8 l) rfl (B8_length l).symm hr3 (B8_one _) (by unfold maxLen; omega) (by omega) hs3 ?_)
  intro v4 w4 ho4 hb4 _
  have hbb4 := hbb3.trans hb4
  rw [← B8_append, ← List.length_append] at ho4
  obtain ⟨a4, c4, rfl, hrd4⟩ := Rd.ofOwn ho4
  clear ho3 hr3 hbb3 hb4 hs3 ho4
  go_wp2_with fail
  rw [show (uv v.toNat).length + l.length = (uv v.toNat ++ l).length by simp]
  refine (read_any _ _ _ _ hrd4).mono ?_
  rintro e w5 ⟨rfl, rfl⟩
  rw [HR.out]
  unfold rdV
  go_wp2_with fail
  refine (known_any _).mono ?_
  rintro e w6 ⟨rfl, hb6⟩
  go_wp2
  go_ret
  exact ⟨rfl, hbb4.trans (hb6.mono hbb4.size)⟩
end Go.Proofs.Ytelmjcalacdncaa
