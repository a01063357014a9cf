/- wire's reader: next and upTo. Conditions: each contract's own premises. -/
import Derived.Test.YteenbobblbehoaaWDecL
import Derived.Test.YteenbobblbehoaaKp
namespace Go.Proofs.Yteenbobblbehoaa
open Go Go.RowKit

/-- The reader's block. -/
def RdrB (w : World) (R : Nat) (a : Option Addr) (c : Nat) (s : List UInt8 × Bool) : Prop := BlkV w R 97 #[.slice a s.1.length c, .bool s.2]
/-- What next and upTo give. -/
def NextP (w : World) (R : Nat) (a : Option Addr) (c : Nat) (l : List UInt8) (k : IntKind) (r : Nat × List UInt8 × Bool) (e : Ending) (w' : World) : Prop :=
  e = .returned (.int k (r.1 : Nat)) ∧ ∃ a' c', RdrB w' R a' c' r.2 ∧ Sub a c (B8 l) a' c' (B8 r.2.1) ∧ Kp (· = R) w w' ∧ w'.heap.size = w.heap.size

theorem RdrB.bad {w : World} {R : Nat} {a : Option Addr} {c : Nat} {l : List UInt8} {b : Bool} (h : RdrB w R a c (l, b)) (b' : Bool) : RdrB (w.setCell ⟨R, 1, none⟩ (.bool b')) R a c (l, b') := by
  have := BlkV.set h 1 (.bool b')
  simpa [RdrB] using this

set_option maxRecDepth 100000 in
set_option maxHeartbeats 1000000 in
theorem next_any (w : World) (R : Nat) (a : Option Addr) (c : Nat) (l : List UInt8) (bad : Bool) (hB : RdrB w R a c (l, bad)) (hr : Rd w a c (B8 l)) :
    Calls Try.prog 55 #[.pointer (some ⟨R, 0, none⟩)] w (NextP w R a c l .u64 (nextS (l, bad))) := by
  have hl := hr.le
  rw [B8_length] at hl
  have hc := hr.1
  rw [B8_length] at hc
  have c0 := BlkV.cell hB 0
  have c1 := BlkV.cell hB 1
  have f0 := BlkV.frozen hB 0
  have f1 := BlkV.frozen hB 1
  simp only [List.getElem?_toArray, List.getElem?_cons_succ, List.getElem?_cons_zero] at c0 c1
  have hlt : R < w.heap.size := BlkV.lt hB
  cases bad with
  | true =>
    have HP : Hid (NextP w R a c l .u64 (nextS (l, true)) (.returned (.int .u64 0)) w) := Lib.hid (by
      rw [nextS_bad rfl]; exact ⟨rfl, a, c, hB, Sub.refl _ _ _, Kp.refl _ _, rfl⟩)
    clear hB
    go_enter Try.func55, Try.ntmps55
    go_wp2
    go_ret
    exact HP.out
  | false =>
    have hread := read_any w a c l hr
    obtain ⟨v, k, e, hR⟩ : ∃ v k e, rd l = (v, k, e) := ⟨_, _, _, rfl⟩
    rw [hR] at hread
    unfold rdV at hread
    simp only at hread
    have en : nextS (l, false) = if e = 0 then (v, l.drop k, false) else (0, l, true) := by unfold nextS; simp [hR]
    by_cases he : e = 0
    · subst he
      rw [if_pos rfl] at en
      have hk := (rd_canon hR).2.2.1
      have hs := BlkV.set hB 0 (.slice (partA a c k) (l.length - k) (c - k))
      have HP : Hid (NextP w R a c l .u64 (nextS (l, false)) (.returned (.int .u64 (v : Int))) (w.setCell ⟨R, 0, none⟩ (.slice (partA a c k) (l.length - k) (c - k)))) := Lib.hid (by
        rw [en]
        refine ⟨rfl, partA a c k, c - k, ?_, ?_, (Kp.refl (· = R) w).setCell rfl _ _, by simp⟩
        · simpa [RdrB, List.length_drop] using hs
        · have := sub_drop a c (B8 l) k (by rw [B8_length]; exact hk)
          rwa [← B8_drop] at this)
      have HK := Lib.hid hk
      clear hB hs en hR hk
      go_enter Try.func55, Try.ntmps55
      go_wp2_with fail
      refine hread.mono ?_
      rintro e w1 ⟨rfl, hw⟩
      subst hw
      clear hread
      go_wp2_with (with_reducible refine At.slot 30 ?_)
      refine At.out (wpList_plW rfl (.tmp 28) (.tmp 29) rfl elemB a l.length c rfl .i64 k rfl HK.out ?_)
      go_wp2
      go_ret
      exact HP.out
    · rw [if_neg he] at en
      have HP : Hid (NextP w R a c l .u64 (nextS (l, false)) (.returned (.int .u64 0)) (w.setCell ⟨R, 1, none⟩ (.bool true))) := Lib.hid (by
        rw [en]; exact ⟨rfl, a, c, RdrB.bad hB true, Sub.refl _ _ _, (Kp.refl (· = R) w).setCell rfl _ _, by simp⟩)
      have hei : ((e : Int) != 0) = true := by rw [bne_iff_ne]; omega
      clear hB en hR he
      go_enter Try.func55, Try.ntmps55
      go_wp2_with fail
      refine hread.mono ?_
      rintro e w1 ⟨rfl, hw⟩
      subst hw
      clear hread
      go_wp2
      go_ret
      exact HP.out

set_option maxRecDepth 100000 in
set_option maxHeartbeats 1000000 in
theorem upTo_any (w : World) (R : Nat) (a : Option Addr) (c : Nat) (l : List UInt8) (bad : Bool) (most : Nat) (hm : most ≤ 4294967295) (hB : RdrB w R a c (l, bad)) (hr : Rd w a c (B8 l)) :
    Calls Try.prog 53 #[.pointer (some ⟨R, 0, none⟩), .int .i64 (most : Int)] w (NextP w R a c l .i64 (upS most (l, bad))) := by
  have hn := next_any w R a c l bad hB hr
  obtain ⟨v, l1, b1, hS⟩ : ∃ v l1 b1, nextS (l, bad) = (v, l1, b1) := ⟨_, _, _, rfl⟩
  have hv := nextS_lt (l, bad)
  rw [hS] at hn hv
  have hv : v < 18446744073709551616 := hv
  have eu : upS most (l, bad) = if most < v then (0, l1, true) else (v, l1, b1) := by unfold upS; rw [hS]
  have hmw : IntKind.u64.wrap (most : Int) = (most : Int) := IntWalk.u64_in _ (by omega)
  have HN := Lib.hid hn
  clear hn hB hr hS
  by_cases hlt : most < v
  · rw [if_pos hlt] at eu
    rw [eu]
    have hlti : (most : Int) < (v : Int) := by omega
    clear eu hlt hv
    go_enter Try.func53, Try.ntmps53
    go_wp2_with fail
    refine HN.out.mono ?_
    rintro e w1 ⟨rfl, a1, c1, hB1, hsub, hkp, hsz⟩
    have f1 := BlkV.frozen hB1 1
    have k1 := BlkV.cell hB1 1
    simp only [List.getElem?_toArray, List.getElem?_cons_succ, List.getElem?_cons_zero] at k1
    have hlt1 : R < w1.heap.size := BlkV.lt hB1
    have HP : Hid (NextP w R a c l .i64 (0, l1, true) (.returned (.int .i64 0)) (w1.setCell ⟨R, 1, none⟩ (.bool true))) := Lib.hid
      ⟨rfl, a1, c1, RdrB.bad hB1 true, hsub, hkp.setCell rfl _ _, by simpa using hsz⟩
    clear hsub hkp hsz hB1
    go_wp2
    go_ret
    exact HP.out
  · rw [if_neg hlt] at eu
    rw [eu]
    have hlti : (v : Int) ≤ (most : Int) := by omega
    have hvw : wrap64 (v : Int) = (v : Int) := IntWalk.wrap64_in _ (by omega)
    clear eu hlt hv
    go_enter Try.func53, Try.ntmps53
    go_wp2_with fail
    refine HN.out.mono ?_
    rintro e w1 ⟨rfl, a1, c1, hB1, hsub, hkp, hsz⟩
    have HP : Hid (NextP w R a c l .i64 (v, l1, b1) (.returned (.int .i64 (v : Int))) w1) := Lib.hid ⟨rfl, a1, c1, hB1, hsub, hkp, hsz⟩
    clear hsub hkp hsz hB1
    go_wp2
    go_ret
    exact HP.out
end Go.Proofs.Yteenbobblbehoaa
