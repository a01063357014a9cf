/- fsm's small functions: different, of, may, one; slices.Contains: the contracts. Conditions: each contract's own premises. -/
import Derived.Test.YteenbobblbehoaaFsmL
import Derived.BigQuiet
import Derived.Deep.QuietTactic
namespace Go.Proofs.Yteenbobblbehoaa
open Go Go.RowKit

def ixF (n : Int) : Nat → List Int → Int
  | _, [] => -1
  | i, x :: l => if n = x then (i : Int) else ixF n (i + 1) l
theorem ixF_has (n : Int) : ∀ (l : List Int) (i : Nat), decide (0 ≤ ixF n i l) = hasF n l
  | [], _ => by simp [ixF, hasF]
  | x :: l, i => by
    unfold ixF hasF
    split
    · simp
    · exact ixF_has n l (i + 1)
theorem ixF_drop {n : Int} {l : List Int} {k : Nat} (hk : k < l.length) : ixF n k (l.drop k) = if n = l[k] then (k : Int) else ixF n (k + 1) (l.drop (k + 1)) := by
  rw [List.drop_eq_getElem_cons hk]
  rfl
theorem ixF_end {n : Int} {l : List Int} {k : Nat} (hk : l.length ≤ k) : ixF n k (l.drop k) = -1 := by
  rw [List.drop_of_length_le hk]
  rfl

set_option maxRecDepth 100000 in
set_option maxHeartbeats 1000000 in
theorem index_any (w : World) (a : Option Addr) (c m : Nat) (l : List Int) (hm : m = l.length) (n : Int) (hr : Rd w a c (BI l)) :
    Calls Try.prog 64 #[.slice a m c, .int .i64 n] w fun e w' => e = .returned (.int .i64 (ixF n 0 l)) ∧ w' = w := by
  obtain ⟨R, hR⟩ : ∃ R, R = ixF n 0 l := ⟨_, rfl⟩
  rw [← hR]
  have hl := hr.le
  rw [BI_length, ← hm] at hl
  have HR := Lib.hid hR
  have HM := Lib.hid hm
  clear hR hm
  go_enter Try.func64, Try.ntmps64
  go_wp2
  go_loopw [8] (fun s8 wr => ∃ k : Nat, k ≤ m ∧ s8 = .int .i64 k ∧ wr = w ∧ Hid (R = ixF n k (l.drop k))) (fun s8 _ => m - (intOf s8).toNat)
  case atStart => exact ⟨0, by omega, rfl, rfl, by rw [List.drop_zero]; exact HR⟩
  case round =>
    obtain ⟨k, hk, rfl, rfl, hK⟩ := hrel
    by_cases hlt : k < m
    · have hkl : k < l.length := by have := HM.out; omega
      have hki : (k : Int) < (m : Int) := by omega
      obtain ⟨b, o, rfl, u⟩ := hr.cs.bi k hkl
      have hK1 : R = if n = l[k] then (k : Int) else ixF n (k + 1) (l.drop (k + 1)) := by rw [← ixF_drop hkl]; exact hK.out
      obtain ⟨x, hx⟩ : ∃ x, x = l[k] := ⟨_, rfl⟩
      rw [← hx] at u hK1
      have HX := Lib.hid hx
      clear hx hK
      by_cases he : n = x
      · rw [if_pos he] at hK1
        subst he
        have hb : (n == n) = true := by simp
        have HK := Lib.hid hK1
        clear hK1
        go_wp2
        go_ret
        rw [HK.out]
        exact ⟨rfl, rfl⟩
      · rw [if_neg he] at hK1
        have HK := Lib.hid hK1
        have hb : (n == x) = false := by simpa using he
        clear hK1
        go_wp2
        go_roundw
        case rel => exact ⟨k + 1, by omega, by go_num, by trivial, HK⟩
        case measure => simp [intOf]; omega
    · have hK1 : R = -1 := by rw [hK.out]; exact ixF_end (by have := HM.out; omega)
      have HK := Lib.hid hK1
      clear hK hK1
      go_wp2
      go_ret
      rw [HK.out]
      exact ⟨rfl, rfl⟩

set_option maxRecDepth 100000 in
set_option maxHeartbeats 1000000 in
theorem contains_any (w : World) (a : Option Addr) (c m : Nat) (l : List Int) (hm : m = l.length) (n : Int) (hr : Rd w a c (BI l)) :
    Calls Try.prog 46 #[.slice a m c, .int .i64 n] w fun e w' => e = .returned (.bool (hasF n l)) ∧ w' = w := by
  have hi := index_any w a c m l hm n hr
  have hd := ixF_has n l 0
  obtain ⟨R, hR⟩ : ∃ R, R = ixF n 0 l := ⟨_, rfl⟩
  rw [← hR] at hi hd
  have HI := Lib.hid hi
  clear hi hr hm hR
  go_enter Try.func46, Try.ntmps46
  go_wp2_with fail
  refine HI.out.mono ?_
  rintro e w1 ⟨rfl, hw1⟩
  have hw1 := hw1.symm
  subst hw1
  go_wp2
  go_ret
  exact ⟨rfl, rfl⟩

theorem one_any (w : World) (b : Bool) : Calls Try.prog 31 #[.bool b] w fun e w' => e = .returned (.int .i64 (oneI b)) ∧ w' = w := by
  cases b
  · go_enter Try.func31, Try.ntmps31
    go_wp2
    go_ret
    exact ⟨rfl, rfl⟩
  · go_enter Try.func31, Try.ntmps31
    go_wp2
    go_ret
    exact ⟨rfl, rfl⟩
end Go.Proofs.Yteenbobblbehoaa
