/- fsm's keeps: the contract. Conditions: its own premises. -/
import Derived.Test.YteenbobblbehoaaFsmClone
namespace Go.Proofs.Yteenbobblbehoaa
open Go Go.RowKit

theorem keepF_drop {V : Vl} {l : List Int} {k : Nat} (hk : k < l.length) : keepF V k (l.drop k) = (if l[k] = -1 then keepF V (k + 1) (l.drop (k + 1)) else if V.st = 2 ∧ V.nodes[k]? ≠ some l[k] then false else if hasF l[k] V.nodes = false then false else keepF V (k + 1) (l.drop (k + 1))) := by
  rw [List.drop_eq_getElem_cons hk]
  rfl
/-- A row of the table, as cells. -/
abbrev rowC (i : Nat) (V : Vl) (a : Option Addr) (m c : Nat) : Array Value := #[.int .i64 ((i : Int) + 1), .int .i64 V.st, .int .i64 V.ep, .slice a m c, .bool V.fr, .int .i64 0, .int .i64 V.key]

set_option maxRecDepth 100000 in
set_option maxHeartbeats 4000000 in
theorem keepF_any (w : World) (p i m : Nat) (V : Vl) (an : Option Addr) (cn : Nat) (hB : BlkV w p 65 (rowC i V an m cn)) (hm : m = V.nodes.length) (hrn : Rd w an cn (BI V.nodes)) (st : Int) (a : Option Addr) (c n : Nat) (l : List Int) (hn : n = l.length) (hr : Rd w a c (BI l))
    (hst : st = V.st ∨ (V.st = 0 ∧ st = 1)) :
    Calls Try.prog 66 #[ptrV p, .int .i64 st, .slice a n c] w fun e w' => e = .returned (.bool (keepF V 0 l)) ∧ w' = w := by
  obtain ⟨R, hR⟩ : ∃ R, R = keepF V 0 l := ⟨_, rfl⟩
  rw [← hR]
  have hl := hr.le
  rw [BI_length, ← hn] at hl
  have hln := hrn.le
  rw [BI_length, ← hm] at hln
  have hcon := fun x => contains_any w an cn m V.nodes hm x hrn
  have c1 := hB.cell 1
  have c3 := hB.cell 3
  unfold rowC at c1 c3
  simp only [List.getElem?_toArray, List.getElem?_cons_succ, List.getElem?_cons_zero] at c1 c3
  obtain ⟨S, hS⟩ : ∃ S, S = V.st := ⟨_, rfl⟩
  rw [← hS] at c1 hst
  have HR := Lib.hid hR
  have HN := Lib.hid hn
  have HM := Lib.hid hm
  have HS := Lib.hid hS
  have HC := Lib.hid hcon
  have hpass : (st != S) = false ∨ ((st != S) = true ∧ (S != 0) = false ∧ (st != 1) = false) := by
    rcases hst with h | ⟨h1, h2⟩
    · left; rw [h]; simp
    · right; subst h1 h2; exact ⟨rfl, rfl, rfl⟩
  unfold ptrV
  clear hR hn hm hS hcon hst hB
  rcases hpass with q1 | ⟨q1, q2, q3⟩
  all_goals
    go_enter Try.func66, Try.ntmps66
    go_wp2
    go_loopw [30] (fun s30 wr => ∃ k : Nat, k ≤ n ∧ s30 = .int .i64 k ∧ wr = w ∧ Hid (R = keepF V k (l.drop k))) (fun s30 _ => n - (intOf s30).toNat)
    case atStart => exact ⟨0, by omega, rfl, rfl, by rw [List.drop_zero]; exact HR⟩
    case round =>
      obtain ⟨k, hk, rfl, rfl, hK⟩ := hrel
      by_cases hlt : k < n
      · have hkl : k < l.length := by have := HN.out; omega
        have hki : (k : Int) < (n : Int) := by omega
        obtain ⟨b, o, rfl, u⟩ := hr.cs.bi k hkl
        have hK1 := hK.out
        rw [keepF_drop hkl] at hK1
        obtain ⟨x, hx⟩ : ∃ x, x = l[k] := ⟨_, rfl⟩
        rw [← hx] at u hK1
        have HX := Lib.hid hx
        clear hx hK
        by_cases h1 : x = -1
        · rw [if_pos h1] at hK1
          subst h1
          have HK := Lib.hid hK1
          clear hK1
          go_wp2
          go_roundw
          case rel => exact ⟨k + 1, by omega, by go_num, by trivial, HK⟩
          case measure => simp [intOf]; omega
        · rw [if_neg h1] at hK1
          have b1 : (x == -1) = false := by simpa using h1
          by_cases h2 : S = 2
          · have b2 : (S == 2) = true := by rw [h2]; rfl
            by_cases h3 : m ≤ k
            · have h3i : (m : Int) ≤ (k : Int) := by omega
              rw [if_pos ⟨by rw [← HS.out]; exact h2, by rw [List.getElem?_eq_none (by have := HM.out; omega)]; simp⟩] at hK1
              have HK := Lib.hid hK1
              clear hK1 h2
              go_wp2
              go_ret
              rw [HK.out]
              exact ⟨rfl, rfl⟩
            · have h3i : ¬ (m : Int) ≤ (k : Int) := by omega
              have h3j : (k : Int) < (m : Int) := by omega
              have hkm : k < V.nodes.length := by have := HM.out; omega
              obtain ⟨bn, on, rfl, un⟩ := hrn.cs.bi k hkm
              rw [List.getElem?_eq_getElem hkm] at hK1
              obtain ⟨y, hy⟩ : ∃ y, y = V.nodes[k] := ⟨_, rfl⟩
              rw [← hy] at un hK1
              clear hy
              by_cases h4 : y = x
              · have b4 : (y != x) = false := by rw [h4]; simp
                rw [if_neg (by simp [h4])] at hK1
                cases hh : hasF x V.nodes with
                | false =>
                  have HCC := HC.out x
                  rw [hh] at HCC hK1
                  rw [if_pos rfl] at hK1
                  have HCC := Lib.hid HCC
                  have HK := Lib.hid hK1
                  clear hK1 h2 h4 hh
                  go_wp2_with fail
                  refine HCC.out.mono ?_
                  rintro e w1 ⟨rfl, hw1⟩
                  have hw1 := hw1.symm
                  subst hw1
                  go_wp2
                  go_ret
                  rw [HK.out]
                  exact ⟨rfl, rfl⟩
                | true =>
                  have HCC := HC.out x
                  rw [hh] at HCC hK1
                  rw [if_neg (by simp)] at hK1
                  have HCC := Lib.hid HCC
                  have HK := Lib.hid hK1
                  clear hK1 h2 h4 hh
                  go_wp2_with fail
                  refine HCC.out.mono ?_
                  rintro e w1 ⟨rfl, hw1⟩
                  have hw1 := hw1.symm
                  subst hw1
                  go_wp2
                  go_roundw
                  case rel => exact ⟨k + 1, by omega, by go_num, by trivial, HK⟩
                  case measure => simp [intOf]; omega
              · have b4 : (y != x) = true := by simpa using h4
                rw [if_pos ⟨by rw [← HS.out]; exact h2, by simpa using h4⟩] at hK1
                have HK := Lib.hid hK1
                clear hK1 h2 h4
                go_wp2
                go_ret
                rw [HK.out]
                exact ⟨rfl, rfl⟩
          · have b2 : (S == 2) = false := by simpa using h2
            rw [if_neg (by rw [← HS.out]; exact fun h => h2 h.1)] at hK1
            cases hh : hasF x V.nodes with
            | false =>
              have HCC := HC.out x
              rw [hh] at HCC hK1
              rw [if_pos rfl] at hK1
              have HCC := Lib.hid HCC
              have HK := Lib.hid hK1
              clear hK1 h2 hh
              go_wp2_with fail
              refine HCC.out.mono ?_
              rintro e w1 ⟨rfl, hw1⟩
              have hw1 := hw1.symm
              subst hw1
              go_wp2
              go_ret
              rw [HK.out]
              exact ⟨rfl, rfl⟩
            | true =>
              have HCC := HC.out x
              rw [hh] at HCC hK1
              rw [if_neg (by simp)] at hK1
              have HCC := Lib.hid HCC
              have HK := Lib.hid hK1
              clear hK1 h2 hh
              go_wp2_with fail
              refine HCC.out.mono ?_
              rintro e w1 ⟨rfl, hw1⟩
              have hw1 := hw1.symm
              subst hw1
              go_wp2
              go_roundw
              case rel => exact ⟨k + 1, by omega, by go_num, by trivial, HK⟩
              case measure => simp [intOf]; omega
      · have hK1 : R = true := by rw [hK.out, List.drop_of_length_le (by have := HN.out; omega)]; rfl
        have HK := Lib.hid hK1
        clear hK hK1
        go_wp2
        go_ret
        rw [HK.out]
        exact ⟨rfl, rfl⟩

set_option maxRecDepth 100000 in
set_option maxHeartbeats 4000000 in
theorem keeps_any (w : World) (p i m : Nat) (V : Vl) (an : Option Addr) (cn : Nat) (hB : BlkV w p 65 (rowC i V an m cn)) (hm : m = V.nodes.length) (hrn : Rd w an cn (BI V.nodes)) (st : Int) (a : Option Addr) (c n : Nat) (l : List Int) (hn : n = l.length) (hr : Rd w a c (BI l)) :
    Calls Try.prog 66 #[ptrV p, .int .i64 st, .slice a n c] w fun e w' => e = .returned (.bool (keepsB V st l)) ∧ w' = w := by
  by_cases h : st ≠ V.st ∧ (V.st ≠ 0 ∨ st ≠ 1)
  · have hX : keepsB V st l = false := by unfold keepsB; rw [if_pos h]
    rw [hX]
    have c1 := hB.cell 1
    unfold rowC at c1
    simp only [List.getElem?_toArray, List.getElem?_cons_succ, List.getElem?_cons_zero] at c1
    obtain ⟨S, hS⟩ : ∃ S, S = V.st := ⟨_, rfl⟩
    rw [← hS] at c1 h
    have q1 : (st != S) = true := by simpa using h.1
    have q2 : (S != 0) = true ∨ ((S != 0) = false ∧ (st != 1) = true) := by
      by_cases h0 : S = 0
      · right; exact ⟨by rw [h0]; rfl, by have := h.2.resolve_left (fun e => e h0); simpa using this⟩
      · left; simpa using h0
    unfold ptrV
    clear hS h hX hn hm hB
    rcases q2 with q2 | ⟨q2, q3⟩
    all_goals
      go_enter Try.func66, Try.ntmps66
      go_wp2
      go_ret
      exact ⟨rfl, rfl⟩
  · have hX : keepsB V st l = keepF V 0 l := by unfold keepsB; rw [if_neg h]
    rw [hX]
    exact keepF_any w p i m V an cn hB hm hrn st a c n l hn hr (by
      by_cases h1 : st = V.st
      · exact .inl h1
      · right
        constructor
        · exact Decidable.byContradiction fun h2 => h ⟨h1, .inl h2⟩
        · exact Decidable.byContradiction fun h2 => h ⟨h1, .inr h2⟩)
end Go.Proofs.Yteenbobblbehoaa
