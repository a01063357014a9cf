/- NetFull: for every number the law returns true. Conditions: none. -/
import Derived.Test.YtoagneajlfglcaaNetKnown
namespace Go.Proofs.Ytoagneajlfglcaa
open Go Go.RowKit

/-- The messages behind i Sends. -/
def fullL (i : Nat) : List Ms := (List.range (min i 4096)).map fun (q : Nat) => msK (q : Int)
theorem fullL_len (i : Nat) : (fullL i).length = min i 4096 := by simp [fullL]
theorem fullL_small (i : Nat) : ∀ M ∈ fullL i, M.nums.length ≤ 100000000 ∧ M.data.length ≤ 100000000 := by
  intro M hM
  obtain ⟨q, _, rfl⟩ := List.mem_map.1 hM
  simp [msK]
theorem fullL_next (i : Nat) : sendL (fullL i) (msK (i : Int)) = fullL (i + 1) := by
  unfold sendL
  rw [fullL_len]
  by_cases h : i < 4096
  · rw [if_pos (by omega)]
    unfold fullL
    rw [show min (i + 1) 4096 = i + 1 by omega, show min i 4096 = i by omega, List.range_succ, List.map_append]
    rfl
  · rw [if_neg (by omega)]
    unfold fullL
    rw [show min (i + 1) 4096 = 4096 by omega, show min i 4096 = 4096 by omega]
theorem send_next (W : World) (g i : Nat) (h : NetI W g g (fullL i)) : Calls Try.prog 7 #[.pointer (some ⟨g, 0, none⟩), .agg #[.int .i64 0, .int .i64 0, .int .i64 (i : Int), .slice none 0 0, .slice none 0 0]] W fun e w' => e = .returned (.bool (decide (i < 4096))) ∧ NetI w' g g (fullL (i + 1)) ∧ Below g W w' := by
  have := send_any W g g (fullL i) h (by rw [fullL_len]; omega) (msK i) none none 0 0 (Rd.none _) (Rd.none _) (by simp [msK]) (by simp [msK])
  refine this.mono ?_
  rintro e w' ⟨rfl, hI, hb⟩
  refine ⟨?_, ?_, hb⟩
  · rw [fullL_len]
    exact congrArg (fun b => Ending.returned (Value.bool b)) (decide_eq_decide.2 (by omega))
  · rw [← fullL_next]; exact hI

set_option maxRecDepth 100000 in
set_option maxHeartbeats 2000000 in
theorem netFull_any (m : Int) (w : World) (_hm : -9223372036854775808 ≤ m ∧ m ≤ 9223372036854775807) :
    Calls Try.prog 3 #[.int .i64 m] w fun e w' => e = .returned (.bool true) ∧ Below w.heap.size w w' := by
  by_cases h0 : m < 0
  · go_enter Try.func3, Try.ntmps3
    go_wp2_with fail
    refine (netKnown_any _).mono ?_
    rintro e w1 ⟨rfl, hb⟩
    go_wp2
    go_ret
    exact ⟨rfl, hb⟩
  by_cases h1 : 50 < m
  · have h0' : 0 ≤ m := by omega
    go_enter Try.func3, Try.ntmps3
    go_wp2_with fail
    refine (netKnown_any _).mono ?_
    rintro e w1 ⟨rfl, hb⟩
    go_wp2
    go_ret
    exact ⟨rfl, hb⟩
  obtain ⟨n, rfl⟩ : ∃ n : Nat, m = n := ⟨m.toNat, by omega⟩
  have hn : n ≤ 50 := by omega
  have hni : (n : Int) ≤ 50 := by omega
  have hn0 : (0 : Int) ≤ (n : Int) := by omega
  obtain ⟨W0, hW0⟩ : ∃ W0, W0 = w.alloc (.cells #[.slice none 0 0] 26) := ⟨_, rfl⟩
  obtain ⟨g, hg⟩ : ∃ g, g = w.heap.size := ⟨_, rfl⟩
  have hI0 : NetI W0 g g (fullL 0) := by rw [hW0, hg]; exact NetI.new w _ (Nat.le_refl _)
  have hb0 : Below g w W0 := by rw [hW0, hg]; exact (Below.refl _ _).alloc (Nat.le_refl _) _
  have HW0 := Lib.hid hW0
  have HG := Lib.hid hg
  have HI0 := Lib.hid hI0
  clear hW0 hg h0 h1 hI0
  go_enter Try.func3, Try.ntmps3
  go_wp2_with fail
  rw [← HW0.out, ← HG.out]
  go_loopw [4] (fun s4 wr => ∃ i : Nat, i ≤ 4096 + n ∧ s4 = .int .i64 i ∧ Hid (NetI wr g g (fullL i)) ∧ Below g w wr) (fun s4 _ => 4096 + n - (intOf s4).toNat)
  case atStart => exact ⟨0, by omega, rfl, HI0, hb0⟩
  case round =>
    obtain ⟨i, hi, rfl, hIi, hbi⟩ := hrel
    by_cases hlt : i < 4096 + n
    · have hli : (i : Int) < 4096 + (n : Int) := by omega
      have hs := send_next wr g i hIi.out
      obtain ⟨r, hr⟩ : ∃ r, r = decide (i < 4096) := ⟨_, rfl⟩
      rw [← hr] at hs
      have hri : decide ((i : Int) < 4096) = r := by rw [hr]; exact decide_eq_decide.2 (by omega)
      have hne : (r != r) = false := by cases r <;> rfl
      have HS := Lib.hid hs
      clear hs hr
      go_wp2_with fail
      refine HS.out.mono ?_
      rintro e w3 ⟨rfl, hI3, hb3⟩
      have HI3 := Lib.hid hI3
      have HB3 := Lib.hid (hbi.trans hb3)
      clear hI3 hb3 hbi hIi
      go_wp2
      go_roundw
      case rel => exact ⟨i + 1, by omega, by go_num, HI3, HB3.out⟩
      case measure => simp [intOf]; omega
    · obtain rfl : i = 4096 + n := by omega
      have hle : (fullL (4096 + n)).length = 4096 := by rw [fullL_len]; omega
      have hsm := fullL_small (4096 + n)
      have hat : ∀ q : Nat, q < 4096 → (fullL (4096 + n))[q]? = some (msK (q : Int)) := by
        intro q hq
        unfold fullL
        rw [List.getElem?_map, List.getElem?_range (by omega)]
        rfl
      obtain ⟨L, hL⟩ : ∃ L, L = fullL (4096 + n) := ⟨_, rfl⟩
      rw [← hL] at hIi hle hsm hat
      have ht1 : Calls Try.prog 8 #[.pointer (some ⟨g, 0, none⟩), .int .i64 0] wr fun e w' => e = .returned (.bool false) ∧ NetI w' g g L ∧ Below g wr w' := by
        have := twice_any wr g g L hIi.out (by omega) hsm 0
        rw [show twiceB L 0 = false by simp [twiceB, hle], show twiceL L 0 = L by unfold twiceL; split <;> simp [sendL, hle]] at this
        exact this
      have hln : ∀ W, NetI W g g L → Calls Try.prog 9 #[.pointer (some ⟨g, 0, none⟩)] W fun e w' => e = .returned (.int .i64 4096) ∧ w' = W := fun W h => by
        have := len_any W g g L h
        rw [hle] at this
        exact this
      have htk : ∀ W, NetI W g g L → Calls Try.prog 10 #[.pointer (some ⟨g, 0, none⟩), .int .i64 4095] W fun e w' => ∃ an cn ad cd, e = .returned (.tuple #[.agg #[.int .i64 0, .int .i64 0, .int .i64 4095, .slice an 0 cn, .slice ad 0 cd], .bool true]) ∧ NetI w' g g (L.eraseIdx 4095) ∧ Below g W w' := fun W h => by
        refine (take_any W g g L h (by omega) hsm 4095).mono ?_
        rintro e w' ⟨x, rfl, hx, hI, hb⟩
        have ha : atL L 4095 = some (msK 4095) := hat 4095 (by omega)
        rw [ha] at hx ⊢
        have hx : MsR w' x.toList (msK 4095) := hx
        obtain ⟨an, cn, ad, cd, rfl⟩ := MsR.vals hx
        exact ⟨an, cn, ad, cd, rfl, hI, hb⟩
      have hle2 : (L.eraseIdx 4095).length = 4095 := by rw [List.length_eraseIdx_of_lt (by omega), hle]
      have ht2 : ∀ W, NetI W g g (L.eraseIdx 4095) → Calls Try.prog 8 #[.pointer (some ⟨g, 0, none⟩), .int .i64 0] W fun e w' => e = .returned (.bool true) ∧ Below g W w' := fun W h => by
        have h0 : (L.eraseIdx 4095)[0]? = some (msK 0) := by rw [List.getElem?_eraseIdx_of_lt (by omega)]; exact hat 0 (by omega)
        refine (twice_any W g g (L.eraseIdx 4095) h (by omega) (fun M hM => hsm M (List.mem_of_mem_eraseIdx hM)) 0).mono ?_
        rintro e w' ⟨rfl, _, hb⟩
        refine ⟨?_, hb⟩
        have ha : atL (L.eraseIdx 4095) 0 = some (msK 0) := h0
        unfold twiceB
        rw [ha, hle2]
        rfl
      have H1 := Lib.hid ht1
      have H2 := Lib.hid hln
      have H3 := Lib.hid htk
      have H4 := Lib.hid ht2
      clear ht1 hln htk ht2 hle2 hat hsm hle hL hIi
      go_wp2_with fail
      refine H1.out.mono ?_
      rintro e w3 ⟨rfl, hI3, hb3⟩
      have hb03 := hbi.trans hb3
      go_wp2_with fail
      refine (H2.out w3 hI3).mono ?_
      rintro e w4 ⟨rfl, hw4⟩
      have hw4 := hw4.symm
      subst hw4
      go_wp2_with fail
      refine (H3.out w3 hI3).mono ?_
      rintro e w5 ⟨an, cn, ad, cd, rfl, hI5, hb5⟩
      have hb05 := hb03.trans hb5
      have hgw : g ≤ w5.heap.size := by have := hb05.size; have := HG.out; omega
      have hI6 := fun o => hI5.kept ((Below.refl w5.heap.size w5).alloc (Nat.le_refl _) o)
      have hb06 := fun o => hb05.alloc hgw o
      have H6 := Lib.hid hI6
      have HB6 := Lib.hid hb06
      clear hI5 hb5 hb05 hI6 hb06 hI3 hb3 hb03 hbi
      go_wp2_with fail
      refine (H4.out _ (H6.out _)).mono ?_
      rintro e w7 ⟨rfl, hb7⟩
      have hb07 := (HB6.out _).trans hb7
      have HB7 := Lib.hid hb07
      clear hb7 hb07
      go_wp2_with fail
      refine (netKnown_any _).mono ?_
      rintro e w8 ⟨rfl, hb8⟩
      have hb08 := HB7.out.trans (hb8.mono (by have := HB7.out.size; have := HG.out; omega))
      go_wp2
      go_ret
      exact ⟨rfl, HG.out ▸ hb08⟩
end Go.Proofs.Ytoagneajlfglcaa
