/- The law's own known. Conditions: none. -/
import Derived.Test.YtoagneajlfglcaaNetTwice
namespace Go.Proofs.Ytoagneajlfglcaa
open Go Go.RowKit

theorem NetI.new (w : World) (B : Nat) (hB : B ≤ w.heap.size) : NetI (w.alloc (.cells #[.slice none 0 0] 26)) B w.heap.size [] :=
  ⟨⟨.slice none 0 0, [], BlkV.new w _ _, World.ownsRow_nil _ _ _ _, rfl⟩, hB⟩
def msK (k : Int) : Ms := ⟨0, 0, k, [], []⟩

set_option maxRecDepth 100000 in
set_option maxHeartbeats 2000000 in
theorem netKnown_any (w : World) : Calls Try.prog 6 #[] w fun e w' => e = .returned (.bool true) ∧ Below w.heap.size w w' := by
  obtain ⟨W0, hW0⟩ : ∃ W0, W0 = w.alloc (.cells #[.slice none 0 0] 26) := ⟨_, rfl⟩
  obtain ⟨g, hg⟩ : ∃ g, g = w.heap.size := ⟨_, rfl⟩
  have hI0 : NetI W0 g g [] := by rw [hW0, hg]; exact NetI.new w _ (Nat.le_refl _)
  have hb0 : Below g w W0 := by rw [hW0, hg]; exact (Below.refl _ _).alloc (Nat.le_refl _) _
  have hs1 := send_any W0 g g [] hI0 (by simp) (msK 1) none none 0 0 (Rd.none _) (Rd.none _) (by simp [msK]) (by simp [msK])
  have hs2 := fun W (h : NetI W g g [msK 1]) => send_any W g g [msK 1] h (by simp) (msK 2) none none 0 0 (Rd.none _) (Rd.none _) (by simp [msK]) (by simp [msK])
  have ht := fun W (h : NetI W g g [msK 1, msK 2]) => take_any W g g [msK 1, msK 2] h (by simp) (by intro M hM; simp only [List.mem_cons, List.not_mem_nil, or_false] at hM; rcases hM with rfl | rfl <;> simp [msK]) 0
  have hln := fun W (h : NetI W g g [msK 2]) => len_any W g g [msK 2] h
  have hs1' : Calls Try.prog 7 #[.pointer (some ⟨g, 0, none⟩), .agg #[.int .i64 0, .int .i64 0, .int .i64 1, .slice none 0 0, .slice none 0 0]] W0 fun e w' => e = .returned (.bool true) ∧ NetI w' g g [msK 1] ∧ Below g W0 w' := hs1
  have hs2' : ∀ W, NetI W g g [msK 1] → Calls Try.prog 7 #[.pointer (some ⟨g, 0, none⟩), .agg #[.int .i64 0, .int .i64 0, .int .i64 2, .slice none 0 0, .slice none 0 0]] W fun e w' => e = .returned (.bool true) ∧ NetI w' g g [msK 1, msK 2] ∧ Below g W w' := fun W h => hs2 W h
  have ht' : ∀ W, NetI W g g [msK 1, msK 2] → Calls Try.prog 10 #[.pointer (some ⟨g, 0, none⟩), .int .i64 0] W fun e w' => ∃ an cn ad cd, e = .returned (.tuple #[.agg #[.int .i64 0, .int .i64 0, .int .i64 1, .slice an 0 cn, .slice ad 0 cd], .bool true]) ∧ NetI w' g g [msK 2] ∧ Below g W w' := fun W h => by
    refine (ht W h).mono ?_
    rintro e w' ⟨x, rfl, hx, hI, hb⟩
    have hx : MsR w' x.toList (msK 1) := hx
    obtain ⟨an, cn, ad, cd, rfl⟩ := MsR.vals hx
    exact ⟨an, cn, ad, cd, rfl, hI, hb⟩
  have hln' : ∀ W, NetI W g g [msK 2] → Calls Try.prog 9 #[.pointer (some ⟨g, 0, none⟩)] W fun e w' => e = .returned (.int .i64 1) ∧ w' = W := fun W h => hln W h
  have HW0 := Lib.hid hW0
  have HG := Lib.hid hg
  have H1 := Lib.hid hs1'
  have H2 := Lib.hid hs2'
  have HT := Lib.hid ht'
  have HL := Lib.hid hln'
  clear hW0 hs1 hs2 ht hln hs1' hs2' ht' hln' hI0 hg
  go_enter Try.func6, Try.ntmps6
  go_wp2_with fail
  rw [← HW0.out, ← HG.out]
  refine H1.out.mono ?_
  rintro e w1 ⟨rfl, hI1, hb1⟩
  have hb01 := hb0.trans hb1
  go_wp2_with fail
  refine (H2.out w1 hI1).mono ?_
  rintro e w2 ⟨rfl, hI2, hb2⟩
  have hb02 := hb01.trans hb2
  clear hI1 hb1 hb01 hb0 hb2
  go_wp2_with fail
  refine (HT.out w2 hI2).mono ?_
  rintro e w3 ⟨an, cn, ad, cd, rfl, hI3, hb3⟩
  have hb03 := hb02.trans hb3
  have hI4 := fun o => hI3.kept ((Below.refl w3.heap.size w3).alloc (Nat.le_refl _) o)
  have hgw : g ≤ w3.heap.size := by have := hb03.size; have := HG.out; omega
  have hb04 := fun o => hb03.alloc hgw o
  have H4 := Lib.hid hI4
  have HB4 := Lib.hid hb04
  clear hI2 hI3 hb3 hb02 hb03 hI4 hb04
  go_wp2_with fail
  refine (HL.out _ (H4.out _)).mono ?_
  rintro e w5 ⟨rfl, hw5⟩
  subst hw5
  go_wp2
  go_ret
  exact ⟨rfl, HG.out ▸ HB4.out _⟩
end Go.Proofs.Ytoagneajlfglcaa
