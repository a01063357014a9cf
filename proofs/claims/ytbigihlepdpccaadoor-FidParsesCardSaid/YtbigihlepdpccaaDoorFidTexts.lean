/- The law FidTexts: the walk. -/
import Derived.Test.YtbigihlepdpccaaDoorFidRef
namespace Go.Proofs.YtbigihlepdpccaaDoor
open Go Go.RowKit

set_option maxRecDepth 100000 in
set_option maxHeartbeats 2000000 in
theorem fidTexts_any (v : Int) (key : UInt64) (c : UInt32) (w : World) (m : Int) (hm : w.cell? ⟨0, 0, none⟩ = some (.int .i64 m)) :
    Calls Tryd.prog 3 #[fidV v key c] w fun e w' => e = .returned (.bool true) ∧ Below w.heap.size w w' := by
  by_cases hbad : v < 1 ∨ 99999999 < v ∨ key.toNat = 0
  · have c1 := text_bad v key c hbad
    have c2 := refText_bad v key c hbad
    clear hbad
    unfold fidV at c1 c2 ⊢
    have hb0 : Below w.heap.size w (w.alloc (.cells #[.int .i64 v, .int .u64 (key.toNat : Int), .int .u32 (c.toNat : Int)] 25)) := (Below.refl _ _).alloc (Nat.le_refl _) _
    go_enter Tryd.func3, Tryd.ntmps3
    go_wp2_with fail
    refine (c1 _).mono ?_
    rintro e w1 ⟨rfl, hb1⟩
    have hB1 := (BlkV.new w 25 #[.int .i64 v, .int .u64 (key.toNat : Int), .int .u32 (c.toNat : Int)]).below hb1
    have hc1 := hb0.trans (hb1.mono (by simp))
    have q0 := hB1.cell 0
    have q1 := hB1.cell 1
    have q2 := hB1.cell 2
    simp only [List.getElem?_toArray, List.getElem?_cons_succ, List.getElem?_cons_zero] at q0 q1 q2
    clear hb1 hb0
    go_wp2_with fail
    refine (c2 _).mono ?_
    rintro e w2 ⟨rfl, hb2⟩
    have hc2 := hc1.trans (hb2.mono (Nat.le_of_lt hB1.lt))
    clear hc1 hb2 hB1 q0 q1 q2
    go_wp2_with fail
    refine (fidKnown_any _).mono ?_
    rintro e w3 ⟨rfl, hb3⟩
    have hc3 := hc2.trans (hb3.mono hc2.size)
    go_wp2
    go_ret
    exact ⟨rfl, hc3⟩
  · obtain ⟨n, rfl⟩ : ∃ n : Nat, v = n := ⟨v.toNat, by omega⟩
    have c1 := text_ok n key c (by omega) (by omega) (by omega)
    have c2 := refText_ok n key c (by omega) (by omega) (by omega)
    have c3 := parse_ok n key c (by omega) (by omega) (by omega)
    clear hbad
    obtain ⟨S, hS⟩ : ∃ S, S = textL n key c := ⟨_, rfl⟩
    rw [← hS] at c1 c2 c3
    clear hS
    unfold fidV at c1 c2 c3 ⊢
    have hb0 : Below w.heap.size w (w.alloc (.cells #[.int .i64 n, .int .u64 (key.toNat : Int), .int .u32 (c.toNat : Int)] 25)) := (Below.refl _ _).alloc (Nat.le_refl _) _
    have hs := World.block_lt_of_cell? _ _ hm
    go_enter Tryd.func3, Tryd.ntmps3
    go_wp2_with fail
    refine (c1 _).mono ?_
    rintro e w1 ⟨rfl, hb1⟩
    have hB1 := (BlkV.new w 25 #[.int .i64 n, .int .u64 (key.toNat : Int), .int .u32 (c.toNat : Int)]).below hb1
    have hc1 := hb0.trans (hb1.mono (by simp))
    have q0 := hB1.cell 0
    have q1 := hB1.cell 1
    have q2 := hB1.cell 2
    simp only [List.getElem?_toArray, List.getElem?_cons_succ, List.getElem?_cons_zero] at q0 q1 q2
    clear hb1 hb0
    go_wp2_with fail
    refine (c2 _).mono ?_
    rintro e w2 ⟨rfl, hb2⟩
    have hB2 := hB1.below hb2
    have hc2 := hc1.trans (hb2.mono (Nat.le_of_lt hB1.lt))
    clear hc1 hb2 hB1 q0 q1 q2
    go_wp2_with fail
    refine (c3 _ m (by rw [hc2.cell hs]; exact hm)).mono ?_
    rintro e w3 ⟨rfl, hb3⟩
    have hB3 := hB2.below hb3
    have hc3 := hc2.trans (hb3.mono hc2.size)
    have hal : ∀ o, BlkV (w3.alloc o) w.heap.size 25 #[.int .i64 n, .int .u64 (key.toNat : Int), .int .u32 (c.toNat : Int)] := fun o => hB3.alloc o
    have q0 : ∀ o, (w3.alloc o).cell? ⟨w.heap.size, 0, none⟩ = some (.int .i64 n) := fun o => (hal o).cell 0
    have q1 : ∀ o, (w3.alloc o).cell? ⟨w.heap.size, 1, none⟩ = some (.int .u64 (key.toNat : Int)) := fun o => (hal o).cell 1
    have q2 : ∀ o, (w3.alloc o).cell? ⟨w.heap.size, 2, none⟩ = some (.int .u32 (c.toNat : Int)) := fun o => (hal o).cell 2
    have hc4 : ∀ o, Below w.heap.size w (w3.alloc o) := fun o => hc3.alloc hc3.size o
    clear hc2 hb3 hB2 hal
    go_wp2_with fail
    refine (fidKnown_any _).mono ?_
    rintro e w4 ⟨rfl, hb4⟩
    have hc5 := (hc4 _).trans (hb4.mono (hc4 _).size)
    go_wp2
    go_ret
    exact ⟨rfl, hc5⟩
end Go.Proofs.YtbigihlepdpccaaDoor
