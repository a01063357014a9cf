/- The law FidParses: the walk. -/
import Derived.Test.YtbigihlepdpccaaDoorFidTexts
import Derived.Test.YtbigihlepdpccaaDoorFidRefNo
namespace Go.Proofs.YtbigihlepdpccaaDoor
open Go Go.RowKit

set_option maxRecDepth 100000 in
set_option maxHeartbeats 2000000 in
theorem fidParses_any (S : List UInt8) (hS : S.length ≤ 9223372036854775807) (w : World) (m : Int) (hm : w.cell? ⟨0, 0, none⟩ = some (.int .i64 m)) :
    Calls Tryd.prog 4 #[.string ⟨S.toArray⟩] w fun e w' => e = .returned (.bool true) ∧ Below w.heap.size w w' := by
  have hszn : (ByteArray.mk S.toArray).size = S.length := str_size S
  by_cases hlong : 200 < S.length
  · have hi : (200 : Int) < (S.length : Int) := by omega
    clear hlong
    go_enter Tryd.func4, Tryd.ntmps4
    go_wp2
    go_ret
    exact ⟨rfl, Below.refl _ _⟩
  have hi : (S.length : Int) ≤ 200 := by omega
  have hs := World.block_lt_of_cell? _ _ hm
  by_cases hT : IsText S
  · obtain ⟨v, key, c, h1, h2, h3, hTx⟩ := hT
    have c1 := parse_ok v key c h1 h2 h3
    have c2 := refParse_ok v key c h1 h2 h3
    have c3 := text_ok v key c h1 h2 h3
    rw [hTx] at c1 c2 c3
    unfold fidV at c1 c2 c3
    clear hTx h1 h2 h3 hlong
    go_enter Tryd.func4, Tryd.ntmps4
    go_wp2_with fail
    refine (c1 _ m hm).mono ?_
    rintro e w1 ⟨rfl, hb1⟩
    obtain ⟨B1, hB1⟩ : ∃ B, B = w1.heap.size := ⟨_, rfl⟩
    have hK1 : BlkV (w1.alloc (.cells #[.int .i64 (v : Int), .int .u64 (key.toNat : Int), .int .u32 (c.toNat : Int)] 25)) B1 25 #[.int .i64 (v : Int), .int .u64 (key.toNat : Int), .int .u32 (c.toNat : Int)] := by rw [hB1]; exact BlkV.new w1 _ _
    have hc1 : Below w.heap.size w (w1.alloc (.cells #[.int .i64 (v : Int), .int .u64 (key.toNat : Int), .int .u32 (c.toNat : Int)] 25)) := hb1.alloc hb1.size _
    have HB1 := Lib.hid hB1
    clear hb1
    go_wp2_with fail
    rw [← hB1]
    clear hB1
    refine (c2 _).mono ?_
    rintro e w3 ⟨rfl, hb3⟩
    have hK3 := hK1.below hb3
    have hc3 := hc1.trans (hb3.mono hc1.size)
    have q0 : ∀ o, (w3.alloc o).cell? ⟨B1, 0, none⟩ = some (.int .i64 (v : Int)) := fun o => (hK3.alloc o).cell 0
    have q1 : ∀ o, (w3.alloc o).cell? ⟨B1, 1, none⟩ = some (.int .u64 (key.toNat : Int)) := fun o => (hK3.alloc o).cell 1
    have q2 : ∀ o, (w3.alloc o).cell? ⟨B1, 2, none⟩ = some (.int .u32 (c.toNat : Int)) := fun o => (hK3.alloc o).cell 2
    have hc4 : ∀ o, Below w.heap.size w (w3.alloc o) := fun o => hc3.alloc hc3.size o
    clear hb3 hK1 hc1 hc3 hK3
    go_wp2_with fail
    refine (c3 _).mono ?_
    rintro e w5 ⟨rfl, hb5⟩
    have hc5 := (hc4 _).trans (hb5.mono (hc4 _).size)
    clear hb5 q0 q1 q2 hc4
    go_wp2_with fail
    refine (fidKnown_any _).mono ?_
    rintro e w6 ⟨rfl, hb6⟩
    have hc6 := hc5.trans (hb6.mono hc5.size)
    go_wp2
    go_ret
    exact ⟨rfl, hc6⟩
  · have c1 := parse_no S (by omega) hT
    have c2 := refParse_no S (by omega) hT
    unfold fidV at c1 c2
    clear hT hlong
    go_enter Tryd.func4, Tryd.ntmps4
    go_wp2_with fail
    refine (c1 _ m hm).mono ?_
    rintro e w1 ⟨rfl, hb1⟩
    obtain ⟨B1, hB1⟩ : ∃ B, B = w1.heap.size := ⟨_, rfl⟩
    have hK1 : BlkV (w1.alloc (.cells #[.int .i64 0, .int .u64 0, .int .u32 0] 25)) B1 25 #[.int .i64 0, .int .u64 0, .int .u32 0] := by rw [hB1]; exact BlkV.new w1 _ _
    have hc1 : Below w.heap.size w (w1.alloc (.cells #[.int .i64 0, .int .u64 0, .int .u32 0] 25)) := hb1.alloc hb1.size _
    have HB1 := Lib.hid hB1
    clear hb1
    go_wp2_with fail
    rw [← hB1]
    clear hB1
    refine (c2 _).mono ?_
    rintro e w3 ⟨rfl, hb3⟩
    have hK3 := hK1.below hb3
    have hc3 := hc1.trans (hb3.mono hc1.size)
    have q0 : ∀ o, (w3.alloc o).cell? ⟨B1, 0, none⟩ = some (.int .i64 0) := fun o => (hK3.alloc o).cell 0
    have q1 : ∀ o, (w3.alloc o).cell? ⟨B1, 1, none⟩ = some (.int .u64 0) := fun o => (hK3.alloc o).cell 1
    have q2 : ∀ o, (w3.alloc o).cell? ⟨B1, 2, none⟩ = some (.int .u32 0) := fun o => (hK3.alloc o).cell 2
    have hc4 : ∀ o, Below w.heap.size w (w3.alloc o) := fun o => hc3.alloc hc3.size o
    clear hb3 hK1 hc1 hc3 hK3
    go_wp2_with fail
    refine (fidKnown_any _).mono ?_
    rintro e w6 ⟨rfl, hb6⟩
    have hc6 := (hc4 _).trans (hb6.mono (hc4 _).size)
    clear q0 q1 q2
    go_wp2
    go_ret
    exact ⟨rfl, hc6⟩
end Go.Proofs.YtbigihlepdpccaaDoor
