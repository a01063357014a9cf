/- NeedleDecodes: for all bytes the law returns true. Conditions: none. -/
import Derived.Test.YtlahcdkhpekefaaNRefDec
import Derived.Test.YtlahcdkhpekefaaNKnown
import Derived.Test.YtlahcdkhpekefaaNeedles
import Derived.Test.YtlahcdkhpekefaaCom
import Derived.Test.YtlahcdkhpekefaaSpoil
namespace Go.Proofs.Ytlahcdkhpekefaa
open Go Go.RowKit

theorem nDec_len (b : List UInt8) : (nDec b).1.2.2.2.length ≤ b.length := by
  unfold nDec
  repeat' split
  all_goals first | (simp; done) | (simp; omega)

set_option maxRecDepth 100000 in
set_option maxHeartbeats 4000000 in
theorem needleDecodes_any (a : Option Addr) (c : Nat) (l : List UInt8) (w : World) (hr : Rd w a c (B8 l)) :
    Calls Try.prog 5 #[.slice a l.length c] w fun e w' => e = .returned (.bool true) ∧ Below w.heap.size w w' := by
  by_cases hbig : 70000 < l.length
  · have hbd : (70000 : Int) < (l.length : Int) := by omega
    go_enter Try.func5, Try.ntmps5
    go_wp2
    go_ret
    exact ⟨rfl, Below.refl _ _⟩
  · have hbd : (l.length : Int) ≤ 70000 := by omega
    obtain ⟨key, ck, dead, data, N, E, hR⟩ : ∃ key ck dead data N E, nDec l = ((key, ck, dead, data), N, E) := ⟨_, _, _, _, _, _, rfl⟩
    have hPl := nDec_len l
    rw [hR] at hPl
    have hPl : data.length ≤ l.length := hPl
    obtain ⟨D, hD⟩ : ∃ D, D = data.length := ⟨_, rfl⟩
    have D1 : ∀ (W : World) (ad : Option Addr) (cd : Nat), Rd W ad cd (B8 l) → Calls Try.prog 16 #[.slice ad l.length cd] W fun e w' => ∃ r, e = .returned (.tuple #[.agg #[.int .u64 key.toNat, .int .u32 ck.toNat, .bool dead, r], .int .i64 (N : Int), .int .i64 (E : Int)]) ∧ w'.ownsRow W.heap.size 5 1 r D (B8 data) ∧ Below W.heap.size W w' := by
      intro W ad cd h
      have := nDecode_any W ad cd l h
      rw [hR] at this
      rw [hD]
      exact this
    have D2 : ∀ (W : World) (ad : Option Addr) (cd : Nat), Rd W ad cd (B8 l) → Calls Try.prog 17 #[.slice ad l.length cd] W fun e w' => ∃ r, e = .returned (.tuple #[.agg #[.int .u64 key.toNat, .int .u32 ck.toNat, .bool dead, r], .int .i64 (N : Int), .int .i64 (E : Int)]) ∧ w'.ownsRow W.heap.size 5 1 r D (B8 data) ∧ Below W.heap.size W w' := by
      intro W ad cd h
      have := refNDecode_any W ad cd l h
      rw [hR] at this
      rw [hD]
      exact this
    have HD1 := Lib.hid D1
    have HD2 := Lib.hid D2
    have HDl := Lib.hid hD
    have hD6 : D ≤ 70000 := by omega
    clear hR D1 D2 hD hPl
    go_enter Try.func5, Try.ntmps5
    go_wp2_with fail
    refine (roomy_any w a c l hr (by omega)).mono ?_
    rintro e w1 ⟨gw, cw, rfl, hcw, hw1, hb1⟩
    have hra := hr.kept hb1
    have hpre := hw1.pre
    go_wp2_with fail
    refine (HD1.out w1 _ cw hpre).mono ?_
    rintro e w2 ⟨r2, rfl, ho2, hb2⟩
    obtain ⟨a2, c2, rfl, _⟩ := Rd.ofOwn ho2
    go_wp2_with fail
    obtain ⟨W4, hW4⟩ : ∃ W4, W4 = w2.alloc (.cells #[.int .u64 key.toNat, .int .u32 ck.toNat, .bool dead, .slice a2 D c2] 26) := ⟨_, rfl⟩
    obtain ⟨G, hG⟩ : ∃ G, G = w2.heap.size := ⟨_, rfl⟩
    have hN4 : BlkV W4 G 26 #[.int .u64 key.toNat, .int .u32 ck.toNat, .bool dead, .slice a2 D c2] := by rw [hW4, hG]; exact BlkV.new w2 _ _
    have hb4 : Below w1.heap.size w1 W4 := by rw [hW4]; exact hb2.alloc hb2.size _
    have ho4 : W4.ownsRow w1.heap.size 5 1 (.slice a2 D c2) D (B8 data) := by rw [hW4]; exact ho2.alloc _
    rw [← hW4, ← hG]
    clear hW4 hG ho2 hb2
    refine (HD2.out W4 a c (hra.kept hb4)).mono ?_
    rintro e w5 ⟨r5, rfl, ho5, hb5⟩
    obtain ⟨a5, c5, rfl, hr5⟩ := Rd.ofOwn ho5
    have hN5 := hN4.below hb5
    have ho45 := own_below ho4 hb5
    have hb15 : Below w1.heap.size w1 w5 := hb4.trans (hb5.mono hb4.size)
    have n0 := hN5.cell 0
    have n1 := hN5.cell 1
    have n2 := hN5.cell 2
    have n3 := hN5.cell 3
    have nz := hN5.lt
    simp only [List.getElem?_toArray, List.getElem?_cons_succ, List.getElem?_cons_zero] at n0 n1 n2 n3
    clear hN4 hb4 ho4 ho5 hb5
    go_wp2_with fail
    obtain ⟨W6, hW6⟩ : ∃ W6, W6 = w5.alloc (.cells #[.int .u64 key.toNat, .int .u32 ck.toNat, .bool dead, .slice a5 D c5] 26) := ⟨_, rfl⟩
    have hb6 : Below w5.heap.size w5 W6 := by rw [hW6]; exact (Below.refl _ _).alloc (Nat.le_refl _) _
    have ho6 := own_below ho45 hb6
    have hN6 := hN5.below hb6
    have hb16 : Below w1.heap.size w1 W6 := hb15.trans (hb6.mono hb15.size)
    rw [← hW6]
    obtain ⟨a2', c2', he2, hr2⟩ := Rd.ofOwn ho6
    cases he2
    refine (needles_true W6 key.toNat ck.toNat dead a2 a5 c2 c5 D data HDl.out hr2 (hr5.kept hb6)).mono ?_
    rintro e w7 ⟨rfl, hb7⟩
    have hN7 := hN6.below hb7
    have ho7 := own_below ho6 hb7
    have hb17 : Below w1.heap.size w1 w7 := hb16.trans (hb7.mono hb16.size)
    have m3 := hN7.cell 3
    simp only [List.getElem?_toArray, List.getElem?_cons_succ, List.getElem?_cons_zero] at m3
    clear hW6 hb6 ho6 hN6 hb16 hb7 hN5 ho45 hb15 n0 n1 n2 n3 nz hr5 hr2
    go_wp2_with fail
    refine (spoil_any w7 w1.heap.size _ _ _ ho7 hb17.size (by omega)).mono ?_
    rintro e w8 ⟨rfl, hb8⟩
    have hb18 : Below w1.heap.size w1 w8 := hb17.trans hb8
    clear ho7 hb8 hN7 m3
    go_wp2_with fail
    refine (stands_any w8 gw cw a c l (hw1.kept hb18) (hra.kept hb18)).mono ?_
    rintro e w9 ⟨rfl, hq9⟩
    go_wp2_with fail
    refine (nKnown_any _).mono ?_
    rintro e w10 ⟨rfl, hb10⟩
    have hb19 : Below w1.heap.size w1 w9 := hb18.trans (hq9.below _)
    go_wp2
    go_ret
    exact ⟨rfl, hb1.trans ((hb19.trans (hb10.mono hb19.size)).mono hb1.size)⟩
end Go.Proofs.Ytlahcdkhpekefaa
