/- The law's known. Conditions: each contract's own premises. -/
import Derived.Test.YtalccaolbadncaaWAny
import Derived.Test.YtalccaolbadncaaSame
import Derived.Lib.SlBytesConst
namespace Go.Proofs.Ytalccaolbadncaa
open Go Go.RowKit

theorem wKnown_enc (w : World) (a1 a2 : Option Addr) (hn : Rd w a1 2 (BI [-1, 300])) (hr : Rd w a2 2 (B8 [97, 98])) :
    Calls Try.prog 9 #[.agg #[.int .i64 1, .int .i64 2, .int .i64 3, .slice a1 2 2, .slice a2 2 2]] w fun e w' => ∃ b o c, e = .returned (.tuple #[.slice (some ⟨b, o, none⟩) 18 c, .int .i64 0]) ∧ Cs w' (some ⟨b, o + 8, none⟩) (B8 [1, 2, 3, 2, 1, 216, 4, 2, 97, 98]) ∧ 18 ≤ c ∧ c ≤ maxLen ∧ Below w.heap.size w w' := by
  refine (wEncode_any 1 2 3 a1 2 [-1, 300] a2 2 [97, 98] w hn (by decide) hr).mono ?_
  rintro e w' ⟨a', c', rfl, hrd, hb⟩
  have hlen : (wEnc 1 2 3 [-1, 300] [97, 98]).1.length = 18 := by decide +kernel
  have h2 : (wEnc 1 2 3 [-1, 300] [97, 98]).2 = 0 := by decide +kernel
  have hd : (wEnc 1 2 3 [-1, 300] [97, 98]).1.drop 8 = [1, 2, 3, 2, 1, 216, 4, 2, 97, 98] := by decide +kernel
  obtain ⟨X, hX⟩ : ∃ X, X = (wEnc 1 2 3 [-1, 300] [97, 98]).1 := ⟨_, rfl⟩
  rw [← hX] at hrd hlen hd ⊢
  obtain ⟨b, o, rfl, hc⟩ := hrd.cs 0 (.int .u8 (X[0]'(by omega)).toNat) (by simp [B8, show 0 < X.length by omega])
  have hcap := hrd.1
  rw [B8_length, hlen] at hcap
  refine ⟨b, o, c', by rw [hlen, h2]; rfl, ?_, hcap, hrd.2.1, hb⟩
  rw [← hd]
  intro j x hx
  have hx' : (B8 X)[8 + j]? = some x := by
    rw [B8, List.map_drop, List.getElem?_drop] at hx
    exact hx
  obtain ⟨b', o', e', hc'⟩ := hrd.cs (8 + j) x hx'
  cases e'
  exact ⟨b, o + 8, rfl, by rw [Nat.add_assoc]; exact hc'⟩

set_option maxRecDepth 100000 in
set_option maxHeartbeats 1000000 in
theorem wKnown_any (w : World) : Calls Try.prog 13 #[] w fun e w' => e = .returned (.bool true) ∧ Below w.heap.size w w' := by
  have hsz1 : (w.alloc (.cells #[.int .i64 (-1), .int .i64 300] 3)).heap.size = w.heap.size + 1 := by simp
  have kc := fun (C : Array Value) (n c : Nat) => Lib.run_convert_bytes_const (P := Try.prog) (w.alloc (.cells #[.int .i64 (-1), .int .i64 300] 3)) 23 5 C n c Try.underlying23 Try.underlying5
  rw [hsz1] at kc
  clear hsz1
  go_enter Try.func13, Try.ntmps13
  go_wp2_with fail
  obtain ⟨W, hW⟩ : ∃ W, W = (w.alloc (.cells #[.int .i64 (-1), .int .i64 300] 3)).alloc (.cells #[.int .u8 97, .int .u8 98] 5 (2, 3)) := ⟨_, rfl⟩
  have hbW : Below w.heap.size w W := by rw [hW]; exact ((Below.refl _ _).alloc (Nat.le_refl _) _).alloc (by simp) _
  have r1 : Rd W (some ⟨w.heap.size, 0, none⟩) 2 (BI [-1, 300]) := by rw [hW]; exact (Rd.lit w #[.int .i64 (-1), .int .i64 300] 3 (0, 0) (by unfold maxLen; decide)).kept ((Below.refl _ _).alloc (Nat.le_refl _) _)
  have r2 : Rd W (some ⟨w.heap.size + 1, 0, none⟩) 2 (B8 [97, 98]) := by
    have h := Rd.lit (w.alloc (.cells #[.int .i64 (-1), .int .i64 300] 3)) #[.int .u8 97, .int .u8 98] 5 (2, 3) (by unfold maxLen; decide)
    rw [show (w.alloc (.cells #[.int .i64 (-1), .int .i64 300] 3)).heap.size = w.heap.size + 1 by simp] at h
    rw [hW]
    exact h
  rw [← hW]
  clear hW kc
  refine (wKnown_enc W _ _ r1 r2).mono ?_
  rintro e w1 ⟨b, o, c, rfl, hc, hcap, hcm, hb⟩
  have hb1 : Below w.heap.size w w1 := hbW.trans (hb.mono hbW.size)
  clear hb
  have hcapi : (18 : Int) ≤ (c : Int) := by omega
  go_wp2_with fail
  have rr1 : Rd w1 (some ⟨b, o + 8, none⟩) (c - 8) (B8 [1, 2, 3, 2, 1, 216, 4, 2, 97, 98]) := ⟨by rw [B8_length]; show 10 ≤ c - 8; omega, by omega, fun h => by simp at h, hc⟩
  have rr2 := Rd.lit w1 #[.int .u8 1, .int .u8 2, .int .u8 3, .int .u8 2, .int .u8 1, .int .u8 216, .int .u8 4, .int .u8 2, .int .u8 97, .int .u8 98] 5 (0, 0) (by unfold maxLen; decide)
  refine (same_any _ _ _ _ 10 [1, 2, 3, 2, 1, 216, 4, 2, 97, 98] [1, 2, 3, 2, 1, 216, 4, 2, 97, 98] (rr1.kept ((Below.refl _ _).alloc (Nat.le_refl _) _)) rr2).mono ?_
  rintro e w3 ⟨rfl, hq3⟩
  go_wp2
  go_ret
  exact ⟨rfl, (hb1.alloc hb1.size _).trans (hq3.below _)⟩
end Go.Proofs.Ytalccaolbadncaa
