/- The law's own messages: two messages that are alike. Conditions: the contract's own premises. -/
import Derived.Test.YtoagneajlfglcaaSame
import Derived.Test.YtoagneajlfglcaaBlkV
namespace Go.Proofs.Ytoagneajlfglcaa
open Go Go.RowKit

theorem Rd.own3 {w : World} {base : Nat} {e : TypeId} {a : Option Addr} {n c : Nat} {xs : List Value} (h : w.ownsRow base e 1 (.slice a n c) n xs) : Rd w a c xs := by
  obtain ⟨a', c', hv, hr⟩ := Rd.ofOwn h
  cases hv
  exact hr

set_option maxRecDepth 100000 in
set_option maxHeartbeats 1000000 in
theorem messages_true (w : World) (f t kd : Int) (an1 an2 : Option Addr) (cn1 cn2 n : Nat) (nums : List Int) (a1 a2 : Option Addr) (c1 c2 m : Nat) (l : List UInt8) (hn : n = nums.length) (hm : m = l.length)
    (g1 : Rd w an1 cn1 (BI nums)) (g2 : Rd w an2 cn2 (BI nums)) (h1 : Rd w a1 c1 (B8 l)) (h2 : Rd w a2 c2 (B8 l)) :
    Calls Try.prog 17 #[.agg #[.int .i64 f, .int .i64 t, .int .i64 kd, .slice an1 n cn1, .slice a1 m c1], .agg #[.int .i64 f, .int .i64 t, .int .i64 kd, .slice an2 n cn2, .slice a2 m c2]] w fun e w' => e = .returned (.bool true) ∧ Below w.heap.size w w' := by
  have hln := g1.le
  rw [BI_length, ← hn] at hln
  obtain ⟨W, hW⟩ : ∃ W, W = (w.alloc (.cells #[.int .i64 f, .int .i64 t, .int .i64 kd, .slice an1 n cn1, .slice a1 m c1] 31)).alloc (.cells #[.int .i64 f, .int .i64 t, .int .i64 kd, .slice an2 n cn2, .slice a2 m c2] 31) := ⟨_, rfl⟩
  have hb : Below w.heap.size w W := by rw [hW]; exact ((Below.refl _ _).alloc (Nat.le_refl _) _).alloc (by simp) _
  have hB1 : BlkV W w.heap.size 31 #[.int .i64 f, .int .i64 t, .int .i64 kd, .slice an1 n cn1, .slice a1 m c1] := by rw [hW]; exact (BlkV.new w _ _).alloc _
  have hB2 : BlkV W (w.heap.size + 1) 31 #[.int .i64 f, .int .i64 t, .int .i64 kd, .slice an2 n cn2, .slice a2 m c2] := by
    rw [hW]
    have := BlkV.new (w.alloc (.cells #[.int .i64 f, .int .i64 t, .int .i64 kd, .slice an1 n cn1, .slice a1 m c1] 31)) 31 #[.int .i64 f, .int .i64 t, .int .i64 kd, .slice an2 n cn2, .slice a2 m c2]
    simpa using this
  have hs : ∀ q, Calls Try.prog 25 #[.slice a1 m c1, .slice a2 m c2] (W.drewN q) fun e w' => e = .returned (.bool true) ∧ Qt (W.drewN q) w' := by
    intro q
    rw [hm]
    exact same_true (W.drewN q) a1 a2 c1 c2 l ((h1.kept hb).drewN q) ((h2.kept hb).drewN q)
  have x3 := hB1.cell 3
  have x4 := hB1.cell 4
  have y3 := hB2.cell 3
  have y4 := hB2.cell 4
  simp only [List.getElem?_toArray, List.getElem?_cons_succ, List.getElem?_cons_zero] at x3 x4 y3 y4
  have hz : w.heap.size + 1 < W.heap.size := hB2.lt
  have r1 := g1.kept hb
  have r2 := g2.kept hb
  have HS := Lib.hid hs
  have HN := Lib.hid hn
  have HW := Lib.hid hW
  have HB := Lib.hid hb
  clear hs hn hW hB1 hB2 g1 g2 h1 h2 hb hm
  go_enter Try.func17, Try.ntmps17
  go_wp2
  rw [← HW.out]
  obtain ⟨G, hG⟩ : ∃ G, G = w.heap.size := ⟨_, rfl⟩
  rw [← hG] at x3 x4 y3 y4 hz ⊢
  have HG := Lib.hid hG
  clear hG
  have hlt0 : G < W.heap.size := by omega
  go_loopw [5] (fun s5 wr => ∃ (k q : Nat), k ≤ n ∧ s5 = .int .i64 k ∧ wr = W.drewN q) (fun s5 _ => n - (intOf s5).toNat)
  case atStart => exact ⟨0, 0, by omega, rfl, rfl⟩
  case round =>
    obtain ⟨k, q, hk, rfl, rfl⟩ := hrel
    by_cases hlt : k < n
    · have hkl : k < nums.length := by have := HN.out; omega
      obtain ⟨b1, o1, rfl, u1⟩ := r1.cs.bi k hkl
      obtain ⟨b2, o2, rfl, u2⟩ := r2.cs.bi k hkl
      obtain ⟨x, hx⟩ : ∃ x, x = nums[k] := ⟨_, rfl⟩
      rw [← hx] at u1 u2
      clear hx
      have hki : (k : Int) < (n : Int) := by omega
      have hne : ((x : Int) != x) = false := by simp
      go_wp2
      go_quiet (fail)
      go_wp2
      go_roundw
      case rel => exact ⟨k + 1, _, by omega, by go_num, rfl⟩
      case measure => simp [intOf]; omega
    · go_wp2_with fail
      refine (HS.out _).mono ?_
      rintro e w1 ⟨rfl, hq⟩
      have hb1 : Below w.heap.size w w1 := (below_drewN HB.out q).trans (hq.below _)
      go_wp2
      go_ret
      exact ⟨rfl, hb1⟩
end Go.Proofs.Ytoagneajlfglcaa
