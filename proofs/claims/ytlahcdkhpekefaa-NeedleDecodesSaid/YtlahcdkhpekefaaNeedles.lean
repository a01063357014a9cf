/- The law's own needles: two needles that are alike. Conditions: the contract's own premises. -/
import Derived.Test.YtlahcdkhpekefaaSame
namespace Go.Proofs.Ytlahcdkhpekefaa
open Go Go.RowKit

set_option maxRecDepth 100000 in
set_option maxHeartbeats 1000000 in
theorem needles_true (w : World) (k ck : Int) (dead : Bool) (a1 a2 : Option Addr) (c1 c2 n : Nat) (l : List UInt8) (hn : n = l.length) (h1 : Rd w a1 c1 (B8 l)) (h2 : Rd w a2 c2 (B8 l)) :
    Calls Try.prog 18 #[.agg #[.int .u64 k, .int .u32 ck, .bool dead, .slice a1 n c1], .agg #[.int .u64 k, .int .u32 ck, .bool dead, .slice a2 n c2]] w fun e w' => e = .returned (.bool true) ∧ Below w.heap.size w w' := by
  have hb : ∀ o1 o2, Below w.heap.size w ((w.alloc o1).alloc o2) := fun o1 o2 => ((Below.refl _ _).alloc (Nat.le_refl _) o1).alloc (by simp) o2
  have hs := fun o1 o2 => same_true ((w.alloc o1).alloc o2) a1 a2 c1 c2 l (h1.kept (hb o1 o2)) (h2.kept (hb o1 o2))
  rw [← hn] at hs
  have HS := Lib.hid hs
  clear hs hn
  go_enter Try.func18, Try.ntmps18
  go_wp2_with fail
  refine (HS.out _ _).mono ?_
  rintro e w1 ⟨rfl, hq⟩
  have hb1 : Below w.heap.size w w1 := (hb _ _).trans (hq.below _)
  go_wp2
  go_ret
  exact ⟨rfl, hb1⟩
end Go.Proofs.Ytlahcdkhpekefaa
