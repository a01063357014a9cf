/- The law's own helper rows. Conditions: the contract's own premises. -/
import Derived.Test.YtmeckdgigjjjbaaDoorOwnL
import Derived.Test.YtmeckdgigjjjbaaDoorSame
namespace Go.Proofs.YtmeckdgigjjjbaaDoor
open Go Go.RowKit

set_option maxRecDepth 100000 in
set_option maxHeartbeats 1000000 in
/-- rows: two lists of rows that are alike. -/
theorem rows_true (w : World) (a1 a2 : Option Addr) (c1 c2 : Nat) (L : List (List UInt8)) (h1 : RdLL w a1 c1 L) (h2 : RdLL w a2 c2 L) :
    Calls Tryd.prog 11 #[.slice a1 L.length c1, .slice a2 L.length c2] w fun e w' => e = .returned (.bool true) ∧ Qt w w' := by
  have hl := h1.le
  go_enter Tryd.func11, Tryd.ntmps11
  go_wp2
  go_loopw [5] (fun i wr => ∃ (k : Nat), k ≤ L.length ∧ i = .int .i64 k ∧ Qt w wr) (fun i _ => L.length - (intOf i).toNat)
  case atStart => exact ⟨0, by omega, rfl, Qt.refl _⟩
  case round =>
    obtain ⟨k, hk, rfl, hq⟩ := hrel
    have hb := hq.below w.heap.size
    by_cases hlt : k < L.length
    · obtain ⟨b1, o1, ad1, cd1, rfl, hc1, hr1⟩ := (h1.kept hb).cell k hlt
      obtain ⟨b2, o2, ad2, cd2, rfl, hc2, hr2⟩ := (h2.kept hb).cell k hlt
      have hi : (k : Int) < (L.length : Int) := by omega
      have hs := fun n => same_true (wr.drewN n) ad1 ad2 cd1 cd2 L[k] (hr1.drewN n) (hr2.drewN n)
      have HS := Lib.hid hs
      clear hs h1 h2 hr1 hr2
      have hq' := Lib.hid hq
      clear hq hb
      go_wp2
      go_quiet ((go_at_call 24; exact Calls.quiet_of (HS.out _)))
      go_wp2
      go_roundw
      case rel => exact ⟨k + 1, by omega, by go_num, hq'.out.drew _⟩
      case measure => simp [intOf]; omega
    · go_wp2
      go_ret
      exact ⟨rfl, hq⟩
/-- .. by lengths that are letters. -/
theorem rows_true_n (w : World) (a1 a2 : Option Addr) (c1 c2 n1 n2 : Nat) (L : List (List UInt8)) (e1 : n1 = L.length) (e2 : n2 = L.length) (h1 : RdLL w a1 c1 L) (h2 : RdLL w a2 c2 L) :
    Calls Tryd.prog 11 #[.slice a1 n1 c1, .slice a2 n2 c2] w fun e w' => e = .returned (.bool true) ∧ Qt w w' := by
  subst e1 e2; exact rows_true w a1 a2 c1 c2 L h1 h2
end Go.Proofs.YtmeckdgigjjjbaaDoor
