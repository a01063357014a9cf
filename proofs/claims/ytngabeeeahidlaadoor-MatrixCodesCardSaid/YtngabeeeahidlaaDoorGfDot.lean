/- gf's Dot and the document's: contracts. Conditions: each contract's own premises. -/
import Derived.Test.YtngabeeeahidlaaDoorGdot
namespace Go.Proofs.YtngabeeeahidlaaDoor
open Go Go.RowKit

set_option maxRecDepth 100000 in
set_option maxHeartbeats 1000000 in
/-- gf's Dot. -/
theorem dot_any (w : World) (a1 a2 : Option Addr) (c1 c2 : Nat) (l m : List UInt8) (h1 : Rd w a1 c1 (B8 l)) (h2 : Rd w a2 c2 (B8 m)) :
    Calls Tryd.prog 26 #[.slice a1 l.length c1, .slice a2 m.length c2] w fun e w' => e = .returned (dotV l m) ∧ Qt w w' := by
  have hl := h1.le
  rw [B8_length] at hl
  have hc1 := h1.cs
  have hc2 := h2.cs
  clear h1 h2
  by_cases hlen : l.length = m.length
  · have hres : dotV l m = .tuple #[.int .u8 (gdot l m).toNat, .int .i64 0] := by unfold dotV; rw [if_pos hlen]
    have HR := Lib.hid hres; clear hres
    have hb : ((l.length : Int) != m.length) = false := by rw [hlen]; simp
    have HL := Lib.hid hlen; clear hlen
    go_enter Tryd.func26, Tryd.ntmps26
    go_wp2
    go_loopw [6, 7, 15] (fun s6 _ s15 wr => ∃ (k : Nat), k ≤ l.length ∧ s15 = .int .i64 k ∧ s6 = .int .u8 (gdotK l m k).toNat ∧ Qt w wr) (fun _ _ s15 _ => l.length - (intOf s15).toNat)
    case atStart => exact ⟨0, by omega, rfl, rfl, Qt.refl _⟩
    case round =>
      obtain ⟨k, hk, rfl, rfl, hq⟩ := hrel
      by_cases hlt : k < l.length
      · have hm : k < m.length := by rw [← HL.out]; exact hlt
        obtain ⟨b1, o1, rfl, hd1⟩ := (hc1.kept (hq.below _)).b8 k hlt
        obtain ⟨b2, o2, rfl, hd2⟩ := (hc2.kept (hq.below _)).b8 k hm
        have hi : (k : Int) < (l.length : Int) := by omega
        have hi2 : (k : Int) < (m.length : Int) := by omega
        obtain ⟨x, hx⟩ : ∃ x, x = l[k] := ⟨_, rfl⟩
        obtain ⟨y, hy⟩ : ∃ y, y = m[k] := ⟨_, rfl⟩
        rw [← hx] at hd1
        rw [← hy] at hd2
        have hs : gdotK l m (k + 1) = gdotK l m k ^^^ gm x y := by show gdotK l m k ^^^ gm (l.getD k 0) (m.getD k 0) = _; rw [getD_lt hlt, getD_lt hm, hx, hy]
        obtain ⟨p, hp⟩ : ∃ p, p = gdotK l m k := ⟨_, rfl⟩
        rw [← hp] at hs ⊢
        have hxor := u8_bin_xor p (gm x y)
        rw [← hs] at hxor
        clear hx hy hs hp
        go_wp2
        go_quiet ((go_at_call 29; exact Calls.quiet_of_same (mul_any _ _ _)))
        go_wp2
        go_roundw
        case rel => exact ⟨k + 1, by omega, by go_num, rfl, hq.drew _⟩
        case measure => simp [intOf]; omega
      · obtain rfl : k = l.length := by omega
        go_wp2
        go_ret2
        exact ⟨by rw [HR.out]; rfl, hq⟩
  · have hres : dotV l m = .tuple #[.int .u8 0, .int .i64 1] := by unfold dotV; rw [if_neg hlen]
    have HR := Lib.hid hres; clear hres
    have hb : ((l.length : Int) != m.length) = true := by rw [bne_iff_ne]; omega
    clear hlen
    go_enter Tryd.func26, Tryd.ntmps26
    go_wp2
    go_ret2
    exact ⟨by rw [HR.out]; rfl, Qt.refl _⟩

end Go.Proofs.YtngabeeeahidlaaDoor
