/- The law's own helper same. Conditions: each contract's own premises. -/
import Derived.Test.YtoagneajlfglcaaCom0
namespace Go.Proofs.Ytoagneajlfglcaa
open Go Go.RowKit

set_option maxHeartbeats 400000 in
theorem same_len (w : World) (a1 a2 : Option Addr) (n1 n2 c1 c2 : Nat) (hn : n1 ≠ n2) :
    Calls Try.prog 25 #[.slice a1 n1 c1, .slice a2 n2 c2] w fun e w' => e = .returned (.bool false) ∧ w' = w := by
  have hb : ((n1 : Int) != n2) = true := by rw [bne_iff_ne]; omega
  go_enter Try.func25, Try.ntmps25
  go_wp2
  go_ret
  exact ⟨rfl, rfl⟩

set_option maxHeartbeats 400000 in
theorem same_eqlen (w : World) (a1 a2 : Option Addr) (c1 c2 : Nat) (l m : List UInt8) (hlen : l.length = m.length) (hl : l.length ≤ 9223372036854775807)
   (h1 : Cs w a1 (B8 l)) (h2 : Cs w a2 (B8 m)) :
    Calls Try.prog 25 #[.slice a1 l.length c1, .slice a2 m.length c2] w fun e w' => e = .returned (.bool (l == m)) ∧ Qt w w' := by
  have HL := Lib.hid hlen; clear hlen
  have hb : ((l.length : Int) != m.length) = false := by rw [HL.out]; simp
  go_enter Try.func25, Try.ntmps25
  go_wp2
  go_loopw [5] (fun i wr => ∃ k n : Nat, k ≤ l.length ∧ i = .int .i64 k ∧ wr = w.drewN n ∧ l.take k = m.take k) (fun i _ => l.length - (intOf i).toNat)
  case atStart => exact ⟨0, 0, by omega, rfl, rfl, rfl⟩
  case round =>
    obtain ⟨k, n, hk, rfl, rfl, ht⟩ := hrel
    have HT := Lib.hid ht; clear ht
    by_cases hlt : k < l.length
    · have hm : k < m.length := by rw [← HL.out]; exact hlt
      obtain ⟨b1, o1, rfl, hc1⟩ := h1.b8 k hlt
      obtain ⟨b2, o2, rfl, hc2⟩ := h2.b8 k hm
      have hi : (k : Int) < (l.length : Int) := by omega
      have hi2 : (k : Int) < (m.length : Int) := by omega
      go_wp2
      by_cases he : l[k] = m[k]
      · have hne : ((l[k].toNat : Int) != (m[k]).toNat) = false := by rw [he]; simp
        have HE := Lib.hid he; clear he
        go_quiet (fail)
        go_wp2
        go_roundw
        case rel =>
          refine ⟨k+1, _, by omega, by go_num, rfl, ?_⟩
          rw [List.take_succ_eq_append_getElem hlt, List.take_succ_eq_append_getElem hm, HT.out, HE.out]
        case measure => simp [intOf]; omega
      · have hne : ((l[k].toNat : Int) != (m[k]).toNat) = true := by
          rw [bne_iff_ne]; intro hx; exact he (UInt8.toNat_inj.1 (by omega))
        have HE := Lib.hid he; clear he
        go_quiet (fail)
        go_wp2
        go_ret
        refine ⟨?_, _, World.drewN_drewN _ _ _⟩
        have : (l == m) = false := by
          rw [beq_eq_false_iff_ne]; rintro rfl; exact HE.out rfl
        exact congrArg (fun b => Ending.returned (Value.bool b)) this.symm
    · go_wp2
      go_ret
      refine ⟨?_, n, rfl⟩
      have : (l == m) = true := by
        rw [beq_iff_eq]
        have := HT.out
        rw [List.take_of_length_le (by omega), List.take_of_length_le (by have := HL.out; omega)] at this
        exact this
      exact congrArg (fun b => Ending.returned (Value.bool b)) this.symm

/-- same: are two rows of bytes alike? -/
theorem same_any (w : World) (a1 a2 : Option Addr) (c1 c2 : Nat) (l m : List UInt8) (h1 : Rd w a1 c1 (B8 l)) (h2 : Rd w a2 c2 (B8 m)) :
    Calls Try.prog 25 #[.slice a1 l.length c1, .slice a2 m.length c2] w fun e w' => e = .returned (.bool (l == m)) ∧ Qt w w' := by
  by_cases hlen : l.length = m.length
  · exact same_eqlen w a1 a2 c1 c2 l m hlen (by have := h1.le; rwa [B8_length] at this) h1.cs h2.cs
  · refine (same_len w a1 a2 _ _ c1 c2 hlen).mono ?_
    rintro e w' ⟨rfl, rfl⟩
    refine ⟨ret_bool ?_, Qt.refl _⟩
    symm; rw [beq_eq_false_iff_ne]; rintro rfl; exact hlen rfl

/-- .. two that are alike. -/
theorem same_true (w : World) (a1 a2 : Option Addr) (c1 c2 : Nat) (l : List UInt8) (h1 : Rd w a1 c1 (B8 l)) (h2 : Rd w a2 c2 (B8 l)) :
    Calls Try.prog 25 #[.slice a1 l.length c1, .slice a2 l.length c2] w fun e w' => e = .returned (.bool true) ∧ Qt w w' := by
  refine (same_any w a1 a2 c1 c2 l l h1 h2).mono ?_
  rintro e w' ⟨rfl, h⟩
  exact ⟨ret_bool (by simp), h⟩
end Go.Proofs.Ytoagneajlfglcaa
