/- The law's own helper same. The law's own helper stands. The law's own helper roomy. Conditions: each law's own premises. -/
import Derived.Test.YteenbobblbehoaaCom0
namespace Go.Proofs.Yteenbobblbehoaa
open Go Go.RowKit

set_option maxHeartbeats 400000 in
theorem same_len (w : World) (a1 a2 : Option Addr) (n1 n2 c1 c2 : Nat) (hn : n1 ≠ n2) :
    Calls Try.prog 37 #[.slice a1 n1 c1, .slice a2 n2 c2] w fun e w' => e = .returned (.bool false) ∧ w' = w := by
  have hb : ((n1 : Int) != n2) = true := by rw [bne_iff_ne]; omega
  go_enter Try.func37, Try.ntmps37
  go_wp2
  go_ret
  exact ⟨rfl, rfl⟩

set_option maxHeartbeats 400000 in
theorem same_eqlen (w : World) (a1 a2 : Option Addr) (c1 c2 : Nat) (l m : List UInt8) (hlen : l.length = m.length) (hl : l.length ≤ 9223372036854775807)
   (h1 : Cs w a1 (B8 l)) (h2 : Cs w a2 (B8 m)) :
    Calls Try.prog 37 #[.slice a1 l.length c1, .slice a2 m.length c2] w fun e w' => e = .returned (.bool (l == m)) ∧ Qt w w' := by
  have HL := Lib.hid hlen; clear hlen
  have hb : ((l.length : Int) != m.length) = false := by rw [HL.out]; simp
  go_enter Try.func37, Try.ntmps37
  go_wp2
  go_loopw [5] (fun i wr => ∃ k n : Nat, k ≤ l.length ∧ i = .int .i64 k ∧ wr = w.drewN n ∧ l.take k = m.take k) (fun i _ => l.length - (intOf i).toNat)
  case atStart => exact ⟨0, 0, by omega, rfl, rfl, rfl⟩
  case round =>
    obtain ⟨k, n, hk, rfl, rfl, ht⟩ := hrel
    have HT := Lib.hid ht; clear ht
    by_cases hlt : k < l.length
    · have hm : k < m.length := by rw [← HL.out]; exact hlt
      obtain ⟨b1, o1, rfl, hc1⟩ := h1.b8 k hlt
      obtain ⟨b2, o2, rfl, hc2⟩ := h2.b8 k hm
      have hi : (k : Int) < (l.length : Int) := by omega
      have hi2 : (k : Int) < (m.length : Int) := by omega
      go_wp2
      by_cases he : l[k] = m[k]
      · have hne : ((l[k].toNat : Int) != (m[k]).toNat) = false := by rw [he]; simp
        have HE := Lib.hid he; clear he
        go_quiet (fail)
        go_wp2
        go_roundw
        case rel =>
          refine ⟨k+1, _, by omega, by go_num, rfl, ?_⟩
          rw [List.take_succ_eq_append_getElem hlt, List.take_succ_eq_append_getElem hm, HT.out, HE.out]
        case measure => simp [intOf]; omega
      · have hne : ((l[k].toNat : Int) != (m[k]).toNat) = true := by
          rw [bne_iff_ne]; intro hx; exact he (UInt8.toNat_inj.1 (by omega))
        have HE := Lib.hid he; clear he
        go_quiet (fail)
        go_wp2
        go_ret
        refine ⟨?_, _, World.drewN_drewN _ _ _⟩
        have : (l == m) = false := by
          rw [beq_eq_false_iff_ne]; rintro rfl; exact HE.out rfl
        exact congrArg (fun b => Ending.returned (Value.bool b)) this.symm
    · go_wp2
      go_ret
      refine ⟨?_, n, rfl⟩
      have : (l == m) = true := by
        rw [beq_iff_eq]
        have := HT.out
        rw [List.take_of_length_le (by omega), List.take_of_length_le (by have := HL.out; omega)] at this
        exact this
      exact congrArg (fun b => Ending.returned (Value.bool b)) this.symm

/-- same: are two rows of bytes alike? -/
theorem same_any (w : World) (a1 a2 : Option Addr) (c1 c2 : Nat) (l m : List UInt8) (h1 : Rd w a1 c1 (B8 l)) (h2 : Rd w a2 c2 (B8 m)) :
    Calls Try.prog 37 #[.slice a1 l.length c1, .slice a2 m.length c2] w fun e w' => e = .returned (.bool (l == m)) ∧ Qt w w' := by
  by_cases hlen : l.length = m.length
  · exact same_eqlen w a1 a2 c1 c2 l m hlen (by have := h1.le; rwa [B8_length] at this) h1.cs h2.cs
  · refine (same_len w a1 a2 _ _ c1 c2 hlen).mono ?_
    rintro e w' ⟨rfl, rfl⟩
    refine ⟨ret_bool ?_, Qt.refl _⟩
    symm; rw [beq_eq_false_iff_ne]; rintro rfl; exact hlen rfl

/-- .. two that are alike. -/
theorem same_true (w : World) (a1 a2 : Option Addr) (c1 c2 : Nat) (l : List UInt8) (h1 : Rd w a1 c1 (B8 l)) (h2 : Rd w a2 c2 (B8 l)) :
    Calls Try.prog 37 #[.slice a1 l.length c1, .slice a2 l.length c2] w fun e w' => e = .returned (.bool true) ∧ Qt w w' := by
  refine (same_any w a1 a2 c1 c2 l l h1 h2).mono ?_
  rintro e w' ⟨rfl, h⟩
  exact ⟨ret_bool (by simp), h⟩
end Go.Proofs.Yteenbobblbehoaa

namespace Go.Proofs.Yteenbobblbehoaa
open Go Go.RowKit

set_option maxHeartbeats 400000 in
/-- stands: the bytes are what they were, and the mark behind them. -/
theorem stands_any (w : World) (g cap : Nat) (a : Option Addr) (c : Nat) (l : List UInt8) (hw : Rd w (some ⟨g, 0, none⟩) cap (B8 (l ++ [171]))) (hr : Rd w a c (B8 l)) :
    Calls Try.prog 40 #[.slice (some ⟨g, 0, none⟩) (l.length + 1) cap, .slice a l.length c] w fun e w' => e = .returned (.bool true) ∧ Qt w w' := by
  have hle := hw.le
  have hcap := hw.1
  rw [B8_length, List.length_append] at hle hcap
  simp at hle hcap
  have hcell : w.cell? ⟨g, l.length, none⟩ = some (.int .u8 171) := by
    obtain ⟨b, o, hab, hc⟩ := hw.cs.b8 l.length (by simp)
    simp at hab
    obtain ⟨rfl, rfl⟩ := hab
    simpa using hc
  have hpre : Rd w (some ⟨g, 0, none⟩) cap (B8 l) := hw.pre
  go_enter Try.func40, Try.ntmps40
  go_wp2_with fail
  refine (same_any _ _ _ _ _ l l hpre hr).mono ?_
  rintro e w1 ⟨rfl, n, hn⟩
  subst hn
  have hll : (l == l) = true := by simp
  go_wp2
  go_ret
  exact ⟨rfl, n, rfl⟩
end Go.Proofs.Yteenbobblbehoaa

namespace Go.Proofs.Yteenbobblbehoaa
open Go Go.RowKit

set_option maxHeartbeats 400000 in
/-- roomy: the bytes in a list of their own, and one that is marked behind them. -/
theorem roomy_any (w : World) (a : Option Addr) (c : Nat) (l : List UInt8) (hr : Rd w a c (B8 l)) (hl : l.length ≤ 1000000) :
    Calls Try.prog 38 #[.slice a l.length c] w fun e w' => ∃ g cap, e = .returned (.slice (some ⟨g, 0, none⟩) (l.length + 1) cap) ∧
      l.length + 1 ≤ cap ∧ Rd w' (some ⟨g, 0, none⟩) cap (B8 (l ++ [171])) ∧ Below w.heap.size w w' := by
  go_enter Try.func38, Try.ntmps38
  have hml : maxLen = 9223372036854775807 := by unfold maxLen; rfl
  go_wp2_with (at_builtin; refine At.mk ?_)
  refine At.out (wpList_app rfl (.tmp 3) (.tmp 4) 31 rfl elemB rfl w.heap.size _ 0 [] rfl (own_empty w _) a l.length c (B8 l) rfl (B8_length l).symm (hr.kept ((Below.refl _ _).alloc (Nat.le_refl _) _)) (B8_one _) (by omega) (by omega) (by simp) ?_)
  intro v1 w1 ho1 hb1 _
  have hs1 : w.heap.size ≤ w1.heap.size := by have := hb1.size; simp at this; omega
  go_wp2_with (at_builtin; refine At.mk ?_)
  refine At.out (wpList_app rfl (.tmp 5) (.tmp 6) 31 rfl elemB rfl w.heap.size v1 _ _ rfl (ho1.alloc _) _ 1 1 [.int .u8 171] rfl rfl (Rd.one _ _ _) (one_int _ _) (by omega) (by omega) (by simp; omega) ?_)
  intro v2 w2 ho2 hb2 _
  have hs2 : w.heap.size ≤ w2.heap.size := by have := hb2.size; simp at this; omega
  go_wp2_with (at_builtin; refine At.mk ?_)
  refine At.out (wpList_app rfl (.tmp 7) (.tmp 8) 31 rfl elemB rfl w.heap.size v2 _ _ rfl (ho2.alloc _) _ 1 1 [.int .u8 171] rfl rfl (Rd.one _ _ _) (one_int _ _) (by omega) (by omega) (by simp; omega) ?_)
  intro v3 w3 ho3 hb3 _
  obtain ⟨g, cap, rfl, hg1, hg2, hg3, hg4⟩ := own_pos ho3 (by omega)
  go_wp2
  go_ret
  have ht := own_take ho3 (l.length + 1) (by omega)
  refine ⟨g, cap, rfl, by omega, ?_, ?_⟩
  · have e : (([] ++ B8 l ++ [Value.int .u8 171]) ++ [Value.int .u8 171]).take (l.length + 1) = B8 (l ++ [171]) := by
      rw [List.nil_append, B8_append, List.append_assoc, List.take_append, B8_length, List.take_of_length_le (by rw [B8_length]; omega)]
      simp [B8]
    rw [e] at ht
    obtain ⟨a', c', hv, hrd⟩ := Rd.ofOwn ht
    simp only [Value.slice.injEq, true_and] at hv
    obtain ⟨rfl, rfl⟩ := hv
    exact hrd
  · exact (((((Below.refl _ _).alloc (Nat.le_refl _) _).trans hb1).alloc hs1 _).trans hb2 |>.alloc hs2 _).trans hb3
end Go.Proofs.Yteenbobblbehoaa
