/- gf's Scale and Add: contracts. Conditions: each contract's own premises. -/
import Derived.Test.YtmeckdgigjjjbaaDoorGdot
import Derived.RegionTactic
import Derived.BigRegion
namespace Go.Proofs.YtmeckdgigjjjbaaDoor
open Go Go.RowKit

set_option maxRecDepth 100000 in
set_option maxHeartbeats 1000000 in
/-- gf's Scale. -/
theorem scale_any (w : World) (a1 : Option Addr) (c1 : Nat) (l : List UInt8) (x : UInt8) (h1 : Rd w a1 c1 (B8 l)) (hl6 : l.length ≤ 1000000) :
    Calls Tryd.prog 39 #[.slice a1 l.length c1, .int .u8 x.toNat] w fun e w' => ∃ g, e = .returned (.slice (some ⟨g, 0, none⟩) l.length l.length) ∧
      w'.ownsRow w.heap.size 5 1 (.slice (some ⟨g, 0, none⟩) l.length l.length) l.length (B8 (l.map (gm · x))) ∧ Below w.heap.size w w' := by
  obtain ⟨i0, hi, hz0, hz1, hz2⟩ := elemG.hi
  go_enter Tryd.func39, Tryd.ntmps39
  go_wp2_with (with_reducible refine At.slot 9 ?_)
  refine At.out (wpList_make_full w rfl (.tmp 8) (.tmp 8) 34 rfl w.heap.size 5 i0 (.int .u8 0) 1 elemG.ht hi hz0 hz1 .i64 .i64 (l.length : Int) (l.length : Int) l.length rfl rfl rfl rfl (by rw [hz2]; omega) (by unfold maxLen; omega) (Nat.le_refl _) ?_)
  intro w2 ho1 hg1
  have hb1 : Below w.heap.size w w2 := below_grown hg1 (Nat.le_refl _) (fun k h => by cases h)
  rw [made8] at ho1
  clear hg1 hi hz0 hz1 hz2
  go_wp2
  go_loopw [6, 12] (fun _ s12 wr => ∃ (k : Nat) (L : List UInt8), k ≤ l.length ∧ s12 = .int .i64 k ∧ L.length = l.length ∧ L.take k = (l.map (gm · x)).take k ∧ wr.ownsRow w.heap.size 5 1 (.slice (some ⟨w.heap.size, 0, none⟩) l.length l.length) l.length (B8 L) ∧ Below w.heap.size w wr) (fun _ s12 _ => l.length - (intOf s12).toNat)
  case atStart => exact ⟨0, List.replicate l.length 0, by omega, rfl, by simp, rfl, ho1, hb1⟩
  case round =>
    clear ho1 hb1
    obtain ⟨k, L, hk, rfl, hL, hT, ho, hb⟩ := hrel
    have HL := Lib.hid hL
    have HT := Lib.hid hT
    by_cases hlt : k < l.length
    · obtain ⟨b1, o1, rfl, hd1⟩ := (h1.kept hb).cs.b8 k hlt
      have hki : (k : Int) < (l.length : Int) := by omega
      obtain ⟨u, hold⟩ : ∃ u, wr.cell? ⟨w.heap.size, k, none⟩ = some u := ⟨_, own_cell8n ho k (by omega)⟩
      have hfr := ho.frozenAt k
      have hset := own_set8n ho k (gm l[k] x)
      have hb' := hb.setCell (p := ⟨w.heap.size, k, none⟩) (Nat.le_refl _) (.int .u8 ((gm l[k] x).toNat : Int))
      have hTn : (L.set k (gm l[k] x)).take (k + 1) = (l.map (gm · x)).take (k + 1) := by
        rw [List.take_succ_eq_append_getElem (by simp; omega), List.take_succ_eq_append_getElem (by simp; omega), List.take_set_of_le (Nat.le_refl k), hT]
        simp
      have HTN := Lib.hid hTn
      clear hL hT hTn
      go_wp2_with fail
      refine (mul_any _ x _).mono ?_
      rintro e w1 ⟨rfl, hw⟩
      subst hw
      go_wp2
      go_roundw
      case rel => exact ⟨k + 1, L.set k (gm l[k] x), by omega, by go_num, by rw [List.length_set]; exact HL.out, HTN.out, hset, hb'⟩
      case measure => simp [intOf]; omega
    · obtain rfl : k = l.length := by omega
      rw [List.take_of_length_le (by omega), List.take_of_length_le (by simp)] at hT
      subst hT
      clear hL HL HT
      go_wp2
      go_ret
      exact ⟨w.heap.size, rfl, ho, hb⟩

/-- Sums, place by place. -/
def gadd (a b : List UInt8) : List UInt8 := List.zipWith (· ^^^ ·) a b

set_option maxRecDepth 100000 in
set_option maxHeartbeats 1000000 in
/-- gf's Add, of rows of one length. -/
theorem add_same (w : World) (a1 a2 : Option Addr) (c1 c2 : Nat) (l m : List UInt8) (hlen : l.length = m.length) (h1 : Rd w a1 c1 (B8 l)) (h2 : Rd w a2 c2 (B8 m)) (hl6 : l.length ≤ 1000000) :
    Calls Tryd.prog 38 #[.slice a1 l.length c1, .slice a2 m.length c2] w fun e w' => ∃ g, e = .returned (.tuple #[.slice (some ⟨g, 0, none⟩) l.length l.length, .int .i64 0]) ∧
      w'.ownsRow w.heap.size 5 1 (.slice (some ⟨g, 0, none⟩) l.length l.length) l.length (B8 (gadd l m)) ∧ Below w.heap.size w w' := by
  obtain ⟨i0, hi, hz0, hz1, hz2⟩ := elemG.hi
  have hb : ((l.length : Int) != m.length) = false := by rw [hlen]; simp
  have HLEN := Lib.hid hlen; clear hlen
  go_enter Tryd.func38, Tryd.ntmps38
  go_wp2_with (with_reducible refine At.slot 15 ?_)
  refine At.out (wpList_make_full w rfl (.tmp 14) (.tmp 14) 34 rfl w.heap.size 5 i0 (.int .u8 0) 1 elemG.ht hi hz0 hz1 .i64 .i64 (l.length : Int) (l.length : Int) l.length rfl rfl rfl rfl (by rw [hz2]; omega) (by unfold maxLen; omega) (Nat.le_refl _) ?_)
  intro w2 ho1 hg1
  have hb1 : Below w.heap.size w w2 := below_grown hg1 (Nat.le_refl _) (fun k h => by cases h)
  rw [made8] at ho1
  clear hg1 hi hz0 hz1 hz2
  go_wp2
  go_loopw [7, 18] (fun _ s12 wr => ∃ (k : Nat) (L : List UInt8), k ≤ l.length ∧ s12 = .int .i64 k ∧ L.length = l.length ∧ L.take k = (gadd l m).take k ∧ wr.ownsRow w.heap.size 5 1 (.slice (some ⟨w.heap.size, 0, none⟩) l.length l.length) l.length (B8 L) ∧ Below w.heap.size w wr) (fun _ s12 _ => l.length - (intOf s12).toNat)
  case atStart => exact ⟨0, List.replicate l.length 0, by omega, rfl, by simp, rfl, ho1, hb1⟩
  case round =>
    clear ho1 hb1
    obtain ⟨k, L, hk, rfl, hL, hT, ho, hb3⟩ := hrel
    have HL := Lib.hid hL
    have HT := Lib.hid hT
    by_cases hlt : k < l.length
    · have hm : k < m.length := by rw [← HLEN.out]; exact hlt
      obtain ⟨b1, o1, rfl, hd1⟩ := (h1.kept hb3).cs.b8 k hlt
      obtain ⟨b2, o2, rfl, hd2⟩ := (h2.kept hb3).cs.b8 k hm
      have hki : (k : Int) < (l.length : Int) := by omega
      have hkm : (k : Int) < (m.length : Int) := by omega
      obtain ⟨u, hold⟩ : ∃ u, wr.cell? ⟨w.heap.size, k, none⟩ = some u := ⟨_, own_cell8n ho k (by omega)⟩
      have hfr := ho.frozenAt k
      have hxor := u8_bin_xor l[k] m[k]
      obtain ⟨y, hy⟩ : ∃ y, y = l[k] ^^^ m[k] := ⟨_, rfl⟩
      rw [← hy] at hxor
      have hset := own_set8n ho k y
      have hb' := hb3.setCell (p := ⟨w.heap.size, k, none⟩) (Nat.le_refl _) (.int .u8 (y.toNat : Int))
      have hTn : (L.set k y).take (k + 1) = (gadd l m).take (k + 1) := by
        have hgl : (gadd l m).length = l.length := by unfold gadd; rw [List.length_zipWith, HLEN.out, Nat.min_self]
        rw [List.take_succ_eq_append_getElem (by simp; omega), List.take_succ_eq_append_getElem (by omega), List.take_set_of_le (Nat.le_refl k), hT, hy]
        simp [gadd]
      have HTN := Lib.hid hTn
      clear hL hT hTn hy
      go_wp2
      go_region
      go_wp2
      go_roundw
      case rel => exact ⟨k + 1, L.set k y, by omega, by go_num, by rw [List.length_set]; exact HL.out, HTN.out, hset.drew, hb'.drew⟩
      case measure => simp [intOf]; omega
    · obtain rfl : k = l.length := by omega
      have hgl : (gadd l m).length = l.length := by unfold gadd; rw [List.length_zipWith, HLEN.out, Nat.min_self]
      rw [List.take_of_length_le (by omega), List.take_of_length_le (by omega)] at hT
      subst hT
      clear hL HL HT hgl
      go_wp2
      go_ret2
      exact ⟨w.heap.size, rfl, ho, hb3⟩
set_option maxRecDepth 100000 in
/-- gf's Add, of rows of unlike length. -/
theorem add_other (w : World) (a1 a2 : Option Addr) (n1 n2 c1 c2 : Nat) (hlen : n1 ≠ n2) :
    Calls Tryd.prog 38 #[.slice a1 n1 c1, .slice a2 n2 c2] w fun e w' => e = .returned (.tuple #[.slice none 0 0, .int .i64 1]) ∧ w' = w := by
  have hb : ((n1 : Int) != n2) = true := by rw [bne_iff_ne]; omega
  clear hlen
  go_enter Tryd.func38, Tryd.ntmps38
  go_wp2
  go_ret2
  exact ⟨rfl, rfl⟩
end Go.Proofs.YtmeckdgigjjjbaaDoor
