/- The contracts of half, halves and Sum. Conditions: each contract's own premises. -/
import Derived.Test.YteenbobblbehoaaCom0
import Derived.Test.YteenbobblbehoaaCrc
import Derived.Deep.WholeRow
namespace Go.Proofs.Yteenbobblbehoaa
open Go Go.RowKit

theorem half_step_int (x : UInt32) : bits BinOp.xor IntKind.u32 ((x.toNat : Int) / 2) (bits BinOp.and IntKind.u32 3988292384 (-bits BinOp.and IntKind.u32 (x.toNat : Int) 1 % 4294967296)) = ((halfStep x).toNat : Int) := by
  rw [u32_and_r x 1 (by decide), u32_neg, u32_and_l _ _ (by decide), u32_shr1, u32_bin_xor]; rfl

set_option maxHeartbeats 400000 in
theorem half_any (n : UInt32) (w : World) :
    Calls Try.prog 70 #[.int .u32 n.toNat] w fun e w' => e = .returned (.int .u32 (halfF n).toNat) ∧ w' = w := by
  go_enter Try.func70, Try.ntmps70
  go_wp2
  go_loop [0, 3] (fun v i => ∃ (k : Nat) (x : UInt32), k ≤ 4 ∧ i = .int .i64 k ∧ v = .int .u32 x.toNat ∧ halfN (4 - k) x = halfF n) (fun _ i => 4 - (intOf i).toNat)
  case atStart => exact ⟨0, n, by omega, rfl, rfl, rfl⟩
  case round =>
    obtain ⟨k, x, hk, rfl, rfl, hx⟩ := hrel
    have HX := Lib.hid hx; clear hx
    have hst := half_step_int x
    go_wp2
    · have hlt : k < 4 := by omega
      go_round
      case rel =>
        refine ⟨k + 1, halfStep x, by omega, by go_num, rfl, ?_⟩
        rw [← HX.out]
        obtain ⟨j, hj⟩ : ∃ j, 4 - k = j + 1 := ⟨4 - (k + 1), by omega⟩
        rw [show 4 - (k + 1) = j by omega, hj]; rfl
      case measure => simp [intOf]; omega
    · go_ret
      have : k = 4 := by omega
      subst this
      exact ⟨ret_int (by rw [← HX.out]; rfl), rfl⟩

theorem half_nat (k : Nat) (hk : k < 16) (w : World) :
    Calls Try.prog 70 #[.int .u32 (k : Int)] w fun e w' => e = .returned (.int .u32 (crcTab (UInt32.ofNat k)).toNat) ∧ w' = w := by
  have h := half_any (UInt32.ofNat k) w
  rwa [UInt32.toNat_ofNat', Nat.mod_eq_of_lt (by omega)] at h

def tabV (j : Nat) : Value := .int .u32 (crcTab (UInt32.ofNat j)).toNat
def tabC : Array Value := #[tabV 0, tabV 1, tabV 2, tabV 3, tabV 4, tabV 5, tabV 6, tabV 7, tabV 8, tabV 9, tabV 10, tabV 11, tabV 12, tabV 13, tabV 14, tabV 15]
theorem tabC_eq (C : Array Value) (hs : C.size = 16) (h : ∀ j, j < 16 → C[j]? = some (tabV j)) : C = tabC := by
  apply Array.ext
  · simp [hs, tabC]
  · intro j h1 h2
    have hj : j < 16 := by omega
    have := h j hj
    rw [Array.getElem?_eq_getElem h1, Option.some.injEq] at this
    rw [this]
    have : ∀ j, j < 16 → tabC[j]? = some (tabV j) := by
      intro j hj
      have : j = 0 ∨ j = 1 ∨ j = 2 ∨ j = 3 ∨ j = 4 ∨ j = 5 ∨ j = 6 ∨ j = 7 ∨ j = 8 ∨ j = 9 ∨ j = 10 ∨ j = 11 ∨ j = 12 ∨ j = 13 ∨ j = 14 ∨ j = 15 := by omega
      rcases this with rfl | rfl | rfl | rfl | rfl | rfl | rfl | rfl | rfl | rfl | rfl | rfl | rfl | rfl | rfl | rfl <;> rfl
    have := this j hj
    rw [Array.getElem?_eq_getElem h2, Option.some.injEq] at this
    exact this.symm

theorem infoTab : (Try.prog.info? 91).map (·.size) = some tabC.size := by kernel_rfl
theorem tabC_one : tabC.all (·.oneCell') = true := by simp [tabC, tabV, Value.oneCell']
def TabTo (C : Array Value) (k : Nat) : Prop := C.size = 16 ∧ ∀ j, j < k → C[j]? = some (tabV j)

theorem tabTo_set {C : Array Value} {k : Nat} (h : TabTo C k) (hk : k < 16) : TabTo (C.setIfInBounds k (tabV k)) (k + 1) := by
  refine ⟨by simpa using h.1, fun j hj => ?_⟩
  rw [Array.getElem?_setIfInBounds]
  by_cases e : k = j
  · subst e; rw [if_pos rfl, if_pos (by rw [h.1]; exact hk)]
  · rw [if_neg e]; exact h.2 j (by omega)

set_option maxHeartbeats 1000000 in
theorem halves_any (w : World) :
    Calls Try.prog 51 #[] w fun e w' => e = .returned (.agg tabC) ∧ w' = w.alloc (.cells tabC 91) := by
  go_enter Try.func51, Try.ntmps51
  go_wp2
  go_loopw [2] (fun i wr => ∃ (k : Nat) (C : Array Value), k ≤ 16 ∧ i = .int .i64 k ∧ wr = w.alloc (.cells C 91) ∧ TabTo C k) (fun i _ => 16 - (intOf i).toNat)
  case atStart => exact ⟨0, _, by omega, rfl, rfl, rfl, by omega⟩
  case round =>
    obtain ⟨k, C, hk, rfl, rfl, hC⟩ := hrel
    by_cases hlt : k < 16
    · have hsz := hC.1
      obtain ⟨old, hold⟩ : ∃ old, C[k]? = some old := ⟨C[k], Array.getElem?_eq_getElem (by omega)⟩
      have hkC : k < C.size := by omega
      go_wp2_with fail
      refine (half_nat k hlt _).mono ?_
      rintro e w1 ⟨rfl, rfl⟩
      go_wp2
      go_roundw
      case rel => exact ⟨k + 1, C.setIfInBounds k (tabV k), by omega, by go_num, rfl, tabTo_set hC hlt⟩
      case measure => simp [intOf]; omega
    · have : k = 16 := by omega
      subst this
      obtain rfl := tabC_eq C hC.1 hC.2
      go_wp2_with (with_reducible refine At.slot 11 ?_)
      refine At.out (wpList_load_row rfl 91 (.tmp 0) rfl w.heap.size rfl 91 tabC (0, 0) (.array 16 40) (heap_alloc_last w _) Try.underlying91 rfl infoTab ?_)
      refine wpList_store_row rfl 91 (.tmp 0) (.tmp 11) rfl w.heap.size tabC rfl rfl 91 tabC (heap_alloc_last w _) infoTab rfl tabC_one ?_
      rw [World.setRow_alloc_new]
      go_wp2
      refine bodyPost_ret (results_cell_row rfl _ _ w.heap.size 91 tabC (0, 0) (.array 16 40) rfl (heap_alloc_last w _) Try.underlying91 rfl infoTab) rfl ⟨rfl, rfl⟩

theorem tabC_get (j : Nat) (hj : j < 16) : tabC[j]? = some (tabV j) := by
  have : j = 0 ∨ j = 1 ∨ j = 2 ∨ j = 3 ∨ j = 4 ∨ j = 5 ∨ j = 6 ∨ j = 7 ∨ j = 8 ∨ j = 9 ∨ j = 10 ∨ j = 11 ∨ j = 12 ∨ j = 13 ∨ j = 14 ∨ j = 15 := by omega
  rcases this with rfl | rfl | rfl | rfl | rfl | rfl | rfl | rfl | rfl | rfl | rfl | rfl | rfl | rfl | rfl | rfl <;> rfl

theorem and15_lt (y : UInt32) : (y &&& 15).toNat < 16 := by
  rw [UInt32.toNat_and]
  exact Nat.lt_of_le_of_lt Nat.and_le_right (by decide)

theorem nib_step (y : UInt32) : ∃ (i : Nat) (t : UInt32), i < 16 ∧ bits .and .u32 (y.toNat : Int) 15 = (i : Int) ∧ tabC.toList[i]? = some (.int .u32 (t.toNat : Int)) ∧
    bits .xor .u32 ((y.toNat : Int) / 16) (t.toNat : Int) = ((nib y).toNat : Int) := by
  refine ⟨(y &&& 15).toNat, crcTab (y &&& 15), and15_lt y, u32_and_r y 15 (by decide), ?_, ?_⟩
  · rw [Array.getElem?_toList, tabC_get _ (and15_lt y)]
    simp [tabV]
  · rw [u32_shr4, u32_bin_xor]; rfl

theorem crcByte_step (x : UInt32) (c : UInt8) : bits .xor .u32 (x.toNat : Int) (c.toNat : Int) = ((x ^^^ c.toUInt32).toNat : Int) := by
  rw [← UInt8.toNat_toUInt32, u32_bin_xor]

set_option maxHeartbeats 1000000 in
theorem sum_any (w : World) (a : Option Addr) (c : Nat) (l : List UInt8) (hr : Rd w a c (B8 l)) :
    Calls Try.prog 33 #[.slice a l.length c] w fun e w' => e = .returned (.int .u32 (crc l).toNat) ∧ Below w.heap.size w w' := by
  have hl : l.length ≤ 9223372036854775807 := by have := hr.le; rwa [B8_length] at this
  go_enter Try.func33, Try.ntmps33
  go_wp2_with fail
  refine (halves_any _).mono ?_
  rintro e w1 ⟨rfl, rfl⟩
  go_wp2_with (with_reducible refine At.store 91 (.tmp 3) (.tmp 7) ?_)
  refine At.out (wpList_store_row rfl 91 (.tmp 3) (.tmp 7) rfl (w.heap.size + 1) tabC rfl rfl 91 _ (heap_alloc2_new w _ _) infoTab rfl tabC_one ?_)
  obtain ⟨W, hW⟩ : ∃ W, W = (w.alloc (.cells tabC 91)).alloc (.cells tabC 91) := ⟨_, rfl⟩
  have hB : Below w.heap.size w W := by rw [hW]; exact ((Below.refl _ _).alloc (Nat.le_refl _) _).alloc (by simp) _
  have hC : Cs W (some ⟨w.heap.size + 1, 0, none⟩) tabC.toList := by
    intro j u hu
    refine ⟨_, _, rfl, ?_⟩
    rw [hW, cell_of_row _ (w.heap.size + 1) (0 + j) tabC 91 (0, 0) (heap_alloc2_new w _ _)]
    simpa using hu
  have hD : Cs W a (B8 l) := hr.cs.kept hB
  have e1 : ((w.alloc (.cells tabC 91)).alloc (.cells #[.int .u32 0, .int .u32 0, .int .u32 0, .int .u32 0, .int .u32 0, .int .u32 0, .int .u32 0, .int .u32 0, .int .u32 0, .int .u32 0, .int .u32 0, .int .u32 0, .int .u32 0, .int .u32 0, .int .u32 0, .int .u32 0] 91)).setRow (w.heap.size + 1) tabC = W := by
    have e : w.heap.size + 1 = (w.alloc (.cells tabC 91)).heap.size := by simp
    rw [hW, e, World.setRow_alloc_new]
  rw [e1]
  clear hW e1
  go_wp2
  go_loop [4, 10] (fun v i => ∃ (k : Nat) (x : UInt32), k ≤ l.length ∧ i = .int .i64 k ∧ v = .int .u32 x.toNat ∧ x = crcRun 0xffffffff (l.take k)) (fun _ i => l.length - (intOf i).toNat)
  case atStart => exact ⟨0, 0xffffffff, by omega, rfl, rfl, rfl⟩
  case round =>
    obtain ⟨k, x, hk, rfl, rfl, hx⟩ := hrel
    have HX := Lib.hid hx; clear hx
    by_cases hlt : k < l.length
    · obtain ⟨b1, o1, rfl, hc1⟩ := hD.b8 k hlt
      have hi : (k : Int) < (l.length : Int) := by omega
      have hlc := u8_lt l[k]
      obtain ⟨y0, hy0⟩ : ∃ y, y = x ^^^ l[k].toUInt32 := ⟨_, rfl⟩
      have s0 := crcByte_step x l[k]
      rw [← hy0] at s0
      have Hy0 := Lib.hid hy0; clear hy0
      obtain ⟨i0, t0, hi0, s1, g0, s2⟩ := nib_step y0
      obtain ⟨y1, hy1⟩ : ∃ y, y = nib y0 := ⟨_, rfl⟩
      rw [← hy1] at s2
      have Hy1 := Lib.hid hy1; clear hy1
      obtain ⟨i1, t1, hi1, s3, g1, s4⟩ := nib_step y1
      obtain ⟨y2, hy2⟩ : ∃ y, y = nib y1 := ⟨_, rfl⟩
      rw [← hy2] at s4
      have Hy2 := Lib.hid hy2; clear hy2
      have c0 : W.cell? ⟨w.heap.size + 1, i0, none⟩ = some (.int .u32 (t0.toNat : Int)) := by
        obtain ⟨b, o, hab, hc⟩ := hC i0 _ g0
        simp at hab; obtain ⟨rfl, rfl⟩ := hab; simpa using hc
      have c1 : W.cell? ⟨w.heap.size + 1, i1, none⟩ = some (.int .u32 (t1.toNat : Int)) := by
        obtain ⟨b, o, hab, hc⟩ := hC i1 _ g1
        simp at hab; obtain ⟨rfl, rfl⟩ := hab; simpa using hc
      clear g0 g1
      have hi0' : (i0 : Int) < 16 := by omega
      have hi1' : (i1 : Int) < 16 := by omega
      go_wp2
      go_round
      case rel =>
        refine ⟨k + 1, y2, by omega, by go_num, rfl, ?_⟩
        rw [List.take_succ_eq_append_getElem hlt]
        unfold crcRun
        rw [List.foldl_append]
        show y2 = crcByte _ _
        have := HX.out; unfold crcRun at this
        rw [← this, Hy2.out, Hy1.out, Hy0.out]; rfl
      case measure => simp [intOf]; omega
    · go_wp2
      go_ret
      refine ⟨ret_int ?_, hB⟩
      have hx := HX.out
      rw [List.take_of_length_le (by omega)] at hx
      rw [u32_not, hx]; rfl

end Go.Proofs.Yteenbobblbehoaa
