/- Unpack: the plain function, and the contracts of the program's and of the document's. Conditions: each contract's own premises. -/
import Derived.Test.YtelmjcalacdncaaPack
namespace Go.Proofs.Ytelmjcalacdncaa
open Go Go.RowKit

/-- The digit i of bytes. -/
def bitAt (b : List UInt8) (i : Nat) : Bool := (b.getD (i / 8) 0).toNat.testBit (i % 8)
/-- The first n digits. -/
def bitsOf (b : List UInt8) (n : Nat) : List Bool := (List.range n).map (bitAt b)
/-- Are the digits from n on all 0? -/
def restZero (b : List UInt8) (n : Nat) : Prop := ∀ i, n ≤ i → i < 8 * b.length → bitAt b i = false
open Classical in
/-- The truths, and the error. -/
noncomputable def unp (b : List UInt8) (n : Int) : List Bool × Nat :=
  if n < 0 then ([], 1)
  else if b.length < (n.toNat + 7) / 8 then ([], 2)
  else if (n.toNat + 7) / 8 < b.length then ([], 3)
  else if restZero b n.toNat then (bitsOf b n.toNat, 0) else ([], 3)

theorem bitAt_lt {b : List UInt8} {i : Nat} (h : i / 8 < b.length) : bitAt b i = b[i / 8].toNat.testBit (i % 8) := by
  unfold bitAt; rw [List.getD_eq_getElem?_getD, List.getElem?_eq_getElem h]; rfl
theorem bitAt_bit {b : List UInt8} {i : Nat} (h : i / 8 < b.length) : (b[i / 8].toNat / 2 ^ (i % 8) % 2 = 1) ↔ bitAt b i = true := by
  rw [bitAt_lt h, Nat.testBit_eq_decide_div_mod_eq]; simp
/-- The digits left over, as the program asks. -/
theorem rest_iff {b : List UInt8} {n : Nat} (hl : b.length = (n + 7) / 8) (_h8 : n % 8 ≠ 0) (hb : n / 8 < b.length) : restZero b n ↔ b[n / 8].toNat / 2 ^ (n % 8) = 0 := by
  constructor
  · intro h
    apply Nat.eq_of_testBit_eq
    intro t
    rw [Nat.zero_testBit, ← Nat.shiftRight_eq_div_pow, Nat.testBit_shiftRight]
    by_cases ht : n % 8 + t < 8
    · have := h (n + t) (by omega) (by omega)
      rw [bitAt_lt (by omega)] at this
      have e1 : (n + t) / 8 = n / 8 := by omega
      have e2 : (n + t) % 8 = n % 8 + t := by omega
      simp only [e1, e2] at this
      exact this
    · exact Nat.testBit_lt_two_pow (Nat.lt_of_lt_of_le (u8_lt _) (Nat.pow_le_pow_right (n := 2) (by decide) (show 8 ≤ n % 8 + t by omega)))
  · intro h i hi hi8
    have e1 : i / 8 = n / 8 := by omega
    rw [bitAt_lt (by omega)]
    simp only [e1]
    have e2 : i % 8 = n % 8 + (i % 8 - n % 8) := by omega
    rw [e2, ← Nat.testBit_shiftRight, Nat.shiftRight_eq_div_pow, h, Nat.zero_testBit]
theorem rest_full {b : List UInt8} {n : Nat} (hl : b.length = (n + 7) / 8) (h8 : n % 8 = 0) : restZero b n := by
  intro i hi hi8; omega

theorem and7_pos (n : Int) (h0 : 0 ≤ n) (h1 : n ≤ 9223372036854775807) : bits BinOp.and IntKind.i64 n 7 = n % 8 := by
  show IntKind.i64.wrap ((BitVec.ofInt 64 n &&& BitVec.ofInt 64 7).toNat : Int) = _
  have h2 : (BitVec.ofInt 64 7).toNat = 7 := by decide
  have h3 : (BitVec.ofInt 64 n).toNat = n.toNat := by rw [BitVec.toNat_ofInt]; omega
  rw [BitVec.toNat_and, h2, h3, nat_mask3, IntWalk.i64_in _ (by omega)]
  omega

/-- bytes, of any number from 0 on. -/
theorem bytes_int (n : Int) (h0 : 0 ≤ n) (h1 : n ≤ 9223372036854775807) (w : World) :
    Calls Try.prog 40 #[.int .i64 n] w fun e w' => e = .returned (.int .i64 (((n.toNat + 7) / 8 : Nat) : Int)) ∧ w' = w := by
  have h7 := and7_pos n h0 h1
  obtain ⟨r, hr⟩ : ∃ r, r = n % 8 := ⟨_, rfl⟩
  rw [← hr] at h7
  have hr8 : 0 ≤ r ∧ r < 8 := by omega
  obtain ⟨hr0, hr8⟩ := hr8
  have HR := Lib.hid hr; clear hr
  go_enter Try.func40, Try.ntmps40
  go_wp2
  go_ret
  have := HR.out
  refine ⟨ret_int ?_, rfl⟩
  show n / 8 + (r + 7) / 8 = _
  omega

theorem bit_int {b : List UInt8} {k : Nat} (h : k / 8 < b.length) : bits BinOp.and IntKind.u8 ((b[k / 8].toNat : Int) / 2 ^ (k % 8)) 1 = ((b[k / 8].toNat / 2 ^ (k % 8) % 2 : Nat) : Int) := by
  have e : ((b[k / 8].toNat : Int) / 2 ^ (k % 8)) = ((b[k / 8].toNat / 2 ^ (k % 8) : Nat) : Int) := by rw [Int.natCast_ediv, Int.natCast_pow]; rfl
  have e1 : (1 : Int) = ((1 : Nat) : Int) := rfl
  rw [e, e1, u8_and_nat _ _ (Nat.lt_of_le_of_lt (Nat.div_le_self _ _) (u8_lt _)) (by decide), nat_mask1]
theorem bit_beq {b : List UInt8} {k : Nat} (h : k / 8 < b.length) : (((b[k / 8].toNat / 2 ^ (k % 8) % 2 : Nat) : Int) == 1) = bitAt b k := by
  have := bitAt_bit h
  cases hb : bitAt b k
  · rw [beq_eq_false_iff_ne]; intro e
    rw [hb] at this
    have := this.1 (by omega)
    simp at this
  · rw [beq_iff_eq]
    have := this.2 hb
    omega
theorem bitsOf_length (b : List UInt8) (n : Nat) : (bitsOf b n).length = n := by simp [bitsOf]
/-- The first k truths stand. -/
def BitsTo (b : List UInt8) (k : Nat) (L : List Bool) : Prop := ∀ i (hi : i < L.length), i < k → L[i] = bitAt b i
theorem bitsOf_eq {b : List UInt8} {n : Nat} {L : List Bool} (hl : L.length = n) (h : BitsTo b n L) : L = bitsOf b n := by
  apply List.ext_getElem (by rw [bitsOf_length, hl])
  intro i h1 h2
  rw [h i h1 (by omega)]
  simp [bitsOf]
theorem bitsTo_set {b : List UInt8} {k : Nat} {L : List Bool} (h : BitsTo b k L) : BitsTo b (k + 1) (L.set k (bitAt b k)) := by
  intro i hi hk
  rw [List.getElem_set]
  by_cases e : k = i
  · rw [if_pos e, e]
  · rw [if_neg e]; exact h i (by simpa using hi) (by omega)

/-- What Unpack answers: a list of truths in new memory, and an error. -/
def UnpR (w : World) (b : List UInt8) (n : Int) (e : Ending) (w' : World) : Prop :=
  ∃ r, e = .returned (.tuple #[r, .int .i64 ((unp b n).2 : Nat)]) ∧ w'.ownsRow w.heap.size 4 1 r (unp b n).1.length (BB (unp b n).1) ∧ Below w.heap.size w w'

set_option maxRecDepth 100000 in
set_option maxHeartbeats 1000000 in
/-- Unpack. -/
theorem unpack_any (w : World) (a : Option Addr) (c : Nat) (b : List UInt8) (n : Int) (hr : Rd w a c (B8 b)) (hl : b.length ≤ 1000000) (h1 : n ≤ 9223372036854775807) (h2 : -9223372036854775808 ≤ n) :
    Calls Try.prog 29 #[.slice a b.length c, .int .i64 n] w (UnpR w b n) := by
  by_cases hneg : n < 0
  · have hres : unp b n = ([], 1) := by unfold unp; rw [if_pos hneg]
    have HR := Lib.hid hres; clear hres
    go_enter Try.func29, Try.ntmps29
    go_wp2
    go_ret2
    refine ⟨_, by rw [HR.out]; rfl, ?_, Below.refl _ _⟩
    rw [HR.out]; exact World.ownsRow_nil _ _ _ _
  obtain ⟨m, rfl⟩ : ∃ m : Nat, n = (m : Int) := ⟨n.toNat, by omega⟩
  have hbc := bytes_int (m : Int) (by omega) h1
  rw [Int.toNat_natCast] at hbc
  have HBC := Lib.hid hbc; clear hbc
  obtain ⟨q, hq⟩ : ∃ q, q = (m + 7) / 8 := ⟨_, rfl⟩
  rw [← hq] at HBC
  by_cases hlt : b.length < q
  · have hres : unp b (m : Int) = ([], 2) := by unfold unp; rw [if_neg hneg, Int.toNat_natCast, ← hq, if_pos hlt]
    have HR := Lib.hid hres; clear hres hq
    go_enter Try.func29, Try.ntmps29
    go_wp2_with fail
    refine (HBC.out _).mono ?_
    rintro e w1 ⟨rfl, rfl⟩
    go_wp2
    go_ret2
    refine ⟨_, by rw [HR.out]; rfl, ?_, Below.refl _ _⟩
    rw [HR.out]; exact World.ownsRow_nil _ _ _ _
  by_cases hgt : q < b.length
  · have hres : unp b (m : Int) = ([], 3) := by unfold unp; rw [if_neg hneg, Int.toNat_natCast, ← hq, if_neg hlt, if_pos hgt]
    have HR := Lib.hid hres; clear hres hq
    go_enter Try.func29, Try.ntmps29
    go_wp2_with fail
    refine (HBC.out _).mono ?_
    rintro e w1 ⟨rfl, rfl⟩
    go_wp2_with fail
    refine (HBC.out _).mono ?_
    rintro e w1 ⟨rfl, rfl⟩
    go_wp2
    go_ret2
    refine ⟨_, by rw [HR.out]; rfl, ?_, Below.refl _ _⟩
    rw [HR.out]; exact World.ownsRow_nil _ _ _ _
  obtain rfl : q = b.length := by omega
  have HQ := Lib.hid hq
  have hm : m ≤ 8000000 := by omega
  have h7 := and7_pos (m : Int) (by omega) h1
  obtain ⟨t, ht⟩ : ∃ t, t = m % 8 := ⟨_, rfl⟩
  have ht' : (m : Int) % 8 = (t : Int) := by omega
  rw [ht'] at h7
  have ht8 : t < 8 := by omega
  have HT := Lib.hid ht
  by_cases hrz : restZero b m
  · have hres : unp b (m : Int) = (bitsOf b m, 0) := by unfold unp; rw [if_neg hneg, Int.toNat_natCast, ← hq, if_neg hlt, if_neg hgt, if_pos hrz]
    have HR := Lib.hid hres; clear hres
    have hw : (((t : Int) != 0) = false ∨ (((t : Int) != 0) = true ∧ ∃ (hbl : m / 8 < b.length), ((b[m / 8].toNat : Int) / 2 ^ t != 0) = false)) := by
      by_cases ht0 : m % 8 = 0
      · left; rw [bne_eq_false_iff_eq]; omega
      · right
        refine ⟨by rw [bne_iff_ne]; omega, by omega, ?_⟩
        rw [bne_eq_false_iff_eq]
        have := (rest_iff hq ht0 (by omega)).1 hrz
        rw [← ht] at this
        have e2 : (b[m / 8].toNat : Int) / 2 ^ t = ((b[m / 8].toNat / 2 ^ t : Nat) : Int) := by rw [Int.natCast_ediv, Int.natCast_pow]; rfl
        rw [e2, this]; rfl
    clear hrz ht ht' hq
    have hki : ∀ (x : Nat), x < b.length → (x : Int) < (b.length : Int) := fun x h => by omega
    obtain ⟨i0, hi, hz0, hz1, hz2⟩ := elemBool.hi
    clear hki
    rcases hw with h70 | ⟨h70, hbl, hz⟩
    · go_enter Try.func29, Try.ntmps29
      go_wp2_with fail
      refine (HBC.out _).mono ?_
      rintro e w1 ⟨rfl, rfl⟩
      go_wp2_with fail
      refine (HBC.out _).mono ?_
      rintro e w1 ⟨rfl, rfl⟩
      go_wp2_with (with_reducible refine At.slot 38 ?_)
      refine At.out (wpList_make_full w1 rfl (.tmp 37) (.tmp 37) 45 rfl w1.heap.size 4 i0 (.bool false) 1 elemBool.ht hi hz0 hz1 .i64 .i64 (m : Int) (m : Int) m rfl rfl rfl rfl (by rw [hz2]; omega) (by unfold maxLen; omega) (Nat.le_refl _) ?_)
      intro w2 ho1 hg1
      have hb1 : Below w1.heap.size w1 w2 := below_grown hg1 (Nat.le_refl _) (fun k h => by cases h)
      rw [madeB] at ho1
      clear hg1 hi hz0 hz1 hz2
      go_wp2
      go_loopw [7, 41] (fun _ s41 wr => ∃ (k : Nat) (L : List Bool), k ≤ m ∧ s41 = .int .i64 k ∧ L.length = m ∧ BitsTo b k L ∧ wr.ownsRow w1.heap.size 4 1 (.slice (some ⟨w1.heap.size, 0, none⟩) m m) m (BB L) ∧ Below w1.heap.size w1 wr) (fun _ s41 _ => m - (intOf s41).toNat)
      case atStart =>
        refine ⟨0, List.replicate m false, by omega, rfl, by simp, ?_, ho1, hb1⟩
        intro i hi hk; omega
      case round =>
        clear ho1 hb1
        obtain ⟨k, L, hk, rfl, hL, hbt, ho, hb⟩ := hrel
        have HL := Lib.hid hL; clear hL
        by_cases hkm : k < m
        · have hk8 : k / 8 < b.length := by have := HQ.out; omega
          obtain ⟨b2, o2, hab, hc⟩ := hr.cs.b8 (k / 8) hk8
          subst hab
          have hc2 : wr.cell? ⟨b2, o2 + k / 8, none⟩ = some (.int .u8 (b[k / 8].toNat : Int)) := by
            rw [hb.cell (p := ⟨b2, o2 + k / 8, none⟩) (World.block_lt_of_cell? w1 _ hc)]; exact hc
          have hbi := bit_int hk8
          have hbq := bit_beq hk8
          have hk7 := and7 k (by omega)
          have hold : ∃ u, wr.cell? ⟨w1.heap.size, k, none⟩ = some u := ⟨_, by rw [ho.cellAt k (by omega), BB, List.getElem?_map, List.getElem?_eq_getElem (by have := HL.out; omega)]; rfl⟩
          obtain ⟨u, hold⟩ := hold
          have hfr := ho.frozenAt k
          obtain ⟨v, hv⟩ : ∃ v, v = bitAt b k := ⟨_, rfl⟩
          have hbt' := bitsTo_set hbt
          rw [← hv] at hbt' hbq
          have hset := own_setBn ho k v
          have hb' := hb.setCell (p := ⟨w1.heap.size, k, none⟩) (Nat.le_refl _) (.bool v)
          obtain ⟨x, hx⟩ : ∃ x, x = b[k / 8] := ⟨_, rfl⟩
          rw [← hx] at hc2 hbi hbq
          obtain ⟨s, hs⟩ : ∃ s, s = k % 8 := ⟨_, rfl⟩
          rw [← hs] at hbi hbq hk7
          have hs8 : s < 8 := by omega
          obtain ⟨r, hrr⟩ : ∃ r, r = x.toNat / 2 ^ s % 2 := ⟨_, rfl⟩
          rw [← hrr] at hbi hbq
          have hki : (k : Int) / 8 < (b.length : Int) := by omega
          have hkm' : (k : Int) < (m : Int) := by omega
          clear hx hs hrr hv hc hbt
          go_wp2
          go_roundw
          case rel => exact ⟨k + 1, L.set k v, by omega, by go_num, by rw [List.length_set]; exact HL.out, hbt', hset, hb'⟩
          case measure => simp [intOf]; omega
        · obtain rfl : k = m := by omega
          go_wp2
          go_ret2
          refine ⟨_, by rw [HR.out]; rfl, ?_, hb⟩
          rw [HR.out, ← bitsOf_eq HL.out hbt, HL.out]
          exact ho
    · obtain ⟨b1, o1, rfl, hc1⟩ := hr.cs.b8 (m / 8) hbl
      have hki : (m : Int) / 8 < (b.length : Int) := by omega
      go_enter Try.func29, Try.ntmps29
      go_wp2_with fail
      refine (HBC.out _).mono ?_
      rintro e w1 ⟨rfl, rfl⟩
      go_wp2_with fail
      refine (HBC.out _).mono ?_
      rintro e w1 ⟨rfl, rfl⟩
      go_wp2_with (with_reducible refine At.slot 38 ?_)
      refine At.out (wpList_make_full w1 rfl (.tmp 37) (.tmp 37) 45 rfl w1.heap.size 4 i0 (.bool false) 1 elemBool.ht hi hz0 hz1 .i64 .i64 (m : Int) (m : Int) m rfl rfl rfl rfl (by rw [hz2]; omega) (by unfold maxLen; omega) (Nat.le_refl _) ?_)
      intro w2 ho1 hg1
      have hb1 : Below w1.heap.size w1 w2 := below_grown hg1 (Nat.le_refl _) (fun k h => by cases h)
      rw [madeB] at ho1
      clear hg1 hi hz0 hz1 hz2
      go_wp2
      go_loopw [7, 41] (fun _ s41 wr => ∃ (k : Nat) (L : List Bool), k ≤ m ∧ s41 = .int .i64 k ∧ L.length = m ∧ BitsTo b k L ∧ wr.ownsRow w1.heap.size 4 1 (.slice (some ⟨w1.heap.size, 0, none⟩) m m) m (BB L) ∧ Below w1.heap.size w1 wr) (fun _ s41 _ => m - (intOf s41).toNat)
      case atStart =>
        refine ⟨0, List.replicate m false, by omega, rfl, by simp, ?_, ho1, hb1⟩
        intro i hi hk; omega
      case round =>
        clear ho1 hb1
        obtain ⟨k, L, hk, rfl, hL, hbt, ho, hb⟩ := hrel
        have HL := Lib.hid hL; clear hL
        by_cases hkm : k < m
        · have hk8 : k / 8 < b.length := by have := HQ.out; omega
          obtain ⟨b2, o2, hab, hc⟩ := hr.cs.b8 (k / 8) hk8
          simp only [Option.some.injEq, Addr.mk.injEq, and_true] at hab
          obtain ⟨rfl, rfl⟩ := hab
          have hc2 : wr.cell? ⟨b1, o1 + k / 8, none⟩ = some (.int .u8 (b[k / 8].toNat : Int)) := by
            rw [hb.cell (p := ⟨b1, o1 + k / 8, none⟩) (World.block_lt_of_cell? w1 _ hc)]; exact hc
          have hbi := bit_int hk8
          have hbq := bit_beq hk8
          have hk7 := and7 k (by omega)
          have hold : ∃ u, wr.cell? ⟨w1.heap.size, k, none⟩ = some u := ⟨_, by rw [ho.cellAt k (by omega), BB, List.getElem?_map, List.getElem?_eq_getElem (by have := HL.out; omega)]; rfl⟩
          obtain ⟨u, hold⟩ := hold
          have hfr := ho.frozenAt k
          obtain ⟨v, hv⟩ : ∃ v, v = bitAt b k := ⟨_, rfl⟩
          have hbt' := bitsTo_set hbt
          rw [← hv] at hbt' hbq
          have hset := own_setBn ho k v
          have hb' := hb.setCell (p := ⟨w1.heap.size, k, none⟩) (Nat.le_refl _) (.bool v)
          obtain ⟨x, hx⟩ : ∃ x, x = b[k / 8] := ⟨_, rfl⟩
          rw [← hx] at hc2 hbi hbq
          obtain ⟨s, hs⟩ : ∃ s, s = k % 8 := ⟨_, rfl⟩
          rw [← hs] at hbi hbq hk7
          have hs8 : s < 8 := by omega
          obtain ⟨r, hrr⟩ : ∃ r, r = x.toNat / 2 ^ s % 2 := ⟨_, rfl⟩
          rw [← hrr] at hbi hbq
          have hki : (k : Int) / 8 < (b.length : Int) := by omega
          have hkm' : (k : Int) < (m : Int) := by omega
          clear hx hs hrr hv hc hbt
          go_wp2
          go_roundw
          case rel => exact ⟨k + 1, L.set k v, by omega, by go_num, by rw [List.length_set]; exact HL.out, hbt', hset, hb'⟩
          case measure => simp [intOf]; omega
        · obtain rfl : k = m := by omega
          go_wp2
          go_ret2
          refine ⟨_, by rw [HR.out]; rfl, ?_, hb⟩
          rw [HR.out, ← bitsOf_eq HL.out hbt, HL.out]
          exact ho
  · have hres : unp b (m : Int) = ([], 3) := by unfold unp; rw [if_neg hneg, Int.toNat_natCast, ← hq, if_neg hlt, if_neg hgt, if_neg hrz]
    have HR := Lib.hid hres; clear hres
    have ht0 : m % 8 ≠ 0 := fun e => hrz (rest_full hq e)
    have h70 : ((t : Int) != 0) = true := by rw [bne_iff_ne]; omega
    have hbl : m / 8 < b.length := by omega
    have hnz := fun e => hrz ((rest_iff hq ht0 hbl).2 e)
    obtain ⟨b1, o1, rfl, hc1⟩ := hr.cs.b8 (m / 8) hbl
    have hki : (m : Int) / 8 < (b.length : Int) := by omega
    obtain ⟨x, hx⟩ : ∃ x, x = b[m / 8] := ⟨_, rfl⟩
    rw [← hx] at hc1 hnz
    rw [← ht] at hnz
    have hnz' : ((x.toNat : Int) / 2 ^ t != 0) = true := by
      rw [bne_iff_ne]
      intro e
      apply hnz
      have e2 : (x.toNat : Int) / 2 ^ t = ((x.toNat / 2 ^ t : Nat) : Int) := by rw [Int.natCast_ediv, Int.natCast_pow]; rfl
      omega
    clear hx hnz hrz hq ht ht0 ht'
    go_enter Try.func29, Try.ntmps29
    go_wp2_with fail
    refine (HBC.out _).mono ?_
    rintro e w1 ⟨rfl, rfl⟩
    go_wp2_with fail
    refine (HBC.out _).mono ?_
    rintro e w1 ⟨rfl, rfl⟩
    go_wp2
    go_ret2
    refine ⟨_, by rw [HR.out]; rfl, ?_, Below.refl _ _⟩
    rw [HR.out]; exact World.ownsRow_nil _ _ _ _

theorem bitsOf_succ (b : List UInt8) (k : Nat) : bitsOf b (k + 1) = bitsOf b k ++ [bitAt b k] := by
  simp [bitsOf, List.range_succ]

/-- How many bytes the document says are needed. -/
theorem need_cases (m : Nat) : (m % 8 = 0 ∧ m / 8 = (m + 7) / 8) ∨ (m % 8 ≠ 0 ∧ m / 8 + 1 = (m + 7) / 8) := by omega

set_option maxRecDepth 100000 in
set_option maxHeartbeats 2000000 in
/-- The document's Unpack. -/
theorem refUnpack_any (w : World) (a : Option Addr) (c : Nat) (b : List UInt8) (n : Int) (hr : Rd w a c (B8 b)) (hl : b.length ≤ 1000000) (h1 : n ≤ 9223372036854775807) (h2 : -9223372036854775808 ≤ n) :
    Calls Try.prog 30 #[.slice a b.length c, .int .i64 n] w (UnpR w b n) := by
  by_cases hneg : n < 0
  · have hres : unp b n = ([], 1) := by unfold unp; rw [if_pos hneg]
    have HR := Lib.hid hres; clear hres
    go_enter Try.func30, Try.ntmps30
    go_wp2
    go_ret2
    refine ⟨_, by rw [HR.out]; rfl, ?_, Below.refl _ _⟩
    rw [HR.out]; exact World.ownsRow_nil _ _ _ _
  obtain ⟨m, rfl⟩ : ∃ m : Nat, n = (m : Int) := ⟨n.toNat, by omega⟩
  obtain ⟨q, hq⟩ : ∃ q, q = (m + 7) / 8 := ⟨_, rfl⟩
  have hcs : ((((m : Int) % 8 != 0) = false ∧ ((m : Int) / 8 = (q : Int))) ∨ (((m : Int) % 8 != 0) = true ∧ ((m : Int) / 8 + 1 = (q : Int)))) := by
    rcases need_cases m with ⟨e1, e2⟩ | ⟨e1, e2⟩
    · left; refine ⟨by rw [bne_eq_false_iff_eq]; omega, by omega⟩
    · right; refine ⟨by rw [bne_iff_ne]; omega, by omega⟩
  have hqb : q ≤ 1152921504606846976 := by omega
  by_cases hlt : b.length < q
  · have hres : unp b (m : Int) = ([], 2) := by unfold unp; rw [if_neg hneg, Int.toNat_natCast, ← hq, if_pos hlt]
    have HR := Lib.hid hres; clear hres hq
    rcases hcs with ⟨c1, c2⟩ | ⟨c1, c2⟩
    all_goals
      go_enter Try.func30, Try.ntmps30
      go_wp2
      go_ret2
      refine ⟨_, by rw [HR.out]; rfl, ?_, Below.refl _ _⟩
      rw [HR.out]; exact World.ownsRow_nil _ _ _ _
  by_cases hgt : q < b.length
  · have hres : unp b (m : Int) = ([], 3) := by unfold unp; rw [if_neg hneg, Int.toNat_natCast, ← hq, if_neg hlt, if_pos hgt]
    have HR := Lib.hid hres; clear hres hq
    rcases hcs with ⟨c1, c2⟩ | ⟨c1, c2⟩
    all_goals
      go_enter Try.func30, Try.ntmps30
      go_wp2
      go_ret2
      refine ⟨_, by rw [HR.out]; rfl, ?_, Below.refl _ _⟩
      rw [HR.out]; exact World.ownsRow_nil _ _ _ _
  obtain rfl : q = b.length := by omega
  have hm : m ≤ 8000000 := by omega
  have hres1 : restZero b m → unp b (m : Int) = (bitsOf b m, 0) := fun h => by unfold unp; rw [if_neg hneg, Int.toNat_natCast, ← hq, if_neg hlt, if_neg hgt, if_pos h]
  have hres2 : ¬ restZero b m → unp b (m : Int) = ([], 3) := fun h => by unfold unp; rw [if_neg hneg, Int.toNat_natCast, ← hq, if_neg hlt, if_neg hgt, if_neg h]
  have HR1 := Lib.hid hres1; clear hres1
  have HR2 := Lib.hid hres2; clear hres2
  have HQ := Lib.hid hq; clear hq hgt hlt
  rcases hcs with ⟨c1, c2⟩ | ⟨c1, c2⟩
  all_goals
    have H1 := Lib.hid c1; clear c1
    have H2 := Lib.hid c2; clear c2
    have c1 := H1.out
    have c2 := H2.out
    go_enter Try.func30, Try.ntmps30
    go_wp2
    clear c1 c2
    go_loopw [7, 8, 9] (fun s7 s8 _ wr => ∃ (k : Nat), k ≤ 8 * b.length ∧ s8 = .int .i64 k ∧ (∀ i, m ≤ i → i < k → bitAt b i = false) ∧ wr.ownsRow w.heap.size 4 1 s7 (min k m) (BB (bitsOf b (min k m))) ∧ Below w.heap.size w wr) (fun _ s8 _ _ => 8 * b.length - (intOf s8).toNat)
    case atStart => exact ⟨0, by omega, rfl, fun i _ h => by omega, by simpa [bitsOf, BB] using World.ownsRow_nil _ _ _ _, Below.refl _ _⟩
    case round =>
      obtain ⟨k, hk, rfl, hz, ho, hb⟩ := hrel
      have HZ := Lib.hid hz; clear hz
      by_cases hkm : k < 8 * b.length
      · have hk8 : k / 8 < b.length := by omega
        obtain ⟨b2, o2, rfl, hc⟩ := hr.cs.b8 (k / 8) hk8
        have hc2 : wr.cell? ⟨b2, o2 + k / 8, none⟩ = some (.int .u8 (b[k / 8].toNat : Int)) := by
          rw [hb.cell (p := ⟨b2, o2 + k / 8, none⟩) (World.block_lt_of_cell? w _ hc)]; exact hc
        have hbi := bit_int hk8
        have hbq := bit_beq hk8
        obtain ⟨v, hv⟩ : ∃ v, v = bitAt b k := ⟨_, rfl⟩
        have hsucc := bitsOf_succ b k
        rw [← hv] at hbq hsucc
        obtain ⟨x, hx⟩ : ∃ x, x = b[k / 8] := ⟨_, rfl⟩
        rw [← hx] at hc2 hbi hbq
        obtain ⟨s, hs⟩ : ∃ s, s = k % 8 := ⟨_, rfl⟩
        have hk7 : (k : Int) % 8 = (s : Int) := by omega
        rw [← hs] at hbi hbq
        have hs8 : s < 8 := by omega
        obtain ⟨r, hrr⟩ : ∃ r, r = x.toNat / 2 ^ s % 2 := ⟨_, rfl⟩
        rw [← hrr] at hbi hbq
        have hki : (k : Int) / 8 < (b.length : Int) := by omega
        have HS := Lib.hid hsucc
        have HV := Lib.hid hv
        clear hx hs hrr hv hc hsucc
        by_cases hm2 : k < m
        · rw [Nat.min_eq_left (by omega)] at ho
          go_wp2_with (with_reducible refine At.slot 51 ?_)
          refine At.out (wpList_app rfl (.tmp 48) (.tmp 50) 45 rfl elemBool rfl w.heap.size _ k _ rfl (ho.alloc _) _ 1 1 [.bool v] rfl rfl (Rd.one _ _ _) (BB_one [v]) (by unfold maxLen; omega) (by omega) (by have := hb.size; simp; omega) ?_)
          intro v1 w2 ho2 hb2 _
          have hb3 := (hb.alloc hb.size (.cells #[.bool v] 4)).trans hb2
          clear hb2 hb ho
          have e : BB (bitsOf b k) ++ [.bool v] = BB (bitsOf b (k + 1)) := by rw [HS.out, BB_append]; rfl
          rw [e] at ho2
          clear e
          go_wp2
          go_roundw
          case rel => exact ⟨k + 1, by omega, by go_num, fun i h1 h2 => by omega, by rw [Nat.min_eq_left (by omega)]; exact ho2, hb3⟩
          case measure => simp [intOf]; omega
        · cases v
          · go_wp2
            go_roundw
            case rel =>
              refine ⟨k + 1, by omega, by go_num, fun i h1 h2 => ?_, ?_, hb⟩
              · by_cases e : i = k
                · rw [e]; exact HV.out.symm
                · exact HZ.out i h1 (by omega)
              · rw [Nat.min_eq_right (by omega)] at ho ⊢; exact ho
            case measure => simp [intOf]; omega
          · have hnr : ¬ restZero b m := fun h => by have := h k (by omega) hkm; rw [← HV.out] at this; exact absurd this (by decide)
            have HR := Lib.hid (HR2.out hnr)
            clear hnr
            go_wp2
            go_ret2
            refine ⟨_, by rw [HR.out]; rfl, ?_, hb⟩
            rw [HR.out]; exact World.ownsRow_nil _ _ _ _
      · obtain rfl : k = 8 * b.length := by omega
        have hrz : restZero b m := HZ.out
        have HR := Lib.hid (HR1.out hrz)
        clear hrz
        have hmin : min (8 * b.length) m = m := Nat.min_eq_right (by have := HQ.out; omega)
        rw [hmin] at ho
        clear hmin
        go_wp2
        go_ret2
        refine ⟨_, by rw [HR.out]; rfl, ?_, hb⟩
        rw [HR.out, bitsOf_length]
        exact ho
end Go.Proofs.Ytelmjcalacdncaa
