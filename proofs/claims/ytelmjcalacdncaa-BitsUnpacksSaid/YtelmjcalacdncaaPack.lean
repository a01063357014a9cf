/- Pack: what it says of its answer, and the contracts of the program's and of the document's. Conditions: each contract's own premises. -/
import Derived.Test.YtelmjcalacdncaaCom
import Derived.RegionTactic
import Derived.BigRegion
namespace Go.Proofs.Ytelmjcalacdncaa
open Go Go.RowKit

theorem elemBool : ElemT Try.prog 45 4 1 (.bool false) 1 := ⟨Try.underlying45, info_parts (by kernel_rfl)⟩

theorem and7 (k : Nat) (hk : k < 4611686018427387904) : bits BinOp.and IntKind.i64 (k : Int) 7 = ((k % 8 : Nat) : Int) := by
  show IntKind.i64.wrap ((BitVec.ofInt 64 (k : Int) &&& BitVec.ofInt 64 7).toNat : Int) = _
  have h1 : (BitVec.ofInt 64 (k : Int)).toNat = k := by
    rw [BitVec.ofInt_natCast, BitVec.toNat_ofNat]; exact Nat.mod_eq_of_lt (by omega)
  have h2 : (BitVec.ofInt 64 7).toNat = 7 := by decide
  rw [BitVec.toNat_and, h1, h2, nat_mask3, IntWalk.i64_in _ (by omega)]

/-- bytes: how many bytes so many digits take. -/
theorem bytes_any (n : Nat) (hn : n < 4611686018427387904) (w : World) :
    Calls Try.prog 40 #[.int .i64 (n : Int)] w fun e w' => e = .returned (.int .i64 (((n + 7) / 8 : Nat) : Int)) ∧ w' = w := by
  have h7 := and7 n hn
  obtain ⟨r, hr⟩ : ∃ r, r = n % 8 := ⟨_, rfl⟩
  rw [← hr] at h7
  have hr8 : r < 8 := by omega
  have hn1 : (n : Int) < 4611686018427387904 := by omega
  have HR := Lib.hid hr; clear hr hn
  go_enter Try.func40, Try.ntmps40
  go_wp2
  go_ret
  have := HR.out
  refine ⟨ret_int ?_, rfl⟩
  show (n : Int) / 8 + ((r : Int) + 7) / 8 = _
  omega

/-- The truths l, of which k stand already, in bytes. -/
def PkTo (l : List Bool) (k : Nat) (b : List UInt8) : Prop :=
  ∀ j (h : j < b.length) t, t < 8 → b[j].toNat.testBit t = (decide (8 * j + t < k) && l.getD (8 * j + t) false)

theorem or_bit (x : UInt8) (t : Nat) (ht : t < 8) : ∃ y : UInt8, bits BinOp.or IntKind.u8 (x.toNat : Int) (2 ^ t % 256) = (y.toNat : Int) ∧ y.toNat = x.toNat ||| 2 ^ t := by
  have hx := u8_lt x
  have h2 : 2 ^ t < 256 := (Nat.pow_lt_pow_right (n := 8) (by decide) ht : 2 ^ t < 2 ^ 8)
  have hlt : x.toNat ||| 2 ^ t < 256 := Nat.or_lt_two_pow (n := 8) hx h2
  refine ⟨UInt8.ofNat (x.toNat ||| 2 ^ t), ?_, by rw [UInt8.toNat_ofNat', Nat.mod_eq_of_lt hlt]⟩
  have e : ((2 : Int) ^ t % 256) = ((2 ^ t : Nat) : Int) := by
    have e1 : (2 : Int) ^ t = ((2 ^ t : Nat) : Int) := by rw [Int.natCast_pow]; rfl
    have e2 : ((2 ^ t : Nat) : Int) % 256 = ((2 ^ t % 256 : Nat) : Int) := (Int.natCast_emod _ _).symm
    rw [e1, e2, Nat.mod_eq_of_lt h2]
  rw [e, u8_or_nat _ _ hx h2, UInt8.toNat_ofNat', Nat.mod_eq_of_lt hlt]

theorem PkTo.off {l : List Bool} {k : Nat} {b : List UInt8} (h : PkTo l k b) (hk : k < l.length) (hv : false = l[k]) : PkTo l (k + 1) b := by
  intro j hj t ht
  rw [h j hj t ht]
  by_cases e : 8 * j + t = k
  · have : l.getD k false = false := by rw [List.getD_eq_getElem?_getD, List.getElem?_eq_getElem hk, ← hv]; rfl
    rw [e, this, Bool.and_false, Bool.and_false]
  · have : (8 * j + t < k) ↔ (8 * j + t < k + 1) := by omega
    rw [decide_eq_decide.2 this]
theorem PkTo.on {l : List Bool} {k : Nat} {b : List UInt8} (h : PkTo l k b) (hk : k < l.length) (hv : true = l[k]) (hb : k / 8 < b.length) {y : UInt8} (hy : y.toNat = b[k / 8].toNat ||| 2 ^ (k % 8)) : PkTo l (k + 1) (b.set (k / 8) y) := by
  intro j hj t ht
  rw [List.length_set] at hj
  rw [List.getElem_set]
  have hget : l.getD k false = true := by rw [List.getD_eq_getElem?_getD, List.getElem?_eq_getElem hk, ← hv]; rfl
  by_cases e : k / 8 = j
  · rw [if_pos e, hy, Nat.testBit_or]
    subst e
    rw [h _ hb t ht]
    by_cases e2 : t = k % 8
    · have e3 : 8 * (k / 8) + t = k := by omega
      rw [e3, e2, Nat.testBit_two_pow_self, Bool.or_true, hget]
      simp
    · rw [Nat.testBit_two_pow_of_ne (by omega), Bool.or_false]
      have : (8 * (k / 8) + t < k) ↔ (8 * (k / 8) + t < k + 1) := by omega
      rw [decide_eq_decide.2 this]
  · rw [if_neg e, h j hj t ht]
    have : (8 * j + t < k) ↔ (8 * j + t < k + 1) := by omega
    rw [decide_eq_decide.2 this]
theorem PkTo.more {l : List Bool} {k : Nat} {b : List UInt8} (h : PkTo l k b) (hk : k ≤ 8 * b.length) : PkTo l k (b ++ [0]) := by
  intro j hj t ht
  by_cases e : j < b.length
  · rw [List.getElem_append_left e]; exact h j e t ht
  · have : j = b.length := by simp at hj; omega
    subst this
    have hf : ¬ 8 * b.length + t < k := by omega
    rw [List.getElem_append_right (Nat.le_refl _), decide_eq_false hf, Bool.false_and]
    simp
theorem PkTo.same {l : List Bool} {k : Nat} {b b' : List UInt8} (h : PkTo l k b) (h' : PkTo l k b') (hl : b.length = b'.length) : b = b' := by
  apply List.ext_getElem hl
  intro j h1 h2
  apply UInt8.toNat_inj.1
  apply Nat.eq_of_testBit_eq
  intro t
  by_cases ht : t < 8
  · rw [h j h1 t ht, h' j h2 t ht]
  · rw [Nat.testBit_lt_two_pow (Nat.lt_of_lt_of_le (u8_lt _) (Nat.pow_le_pow_right (n := 2) (by decide) (show 8 ≤ t by omega))), Nat.testBit_lt_two_pow (Nat.lt_of_lt_of_le (u8_lt _) (Nat.pow_le_pow_right (n := 2) (by decide) (show 8 ≤ t by omega)))]

set_option maxRecDepth 100000 in
set_option maxHeartbeats 1000000 in
/-- Pack. -/
theorem pack_any (w : World) (a : Option Addr) (c : Nat) (l : List Bool) (hr : Rd w a c (BB l)) (hl : l.length ≤ 1000000) :
    Calls Try.prog 37 #[.slice a l.length c] w fun e w' => ∃ r b, e = .returned r ∧ b.length = (l.length + 7) / 8 ∧ PkTo l l.length b ∧ w'.ownsRow w.heap.size 5 1 r b.length (B8 b) ∧ Below w.heap.size w w' := by
  obtain ⟨i0, hi, hz0, hz1, hz2⟩ := elemB.hi
  obtain ⟨m, hm⟩ : ∃ m, m = (l.length + 7) / 8 := ⟨_, rfl⟩
  have hm1 : m ≤ 1000000 := by omega
  have HM := Lib.hid hm
  go_enter Try.func37, Try.ntmps37
  go_wp2_with fail
  refine (bytes_any l.length (by omega) _).mono ?_
  rintro e w1 ⟨rfl, rfl⟩
  rw [← hm]
  clear hm
  go_wp2_with (with_reducible refine At.slot 9 ?_)
  refine At.out (wpList_make_full w1 rfl (.tmp 8) (.tmp 8) 22 rfl w1.heap.size 5 i0 (.int .u8 0) 1 elemB.ht hi hz0 hz1 .i64 .i64 (m : Int) (m : Int) m rfl rfl rfl rfl (by rw [hz2]; omega) (by unfold maxLen; omega) (Nat.le_refl _) ?_)
  intro w2 ho1 hg1
  have hb1 : Below w1.heap.size w1 w2 := below_grown hg1 (Nat.le_refl _) (fun k h => by cases h)
  clear hg1 hi hz0 hz1 hz2
  rw [made8] at ho1
  go_wp2
  go_loopw [4, 5, 12] (fun _ _ s12 wr => ∃ (k : Nat) (b : List UInt8), k ≤ l.length ∧ s12 = .int .i64 k ∧ b.length = m ∧ PkTo l k b ∧ wr.ownsRow w1.heap.size 5 1 (.slice (some ⟨w1.heap.size, 0, none⟩) m m) m (B8 b) ∧ Below w1.heap.size w1 wr) (fun _ _ s12 _ => l.length - (intOf s12).toNat)
  case atStart =>
    refine ⟨0, List.replicate m 0, by omega, rfl, by simp, ?_, ho1, hb1⟩
    intro j h t ht
    simp
  case round =>
    clear ho1 hb1
    obtain ⟨k, b, hk, rfl, hbm, hpk, ho, hb⟩ := hrel
    have HB := Lib.hid hbm; clear hbm
    by_cases hlt : k < l.length
    · obtain ⟨b1, o1, rfl, hc1⟩ := hr.cs.bb k hlt
      have hki : (k : Int) < (l.length : Int) := by omega
      obtain ⟨v, hv⟩ : ∃ v, v = l[k] := ⟨_, rfl⟩
      rw [← hv] at hc1
      have HV := Lib.hid hv; clear hv
      have hc2 : wr.cell? ⟨b1, o1 + k, none⟩ = some (.bool v) := by
        rw [hb.cell (p := ⟨b1, o1 + k, none⟩) (World.block_lt_of_cell? w1 _ hc1)]; exact hc1
      cases v
      · go_wp2
        go_roundw
        case rel => exact ⟨k + 1, b, by omega, by go_num, HB.out, hpk.off hlt HV.out, ho, hb⟩
        case measure => simp [intOf]; omega
      · have hk8 : k / 8 < b.length := by have := HB.out; have := HM.out; omega
        have hcell := own_cell8n ho (k / 8) hk8
        have hfr := ho.frozenAt (k / 8)
        have h7 := and7 k (by omega)
        have hy := or_bit b[k / 8] (k % 8) (by omega)
        obtain ⟨y, hy, hyx⟩ := hy
        have hpk' := hpk.on hlt HV.out hk8 hyx
        obtain ⟨t, ht⟩ : ∃ t, t = k % 8 := ⟨_, rfl⟩
        rw [← ht] at h7 hy
        have ht8 : t < 8 := by omega
        have hk8m : (k : Int) / 8 < (m : Int) := by have := HB.out; omega
        obtain ⟨x, hx⟩ : ∃ x, x = b[k / 8] := ⟨_, rfl⟩
        rw [← hx] at hcell hy
        clear ht hx hyx
        have hset := own_set8n ho (k / 8) y
        have hb' := hb.setCell (p := ⟨w1.heap.size, k / 8, none⟩) (Nat.le_refl _) (.int .u8 (y.toNat : Int))
        clear hpk
        go_wp2
        go_region
        go_wp2
        go_roundw
        case rel => exact ⟨k + 1, b.set (k / 8) y, by omega, by go_num, by rw [List.length_set]; exact HB.out, hpk', hset.drew, hb'.drew⟩
        case measure => simp [intOf]; omega
    · obtain rfl : k = l.length := by omega
      go_wp2
      go_ret
      refine ⟨_, b, rfl, by rw [HB.out, HM.out], hpk, ?_, hb⟩
      rw [HB.out]
      exact ho

set_option maxRecDepth 100000 in
set_option maxHeartbeats 1000000 in
/-- The document's Pack. -/
theorem refPack_any (w : World) (a : Option Addr) (c : Nat) (l : List Bool) (hr : Rd w a c (BB l)) (hl : l.length ≤ 1000000) :
    Calls Try.prog 38 #[.slice a l.length c] w fun e w' => ∃ r b, e = .returned r ∧ b.length = (l.length + 7) / 8 ∧ PkTo l l.length b ∧ w'.ownsRow w.heap.size 5 1 r b.length (B8 b) ∧ Below w.heap.size w w' := by
  go_enter Try.func38, Try.ntmps38
  go_wp2
  go_loopw [3, 4] (fun s3 s4 wr => ∃ (k : Nat) (b : List UInt8), k ≤ l.length ∧ s4 = .int .i64 k ∧ b.length = (k + 7) / 8 ∧ PkTo l k b ∧ wr.ownsRow w.heap.size 5 1 s3 b.length (B8 b) ∧ Below w.heap.size w wr) (fun _ s4 _ => l.length - (intOf s4).toNat)
  case atStart => exact ⟨0, [], by omega, rfl, rfl, fun j h => by simp at h, World.ownsRow_nil _ _ _ _, Below.refl _ _⟩
  case round =>
    obtain ⟨k, b, hk, rfl, hbm, hpk, ho, hb⟩ := hrel
    have HB := Lib.hid hbm; clear hbm
    by_cases hlt : k < l.length
    · obtain ⟨b1, o1, rfl, hc1⟩ := hr.cs.bb k hlt
      have hki : (k : Int) < (l.length : Int) := by omega
      obtain ⟨v, hv⟩ : ∃ v, v = l[k] := ⟨_, rfl⟩
      rw [← hv] at hc1
      have HV := Lib.hid hv; clear hv
      obtain ⟨t, ht⟩ : ∃ t, t = k % 8 := ⟨_, rfl⟩
      have ht8 : t < 8 := by omega
      have e8 : (k : Int) % 8 = (t : Int) := by omega
      have HT := Lib.hid ht; clear ht
      by_cases h0 : t = 0
      · have h0' : ((t : Int) == 0) = true := by rw [h0]; rfl
        clear h0
        have hbl6 : b.length ≤ 1000000 := by have := HB.out; omega
        go_wp2_with (with_reducible refine At.slot 16 ?_)
        refine At.out (wpList_app rfl (.tmp 14) (.tmp 15) 22 rfl elemB rfl w.heap.size _ b.length _ rfl (ho.alloc _) _ 1 1 [.int .u8 0] rfl rfl (Rd.one _ _ _) (one_int _ _) (by unfold maxLen; omega) (by omega) (by have := hb.size; simp; omega) ?_)
        intro v1 w2 ho2 hb2 _
        have hb3 := (hb.alloc hb.size (.cells #[.int .u8 0] 5)).trans hb2
        have ho3 : w2.ownsRow w.heap.size 5 1 v1 (b ++ [0]).length (B8 (b ++ [0])) := by
          rw [B8_append, List.length_append]; exact ho2
        have hk8 : k / 8 < (b ++ [0]).length := by have := HB.out; simp; omega
        have hbl : (b ++ [0]).length = (k + 1 + 7) / 8 := by have := HB.out; have := HT.out; simp; have h0 : t = 0 := by simpa using h0'
                                                             omega
        have hpk1 := hpk.more (by have := HB.out; omega)
        have hbn : (b ++ [0]).length = b.length + 1 := by simp
        have HBN := Lib.hid hbn; clear hbn
        obtain ⟨b', hb'⟩ : ∃ b', b' = b ++ [0] := ⟨_, rfl⟩
        rw [← hb'] at hbl hk8 ho3 hpk1
        have HBL := Lib.hid hbl; clear hbl
        have hc2 : w2.cell? ⟨b1, o1 + k, none⟩ = some (.bool v) := by
          rw [hb3.cell (p := ⟨b1, o1 + k, none⟩) (World.block_lt_of_cell? w _ hc1)]; exact hc1
        have hbl7 : 1 ≤ b'.length ∧ b'.length ≤ 1000001 := by rw [hb', HBN.out]; omega
        obtain ⟨hbl7, hbl8⟩ := hbl7
        clear hb' hb2 hb ho ho2 hpk HBN
        cases v
        · go_wp2
          go_roundw
          case rel => exact ⟨k + 1, b', by omega, by go_num, HBL.out, hpk1.off hlt HV.out, ho3, hb3⟩
          case measure => simp [intOf]; omega
        · obtain ⟨g, cap, rfl, hg1, hg2, hg3, hg4⟩ := own_pos ho3 (by omega)
          have hcell := own_cell8n ho3 (k / 8) hk8
          have hfr := ho3.frozenAt (k / 8)
          have hy := or_bit b'[k / 8] (k % 8) (by omega)
          obtain ⟨y, hy, hyx⟩ := hy
          have hpk' := hpk1.on hlt HV.out hk8 hyx
          rw [← HT.out] at hy
          have hk8m : (k : Int) / 8 < (b'.length : Int) := by omega
          obtain ⟨x, hx⟩ : ∃ x, x = b'[k / 8] := ⟨_, rfl⟩
          rw [← hx] at hcell hy
          clear hx hyx
          have hset := own_set8n ho3 (k / 8) y
          have hb' := hb3.setCell (p := ⟨g, k / 8, none⟩) hg1 (.int .u8 (y.toNat : Int))
          clear hpk1
          go_wp2
          go_roundw
          case rel => exact ⟨k + 1, b'.set (k / 8) y, by omega, by go_num, by rw [List.length_set]; exact HBL.out, hpk', by rw [List.length_set]; exact hset, hb'⟩
          case measure => simp [intOf]; omega
      · have h0' : ((t : Int) == 0) = false := by rw [beq_eq_false_iff_ne]; omega
        have hk8 : k / 8 < b.length := by have := HB.out; have := HT.out; omega
        have hbl : b.length = (k + 1 + 7) / 8 := by have := HB.out; have := HT.out; omega
        have HBL := Lib.hid hbl; clear hbl
        have hc2 : wr.cell? ⟨b1, o1 + k, none⟩ = some (.bool v) := by
          rw [hb.cell (p := ⟨b1, o1 + k, none⟩) (World.block_lt_of_cell? w _ hc1)]; exact hc1
        clear h0
        cases v
        · go_wp2
          go_roundw
          case rel => exact ⟨k + 1, b, by omega, by go_num, HBL.out, hpk.off hlt HV.out, ho, hb⟩
          case measure => simp [intOf]; omega
        · obtain ⟨g, cap, rfl, hg1, hg2, hg3, hg4⟩ := own_pos ho (by omega)
          have hcell := own_cell8n ho (k / 8) hk8
          have hfr := ho.frozenAt (k / 8)
          have hy := or_bit b[k / 8] (k % 8) (by omega)
          obtain ⟨y, hy, hyx⟩ := hy
          have hpk' := hpk.on hlt HV.out hk8 hyx
          rw [← HT.out] at hy
          have hk8m : (k : Int) / 8 < (b.length : Int) := by omega
          obtain ⟨x, hx⟩ : ∃ x, x = b[k / 8] := ⟨_, rfl⟩
          rw [← hx] at hcell hy
          clear hx hyx
          have hset := own_set8n ho (k / 8) y
          have hb' := hb.setCell (p := ⟨g, k / 8, none⟩) hg1 (.int .u8 (y.toNat : Int))
          clear hpk
          go_wp2
          go_roundw
          case rel => exact ⟨k + 1, b.set (k / 8) y, by omega, by go_num, by rw [List.length_set]; exact HBL.out, hpk', by rw [List.length_set]; exact hset, hb'⟩
          case measure => simp [intOf]; omega
    · obtain rfl : k = l.length := by omega
      go_wp2
      go_ret
      exact ⟨_, b, rfl, HB.out, hpk, ho, hb⟩
end Go.Proofs.Ytelmjcalacdncaa
