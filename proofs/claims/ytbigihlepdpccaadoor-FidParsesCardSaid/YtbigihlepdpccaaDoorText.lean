/- fid's Text: the contract. Conditions: each contract's own premises. -/
import Derived.Test.YtbigihlepdpccaaDoorDec
import Derived.Deep.RegionWith
import Derived.Deep.RegionHeld3
namespace Go.Proofs.YtbigihlepdpccaaDoor
open Go Go.RowKit

def fidV (v : Int) (key : UInt64) (c : UInt32) : Value := .agg #[.int .i64 v, .int .u64 key.toNat, .int .u32 c.toNat]
/-- hex's digits, of a number in the model's form. -/
def HX (x : Nat) (l : Int) : List UInt8 := hexL x l.toNat
def HexOk (x : Nat) (l : Int) : Prop := x < 18446744073709551616 ∧ 1 ≤ l ∧ l ≤ 16
theorem HX_le (x : Nat) (l : Int) : (HX x l).length ≤ 16 := hexP_le x l.toNat 16
theorem hexI (x : Nat) (l : Int) (w : World) (h : HexOk x l) :
    Calls Tryd.prog 12 #[.int .u64 (x : Int), .int .i64 l] w fun e w' => e = .returned (.string ⟨(HX x l).toArray⟩) ∧ Below w.heap.size w w' := by
  obtain ⟨h1, h2, h3⟩ := h
  have := hex_any (UInt64.ofNat x) l.toNat (by omega) (by omega) w
  rw [UInt64.toNat_ofNat', Nat.mod_eq_of_lt (by omega), show ((l.toNat : Nat) : Int) = l from by omega] at this
  exact this
def textL (v : Nat) (key : UInt64) (c : UInt32) : List UInt8 := decL v ++ [44] ++ HX key.toNat 1 ++ [44] ++ HX c.toNat 8

theorem cell_kept {w w' : World} (hb : Below w.heap.size w w') {p : Addr} {u : Value} (h : w.cell? p = some u) : w'.cell? p = some u := by
  rw [hb.cell (World.block_lt_of_cell? w p h), h]
/-- What a drawn region with calls keeps of old memory. -/
theorem size_kept {B : Nat} {w w' : World} (hb : Below w.heap.size w w') (hs : B ≤ w.heap.size) : B ≤ w'.heap.size := Nat.le_trans hs hb.size
theorem below_kept {B : Nat} {w w' w0 : World} (hb : Below w.heap.size w w') (h : Below B w0 w) (hs : B ≤ w.heap.size) : Below B w0 w' := h.trans (hb.mono hs)
/-- .. three cells, and what was there. -/
theorem kept3 {B : Nat} {w0 w w' : World} {p1 p2 p3 : Addr} {u1 u2 u3 : Value} (hb : Below w.heap.size w w')
    (h : w.cell? p1 = some u1 ∧ w.cell? p2 = some u2 ∧ w.cell? p3 = some u3 ∧ Below B w0 w ∧ B ≤ w.heap.size) :
    w'.cell? p1 = some u1 ∧ w'.cell? p2 = some u2 ∧ w'.cell? p3 = some u3 ∧ Below B w0 w' ∧ B ≤ w'.heap.size :=
  ⟨cell_kept hb h.1, cell_kept hb h.2.1, cell_kept hb h.2.2.1, below_kept hb h.2.2.2.1 h.2.2.2.2, size_kept hb h.2.2.2.2⟩
theorem str_size (l : List UInt8) : (ByteArray.mk l.toArray).size = l.length := rfl
theorem decF_le : ∀ f n, (decF f n).length ≤ f
  | 0, _ => Nat.le_refl _
  | f + 1, n => by
    unfold decF
    split
    · simp
    · have := decF_le f (n / 10); simp; omega

set_option maxRecDepth 100000 in
set_option maxHeartbeats 2000000 in
theorem text_ok (v : Nat) (key : UInt64) (c : UInt32) (hv1 : 1 ≤ v) (hv2 : v ≤ 99999999) (hk : key.toNat ≠ 0) (w : World) :
    Calls Tryd.prog 6 #[fidV v key c] w fun e w' => e = .returned (.tuple #[.string ⟨(textL v key c).toArray⟩, .int .i64 0]) ∧ Below w.heap.size w w' := by
  unfold fidV
  have h1 : (1 : Int) ≤ v := by omega
  have h2 : (v : Int) ≤ 99999999 := by omega
  have h3 : ((key.toNat : Int) == 0) = false := by rw [beq_eq_false_iff_ne]; omega
  have hD := decimal_any v hv1 (by omega)
  have o1 : HexOk key.toNat 1 := ⟨key.toNat_lt, by decide, by decide⟩
  have o2 : HexOk c.toNat 8 := ⟨by have := c.toNat_lt; omega, by decide, by decide⟩
  have l1 : (decL v).length ≤ 20 := decF_le 20 v
  have l2 := HX_le key.toNat 1
  have l3 := HX_le c.toNat 8
  have hT : textL v key c = decL v ++ [44] ++ HX key.toNat 1 ++ [44] ++ HX c.toNat 8 := rfl
  obtain ⟨D, hDe⟩ : ∃ D, D = decL v := ⟨_, rfl⟩
  rw [← hDe] at hD hT l1
  have HT := Lib.hid hT
  clear hk hDe hT
  go_enter Tryd.func6, Tryd.ntmps6
  go_wp2
  obtain ⟨w0, hw0⟩ : ∃ w0, w0 = (w.alloc (Obj.cells #[Value.int IntKind.i64 ↑v, Value.int IntKind.u64 ↑key.toNat, Value.int IntKind.u32 ↑c.toNat] 25)) := ⟨_, rfl⟩
  rw [← hw0]
  have hS : w0.cell? ⟨w.heap.size, 0, none⟩ = some (.int .i64 v) ∧ w0.cell? ⟨w.heap.size, 1, none⟩ = some (.int .u64 key.toNat) ∧ w0.cell? ⟨w.heap.size, 2, none⟩ = some (.int .u32 c.toNat) ∧ Below w.heap.size w w0 ∧ w.heap.size ≤ w0.heap.size := by
    subst hw0
    refine ⟨?_, ?_, ?_, (Below.refl _ _).alloc (Nat.le_refl _) _, by simp⟩ <;> rw [World.cell?_alloc_mark] <;> rfl
  obtain ⟨hS1, hS2, hS3, hS4, hS5⟩ := hS
  clear hw0
  have hcw : IntKind.u64.wrap (c.toNat : Int) = (c.toNat : Int) := IntWalk.u64_in _ (by have := c.toNat_lt; omega)
  have hs1 : ¬ 9223372036854775807 < D.length + 1 := by omega
  have hs2 : ¬ 9223372036854775807 < D.length + 1 + (HX key.toNat 1).length := by omega
  have hs3 : ¬ 9223372036854775807 < D.length + 1 + (HX key.toNat 1).length + 1 := by omega
  have hs4 : ¬ 9223372036854775807 < D.length + 1 + (HX key.toNat 1).length + 1 + (HX c.toNat 8).length := by omega
  go_region_held3 (fun W => W.cell? ⟨w.heap.size, 0, none⟩ = some (.int .i64 v) ∧ W.cell? ⟨w.heap.size, 1, none⟩ = some (.int .u64 key.toNat) ∧ W.cell? ⟨w.heap.size, 2, none⟩ = some (.int .u32 c.toNat) ∧ Below w.heap.size w W ∧ w.heap.size ≤ W.heap.size)
    (first
      | exact ⟨hS1, hS2, hS3, hS4.drew, hS5⟩
      | exact kept3 (by assumption) (by assumption))
    (first
      | (go_at_call 11; refine (hD _).mono ?_; rintro e w1 ⟨rfl, hb1⟩)
      | (go_at_call 12; refine (hexI _ _ _ (by assumption)).mono ?_; rintro e w1 ⟨rfl, hb1⟩))
  go_wp2
  rename_i hH
  go_ret2
  refine ⟨?_, hH.2.2.2.1⟩
  have e : (ByteArray.mk D.toArray ++ ByteArray.mk #[44] ++ ByteArray.mk (HX key.toNat 1).toArray ++ ByteArray.mk #[44] ++ ByteArray.mk (HX c.toNat 8).toArray) = ByteArray.mk (textL v key c).toArray := by
    rw [HT.out]
    show (ByteArray.mk D.toArray ++ ByteArray.mk [44].toArray ++ ByteArray.mk (HX key.toNat 1).toArray ++ ByteArray.mk [44].toArray ++ ByteArray.mk (HX c.toNat 8).toArray) = _
    simp only [ByteArray.mk_append_mk]
  rw [← e]
  rfl

set_option maxRecDepth 100000 in
set_option maxHeartbeats 1000000 in
theorem text_bad (v : Int) (key : UInt64) (c : UInt32) (h : v < 1 ∨ 99999999 < v ∨ key.toNat = 0) (w : World) :
    Calls Tryd.prog 6 #[fidV v key c] w fun e w' => e = .returned (.tuple #[.string ⟨#[]⟩, .int .i64 1]) ∧ Below w.heap.size w w' := by
  unfold fidV
  have hb : ∀ o, Below w.heap.size w (w.alloc o) := fun o => (Below.refl _ _).alloc (Nat.le_refl _) o
  by_cases h1 : v < 1
  · clear h
    go_enter Tryd.func6, Tryd.ntmps6
    go_wp2
    go_ret2
    exact ⟨rfl, hb _⟩
  · by_cases h2 : 99999999 < v
    · clear h
      go_enter Tryd.func6, Tryd.ntmps6
      go_wp2
      go_ret2
      exact ⟨rfl, hb _⟩
    · have h3 : ((key.toNat : Int) == 0) = true := by rw [beq_iff_eq]; omega
      have h4 : (1 : Int) ≤ v := by omega
      have h5 : v ≤ 99999999 := by omega
      clear h h1 h2
      go_enter Tryd.func6, Tryd.ntmps6
      go_wp2
      go_ret2
      exact ⟨rfl, hb _⟩

theorem known15_L : (ByteArray.mk (textL 3 255 1).toArray) = ByteArray.mk #[51, 44, 102, 102, 44, 48, 48, 48, 48, 48, 48, 48, 49] := by
  have : textL 3 255 1 = [51, 44, 102, 102, 44, 48, 48, 48, 48, 48, 48, 48, 49] := by decide +kernel
  rw [this]
set_option maxRecDepth 100000 in
set_option maxHeartbeats 1000000 in
/-- The law's known. -/
theorem fidKnown_any (w : World) : Calls Tryd.prog 8 #[] w fun e w' => e = .returned (.bool true) ∧ Below w.heap.size w w' := by
  have h := text_ok 3 255 1 (by decide) (by decide) (by decide) w
  rw [known15_L] at h
  go_enter Tryd.func8, Tryd.ntmps8
  go_wp2_with fail
  refine h.mono ?_
  rintro e w1 ⟨rfl, hb⟩
  go_wp2
  go_ret
  exact ⟨rfl, hb⟩
end Go.Proofs.YtbigihlepdpccaaDoor
