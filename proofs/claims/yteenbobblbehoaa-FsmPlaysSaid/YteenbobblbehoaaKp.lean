/- What a call leaves as it was: all blocks but some. What a part of a slice is, at whatever world. Conditions: none. -/
import Derived.Test.YteenbobblbehoaaSlice
import Derived.Test.YteenbobblbehoaaBlkV
namespace Go.Proofs.Yteenbobblbehoaa
open Go Go.RowKit

/-- Every block known but those in S is as it was. -/
structure Kp (S : Nat → Prop) (w w' : World) : Prop where
  os : w'.os = w.os
  tape : w'.tape = w.tape
  output : w'.output = w.output
  size : w.heap.size ≤ w'.heap.size
  block : ∀ k, k < w.heap.size → ¬ S k → w'.heap[k]? = w.heap[k]?
theorem Kp.refl (S : Nat → Prop) (w : World) : Kp S w w := ⟨rfl, rfl, rfl, Nat.le_refl _, fun _ _ _ => rfl⟩
theorem Kp.trans {S : Nat → Prop} {a b c : World} (h : Kp S a b) (k : Kp S b c) : Kp S a c :=
  ⟨k.os.trans h.os, k.tape.trans h.tape, k.output.trans h.output, Nat.le_trans h.size k.size, fun i hi hs => (k.block i (Nat.lt_of_lt_of_le hi h.size) hs).trans (h.block i hi hs)⟩
theorem Kp.mono {S T : Nat → Prop} {a b : World} (h : Kp S a b) (hst : ∀ k, S k → T k) : Kp T a b := ⟨h.os, h.tape, h.output, h.size, fun k hk hs => h.block k hk (fun h => hs (hst k h))⟩
theorem Kp.ofBelow {S : Nat → Prop} {a b : World} {B : Nat} (h : Below B a b) (hB : ∀ k, k < a.heap.size → ¬ S k → k < B) : Kp S a b := ⟨h.os, h.tape, h.output, h.size, fun k hk hs => h.block k (hB k hk hs)⟩
theorem Kp.fresh {S : Nat → Prop} {a b : World} (h : Below a.heap.size a b) : Kp S a b := .ofBelow h fun _ hk _ => hk
theorem Kp.below {S : Nat → Prop} {a b : World} {B : Nat} (h : Kp S a b) (hB : ∀ k, S k → B ≤ k) (hsz : B ≤ a.heap.size) : Below B a b :=
  ⟨h.os, h.tape, h.output, h.size, fun k hk => h.block k (by omega) (fun hs => by have := hB k hs; omega)⟩
theorem Kp.cell {S : Nat → Prop} {a b : World} (h : Kp S a b) {k : Nat} (hk : k < a.heap.size) (hs : ¬ S k) (o : Nat) : b.cell? ⟨k, o, none⟩ = a.cell? ⟨k, o, none⟩ := World.cell?_of_block (h.block k hk hs)
theorem Kp.setCell {S : Nat → Prop} {a b : World} (h : Kp S a b) {g : Nat} (hs : S g) (o : Nat) (v : Value) : Kp S a (b.setCell ⟨g, o, none⟩ v) :=
  ⟨h.os, h.tape, h.output, by simpa using h.size, fun k hk hn => by
    rw [Below.heap_setCell b ⟨g, o, none⟩ v k (by rintro rfl; exact hn hs)]; exact h.block k hk hn⟩
theorem Kp.blkV {S : Nat → Prop} {a b : World} (h : Kp S a b) {g : Nat} {t : TypeId} {cs : Array Value} (hb : BlkV a g t cs) (hs : ¬ S g) : BlkV b g t cs := by
  unfold BlkV at hb ⊢
  rw [h.block g (Array.getElem?_eq_some_iff.1 hb).1 hs]; exact hb

theorem own_kp {S : Nat → Prop} {a b : World} {base : Nat} {e : TypeId} {sz : Nat} {v : Value} {n : Nat} {xs : List Value} (ho : a.ownsRow base e sz v n xs) (h : Kp S a b) (hs : ∀ k, S k → k < base) : b.ownsRow base e sz v n xs := by
  refine ⟨ho.1, ?_⟩
  rcases ho.2 with h' | ⟨g, cap, cur, hv, hg, hh, r⟩
  · exact .inl h'
  · refine .inr ⟨g, cap, cur, hv, hg, ?_, r⟩
    rw [h.block g (Array.getElem?_eq_some_iff.1 hh).1 (fun h => by have := hs g h; omega)]
    exact hh

/-- A slice that is a part of another one, at whatever world. -/
def Sub (a : Option Addr) (c : Nat) (xs : List Value) (a' : Option Addr) (c' : Nat) (ys : List Value) : Prop := ∀ W, Rd W a c xs → Rd W a' c' ys
theorem Sub.refl (a : Option Addr) (c : Nat) (xs : List Value) : Sub a c xs a c xs := fun _ h => h
theorem Sub.trans {a : Option Addr} {c : Nat} {xs : List Value} {a' : Option Addr} {c' : Nat} {ys : List Value} {a'' : Option Addr} {c'' : Nat} {zs : List Value} (h : Sub a c xs a' c' ys) (k : Sub a' c' ys a'' c'' zs) : Sub a c xs a'' c'' zs := fun W hw => k W (h W hw)
/-- The address of a part. -/
def partA (a : Option Addr) (c l : Nat) : Option Addr := if c = l then a else a.map (·.add (l * 1))
theorem sliced_partA (a : Option Addr) (l h c : Nat) : sliced a l h c 1 = .slice (partA a c l) (h - l) (c - l) := by
  unfold sliced partA
  by_cases hc : c = l
  · simp only [if_pos hc]
  · simp only [if_neg hc]
theorem sub_part (a : Option Addr) (c : Nat) (xs : List Value) (l h : Nat) (h1 : l ≤ h) (h2 : h ≤ xs.length) : Sub a c xs (partA a c l) (c - l) ((xs.drop l).take (h - l)) := by
  intro W hW
  obtain ⟨ad', he, hp⟩ := part_mk hW l h h1 h2
  rw [sliced_partA] at he
  cases he
  exact hp.1
theorem sub_drop (a : Option Addr) (c : Nat) (xs : List Value) (l : Nat) (h2 : l ≤ xs.length) : Sub a c xs (partA a c l) (c - l) (xs.drop l) := by
  have := sub_part a c xs l xs.length h2 (Nat.le_refl _)
  rwa [List.take_of_length_le (by rw [List.length_drop]; omega)] at this

section
variable {P : Program} {w : World} {ops : Array Oper} {rest : List Oper} {o : Oper} {a : Act} {Q : Exit → Act → World → Prop} {t e : TypeId} {z : Value} {bytes : Nat}
/-- 'x[l:]', nothing asked of the world. -/
theorem wpList_plW (hgd : o.guard = none) (x lo : Operand) (ho : o.op = .slice t x (some lo) none none) (T : ElemT P t e 1 z bytes)
    (ad : Option Addr) (n c : Nat) (hx : a.eval x = .slice ad n c) (kl : IntKind) (l : Nat) (hl : a.eval lo = .int kl (l : Int)) (h2 : l ≤ n)
    (K : wpList P ops Q rest (a.put o.dst (.slice (partA ad c l) (n - l) (c - l))) w) : wpList P ops Q (o :: rest) a w := by
  refine wpList_plain hgd fun _ hK => ?_
  unfold Oper.wp execOp
  simp only [ho, hx, Option.map_some, Option.map_none, hl, Sem.run_bind, run_part_l T w ad n c kl l h2, Sem.run_pure, Result.andThen_ok, sliced_partA]
  exact hK _ _ K
/-- 'x[l:h]', nothing asked of the world. -/
theorem wpList_lhW (hgd : o.guard = none) (x lo hi : Operand) (ho : o.op = .slice t x (some lo) (some hi) none) (T : ElemT P t e 1 z bytes)
    (ad : Option Addr) (n c : Nat) (hx : a.eval x = .slice ad n c) (kl kh : IntKind) (l h : Nat) (hl : a.eval lo = .int kl (l : Int)) (hh : a.eval hi = .int kh (h : Int)) (h1 : l ≤ h) (h2 : h ≤ c)
    (K : wpList P ops Q rest (a.put o.dst (.slice (partA ad c l) (h - l) (c - l))) w) : wpList P ops Q (o :: rest) a w := by
  refine wpList_plain hgd fun _ hK => ?_
  unfold Oper.wp execOp
  simp only [ho, hx, Option.map_some, Option.map_none, hl, hh, Sem.run_bind, run_part_lh T w ad n c kl kh l h h1 h2, Sem.run_pure, Result.andThen_ok, sliced_partA]
  exact hK _ _ K
end
end Go.Proofs.Yteenbobblbehoaa
