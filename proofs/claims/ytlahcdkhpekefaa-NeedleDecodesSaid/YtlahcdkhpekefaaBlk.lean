/- Blocks of bytes that are known whole; copy into them. Conditions: each law's own premises. -/
import Derived.Test.YtlahcdkhpekefaaSlice
import Derived.Laws.Rows
import Derived.Laws.CopyOwn
import Derived.OwnWalk
namespace Go.Proofs.Ytlahcdkhpekefaa
open Go Go.RowKit

/-- A block of bytes that is known whole: 't' is its type. -/
def Blk (w : World) (g : Nat) (t : TypeId) (l : List UInt8) : Prop := w.heap[g]? = some (.cells (B8 l).toArray t (0, 0))
theorem Blk.below {w w' : World} {g : Nat} {t : TypeId} {l : List UInt8} (h : Blk w g t l) (hb : Below w.heap.size w w') : Blk w' g t l := by
  unfold Blk at h ⊢
  rw [hb.block g (Array.getElem?_eq_some_iff.1 h).1]; exact h
theorem Blk.lt {w : World} {g : Nat} {t : TypeId} {l : List UInt8} (h : Blk w g t l) : g < w.heap.size := (Array.getElem?_eq_some_iff.1 h).1
theorem Blk.at {w w' : World} {g B : Nat} {t : TypeId} {l : List UInt8} (h : Blk w g t l) (hb : Below B w w') (hg : g < B) : Blk w' g t l := by
  unfold Blk at h ⊢
  rw [hb.block g hg]; exact h
theorem Blk.rd {w : World} {g : Nat} {t : TypeId} {l : List UInt8} (h : Blk w g t l) (hl : l.length ≤ 9223372036854775807) : Rd w (some ⟨g, 0, none⟩) l.length (B8 l) := by
  refine ⟨Nat.le_of_eq (B8_length l), hl, fun h => by simp at h, ?_⟩
  intro j u hu
  refine ⟨g, 0, rfl, ?_⟩
  rw [Nat.zero_add, cell_of_row w g j _ t _ h]
  simpa using hu
/-- What is owned, as a block. -/
theorem Blk.ofOwn {w : World} {base : Nat} {e : TypeId} {g n cap : Nat} {l : List UInt8} (h : w.ownsRow base e 1 (.slice (some ⟨g, 0, none⟩) n cap) n (B8 l)) (hc : n = cap) : Blk w g e l := by
  rcases h.2 with ⟨h', _⟩ | ⟨g', cap', cur, hv, hb, hg, h1, h2, h3, h4⟩
  · simp at h'
  · simp only [Value.slice.injEq, Option.some.injEq, Addr.mk.injEq, and_true, true_and] at hv
    obtain ⟨rfl, rfl⟩ := hv
    unfold Blk
    rw [hg, ← h4, List.take_of_length_le (by simp; omega)]
theorem Blk.own {w : World} {g : Nat} {e : TypeId} {l : List UInt8} {base : Nat} (h : Blk w g e l) (hb : base ≤ g) (hl : l.length ≤ maxLen) : w.ownsRow base e 1 (.slice (some ⟨g, 0, none⟩) l.length l.length) l.length (B8 l) :=
  ⟨by rw [B8_length, Nat.mul_one], .inr ⟨g, l.length, (B8 l).toArray, rfl, hb, h, Nat.le_refl _, hl, by simp [B8_length], by rw [Nat.mul_one]; exact List.take_of_length_le (Nat.le_of_eq (B8_length l))⟩⟩

theorem B8_splice (l m : List UInt8) (k : Nat) : splice (B8 l) k (B8 m) = B8 (splice l k m) := by
  simp [splice, B8]
theorem B8_get? (l : List UInt8) (j : Nat) (v : Value) (h : (B8 l)[j]? = some v) : j < l.length := by
  have := (List.getElem?_eq_some_iff.1 h).1
  rwa [B8_length] at this

section
variable {P : Program} {o : Oper} {a : Act} {w : World} {Q : Exit → Act → World → Prop} {e : TypeId} {z : Value} {bytes : Nat}
theorem copy_src {w : World} {sp : Option Addr} {sc : Nat} {m : List UInt8} (hr : Rd w sp sc (B8 m)) (h0 : 0 < m.length) : ∃ ad, sp = some ad ∧ ∀ (j : Nat) v, (B8 m)[j]? = some v → w.cell? (ad.add j) = some v := by
  obtain ⟨b, o, rfl, _⟩ := hr.cs.b8 0 h0
  refine ⟨_, rfl, fun j v hv => ?_⟩
  obtain ⟨b', o', hab, hc⟩ := hr.cs j v hv
  simp only [Option.some.injEq, Addr.mk.injEq, and_true] at hab
  obtain ⟨rfl, rfl⟩ := hab
  rw [Addr.add_lit]; exact hc
/-- copy into a block that is known whole, of all that is to be copied. -/
theorem wpList_copyB {ops : Array Oper} {rest : List Oper} (hgd : o.guard = none) (d s : Operand) (dT sT : TypeId)
    (ho : o.op = .call { callee := .builtin .copy, args := #[d, s], argTypes := #[dT, sT] }) (T : ElemT P dT e 1 z bytes)
    (dp : Option Addr) (dLen dCap : Nat) (sp : Option Addr) (sLen sCap : Nat) (hd : a.eval d = .slice dp dLen dCap) (hs : a.eval s = .slice sp sLen sCap)
    (g off : Nat) (t : TypeId) (l m : List UInt8) (hg : Blk w g t l) (hr : Rd w sp sCap (B8 m)) (hm : sLen = m.length) (hml : m.length ≤ dLen) (hdp : 0 < m.length → dp = some ⟨g, off, none⟩) (hfit : off + m.length ≤ l.length) (B : Nat) (w0 : World) (hb : Below B w0 w) (hBg : B ≤ g)
    (h : ∀ w', Blk w' g t (splice l off m) → Below B w0 w' → wpList P ops Q rest (a.put o.dst (goInt sLen)) w') : wpList P ops Q (o :: rest) a w := by
  obtain ⟨i, hi, _, hsz, _⟩ := T.hi
  refine wpList_copy_splice hgd d s dT sT ho e T.ht (by rw [hi]; exact congrArg some hsz) dp sp dLen dCap sLen sCap hd hs g off (B8 l) t hg (B8 m) (by rw [B8_length, hm]; exact (Nat.min_eq_left hml).symm)
    (fun h0 => ⟨hdp (by rwa [B8_length] at h0), copy_src hr (by rwa [B8_length] at h0)⟩) (by rw [B8_length, B8_length]; exact hfit) (B8_one m) B w0 hb hBg ?_
  intro w' hg' hb'
  have hg'' := hg'.out
  rw [B8_splice] at hg''
  rw [B8_length, ← hm]
  exact h w' hg'' hb'
/-- .. at a step of a region that draws its order. -/
theorem step_copyB {ops : Array Oper} {K : Act → World → Prop} {E : Prop} (hgd : o.guard = none) (d s : Operand) (dT sT : TypeId)
    (ho : o.op = .call { callee := .builtin .copy, args := #[d, s], argTypes := #[dT, sT] }) (T : ElemT P dT e 1 z bytes)
    (dp : Option Addr) (dLen dCap : Nat) (sp : Option Addr) (sLen sCap : Nat) (hd : a.eval d = .slice dp dLen dCap) (hs : a.eval s = .slice sp sLen sCap)
    (g off : Nat) (t : TypeId) (l m : List UInt8) (hg : Blk w g t l) (hr : Rd w sp sCap (B8 m)) (hm : sLen = m.length) (hml : m.length ≤ dLen) (hdp : 0 < m.length → dp = some ⟨g, off, none⟩) (hfit : off + m.length ≤ l.length) (B : Nat) (w0 : World) (hb : Below B w0 w) (hBg : B ≤ g)
    (h : ∀ w', Blk w' g t (splice l off m) → Below B w0 w' → K (a.put o.dst (goInt sLen)) w') : if Region.wanted o (yielded ops a.tmps) = true then Oper.wp P o a w K Q else E := by
  obtain ⟨i, hi, _, hsz, _⟩ := T.hi
  refine step_copy_splice hgd d s dT sT ho e T.ht (by rw [hi]; exact congrArg some hsz) dp sp dLen dCap sLen sCap hd hs g off (B8 l) t hg (B8 m) (by rw [B8_length, hm]; exact (Nat.min_eq_left hml).symm)
    (fun h0 => ⟨hdp (by rwa [B8_length] at h0), copy_src hr (by rwa [B8_length] at h0)⟩) (by rw [B8_length, B8_length]; exact hfit) (B8_one m) B w0 hb hBg ?_
  intro w' hg' hb'
  have hg'' := hg'.out
  rw [B8_splice] at hg''
  rw [B8_length, ← hm]
  exact h w' hg'' hb'
end

/-- n bytes that are 0. -/
def zeroB (n : Nat) : List UInt8 := List.replicate n 0
theorem zeroB_length (n : Nat) : (zeroB n).length = n := by simp [zeroB]

/-- An array type of n bytes. -/
structure ArrT (P : Program) (t : TypeId) (n : Nat) : Prop where
  info : ∃ i, P.info? t = some i ∧ i.zero = some (.agg (B8 (zeroB n)).toArray) ∧ i.size = n
  under : ∃ e, P.underlying t = some (.array n e)

section
variable {P : Program} {w : World} {ops : Array Oper} {rest : List Oper} {o : Oper} {a : Act} {Q : Exit → Act → World → Prop} {t : TypeId} {n : Nat}
/-- A new array. -/
theorem wpList_alloc8 (hgd : o.guard = none) (dst : Option Tmp) (hdst : o.dst = dst) (ho : o.op = .alloc t) (T : ArrT P t n)
    (h : wpList P ops Q rest (a.put dst (.pointer (some ⟨w.heap.size, 0, none⟩))) (w.alloc (.cells (B8 (zeroB n)).toArray t))) : wpList P ops Q (o :: rest) a w := by
  subst hdst
  refine wpList_plain hgd fun K hK => ?_
  obtain ⟨i, hi, hz, hs⟩ := T.info
  have hrun : (Instr.alloc t true (.tuple #[])).run P w = .ok (.pointer (some ⟨w.heap.size, 0, none⟩)) (w.alloc (.cells (B8 (zeroB n)).toArray t)) := by
    simp [Instr.alloc, zeroValue, typeInfo, hi, hz, newVar, newRow, Value.cells]
  unfold Oper.wp execOp
  simp only [ho, Sem.run_bind, hrun, Sem.run_pure, Result.andThen_ok]
  exact hK _ _ h
/-- An array out of parts. -/
theorem wpList_build8 (hgd : o.guard = none) (dst : Option Tmp) (hdst : o.dst = dst) (parts : List (Nat × Operand)) (ho : o.op = .build t parts.toArray) (l : List UInt8)
    (hb : P.built t (parts.map fun p => (p.1, a.eval p.2)) = some (B8 l).toArray)
    (h : wpList P ops Q rest (a.put dst (.agg (B8 l).toArray)) w) : wpList P ops Q (o :: rest) a w := by
  subst hdst
  refine wpList_plain hgd fun K hK => ?_
  have hb' : P.built t ((parts.toArray.map fun (i, x) => (i, a.eval x)).toList) = some (B8 l).toArray := by rw [← hb]; simp
  unfold Oper.wp execOp
  simp only [ho, Sem.run_bind, run_build w t _ _ hb', Result.andThen_ok]
  exact hK _ _ h
/-- A whole array stored. -/
theorem wpList_store8 (hgd : o.guard = none) (dst : Option Tmp) (hdst : o.dst = dst) (x y : Operand) (ho : o.op = .store t x y) (T : ArrT P t n)
    (g : Nat) (l0 l : List UInt8) (hx : a.eval x = .pointer (some ⟨g, 0, none⟩)) (hy : a.eval y = .agg (B8 l).toArray) (hg : Blk w g t l0) (h0 : l0.length = n) (hl : l.length = n)
    (h : ∀ w', Blk w' g t l → (∀ B w0, Below B w0 w → B ≤ g → Below B w0 w') → w'.heap.size = w.heap.size → wpList P ops Q rest (a.put dst undef) w') : wpList P ops Q (o :: rest) a w := by
  subst hdst
  obtain ⟨i, hi, hz, hs⟩ := T.info
  refine wpList_store_row hgd t x y ho g (B8 l).toArray hx hy t (B8 l0).toArray hg (by rw [hi]; simp [B8_length, hs, hl]) (by simp [B8_length, h0, hl]) ?_ ?_
  · rw [Array.all_eq_true_iff_forall_mem]; intro u hu; exact B8_one l u (by simpa using hu)
  · exact h _ (setRow_heap w g _ _ t _ hg) (fun B w0 hb hB => below_setRow hb hB _) (setRow_size w g _)
/-- A whole array read. -/
theorem wpList_load8 (hgd : o.guard = none) (dst : Option Tmp) (hdst : o.dst = dst) (x : Operand) (ho : o.op = .load t x) (T : ArrT P t n)
    (g : Nat) (l : List UInt8) (hx : a.eval x = .pointer (some ⟨g, 0, none⟩)) (hg : Blk w g t l) (hl : l.length = n)
    (h : wpList P ops Q rest (a.put dst (.agg (B8 l).toArray)) w) : wpList P ops Q (o :: rest) a w := by
  subst hdst
  obtain ⟨i, hi, hz, hs⟩ := T.info
  obtain ⟨e, he⟩ := T.under
  exact wpList_load_row hgd t x ho g hx t (B8 l).toArray (0, 0) _ hg he rfl (by rw [hi]; simp [B8_length, hs, hl]) h
/-- make([]byte, n). -/
theorem wpList_makeB (hgd : o.guard = none) (l c : Operand) (t : TypeId) (hop : o.op = Op.makeSlice t l c) {e : TypeId} (T : ElemT P t e 1 (.int .u8 0) 1)
    (kl kc : IntKind) (L C : Int) (n : Nat) (hl : a.eval l = .int kl L) (hc : a.eval c = .int kc C) (hL : L = (n : Int)) (hC : C = (n : Int)) (hn : n ≤ 1000000000)
    (h : ∀ w', Blk w' w.heap.size e (zeroB n) → Below w.heap.size w w' → wpList P ops Q rest (a.put o.dst (.slice (some ⟨w.heap.size, 0, none⟩) n n)) w') : wpList P ops Q (o :: rest) a w := by
  obtain ⟨i, hi, hz, hs, hb⟩ := T.hi
  refine wpList_make_full w hgd l c t hop w.heap.size e i (.int .u8 0) 1 T.ht hi hz hs kl kc L C n hl hc hL hC (by rw [hb]; omega) (by unfold maxLen; omega) (Nat.le_refl _) ?_
  intro w' ho hg
  refine h w' ?_ (below_grown hg (Nat.le_refl _) (fun k h => by cases h))
  rw [made8] at ho
  exact Blk.ofOwn ho rfl
end
end Go.Proofs.Ytlahcdkhpekefaa
