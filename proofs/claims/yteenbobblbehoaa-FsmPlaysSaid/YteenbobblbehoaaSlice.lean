/- x[lo:hi] of a slice of one-cell elements: laws of the walk. Conditions: each law's own premises. -/
import Derived.Test.YteenbobblbehoaaMem
import Derived.Deep.RegionHeld3
import Derived.Laws.OwnMore
namespace Go.Proofs.Yteenbobblbehoaa
open Go Go.RowKit

/-- What a part of a slice reads as: its address lies in the same block. -/
def Part (w : World) (ad ad' : Option Addr) (c : Nat) (xs : List Value) : Prop := Rd w ad' c xs ∧ (ad = none → ad' = none) ∧ ∀ b o, ad = some ⟨b, o, none⟩ → ∃ o', ad' = some ⟨b, o', none⟩

theorem part_mk {w : World} {ad : Option Addr} {c : Nat} {xs : List Value} (hr : Rd w ad c xs) (l h : Nat) (h1 : l ≤ h) (h2 : h ≤ xs.length) :
    ∃ ad', sliced ad l h c 1 = .slice ad' (h - l) (c - l) ∧ Part w ad ad' (c - l) ((xs.drop l).take (h - l)) := by
  have hle := hr.1
  by_cases hc : c = l
  · refine ⟨ad, by unfold sliced; rw [if_pos hc], ⟨?_, fun h => h, fun b o h => ⟨o, h⟩⟩⟩
    have e : (xs.drop l).take (h - l) = [] := by
      apply List.eq_nil_of_length_eq_zero
      rw [List.length_take]; omega
    rw [e]
    exact ⟨by simp, by have := hr.2.1; omega, fun h => by omega, Cs.nil _ _⟩
  · refine ⟨ad.map (·.add (l * 1)), by unfold sliced; rw [if_neg hc], ⟨?_, fun h => by rw [h]; rfl, fun b o h => ⟨o + l * 1, by rw [h]; simp [Addr.add_lit]⟩⟩⟩
    refine ⟨by rw [List.length_take, List.length_drop]; omega, by have := hr.2.1; omega, ?_, ?_⟩
    · intro h
      have := hr.2.2.1 (by cases ad with | none => rfl | some a => simp at h)
      omega
    · intro j u hu
      rw [List.getElem?_take] at hu
      split at hu
      · rw [List.getElem?_drop] at hu
        obtain ⟨b, o, rfl, hcell⟩ := hr.cs (l + j) u hu
        exact ⟨b, o + l * 1, by simp [Addr.add_lit], by rw [Nat.mul_one, Nat.add_assoc]; exact hcell⟩
      · simp at hu

section
variable {P : Program} {t e : TypeId} {z : Value} {bytes : Nat} (T : ElemT P t e 1 z bytes) (w : World) (ad : Option Addr) (n c : Nat)
include T
theorem elemT_elem : P.elem t = e := by simp [Program.elem, T.ht]
theorem elemT_under : P.underlying t = some (.slice (P.elem t)) := by rw [elemT_elem T]; exact T.ht
theorem elemT_size : (sizeOf (P.elem t)).run P w = .ok 1 w := by
  obtain ⟨i, hi, hz, hs, hb⟩ := T.hi
  rw [elemT_elem T]
  simp [sizeOf, typeInfo, hi, hs, Sem.run_bind]
theorem run_part_lh (kl kh : IntKind) (l h : Nat) (h1 : l ≤ h) (h2 : h ≤ c) :
    (Instr.sliceAt t (.slice ad n c) (some (.int kl (l : Int))) (some (.int kh (h : Int))) none).run P w = .ok (sliced ad l h c 1) w := by
  rw [run_sliceAt_slice _ _ _ _ _ _ (elemT_under T), run_slice_lh w t ad n c (elemT_under T) kl kh l h (by omega) (by omega) (by omega), elemT_size T]
  rfl
theorem run_part_h (kh : IntKind) (h : Nat) (h2 : h ≤ c) :
    (Instr.sliceAt t (.slice ad n c) none (some (.int kh (h : Int))) none).run P w = .ok (sliced ad 0 h c 1) w := by
  rw [run_sliceAt_slice _ _ _ _ _ _ (elemT_under T), run_slice_h w t ad n c (elemT_under T) kh h (by omega) (by omega), elemT_size T]
  rfl
theorem run_part_l (kl : IntKind) (l : Nat) (h2 : l ≤ n) :
    (Instr.sliceAt t (.slice ad n c) (some (.int kl (l : Int))) none none).run P w = .ok (sliced ad l n c 1) w := by
  rw [run_sliceAt_slice _ _ _ _ _ _ (elemT_under T), run_slice_l w t ad n c (elemT_under T) kl l (by omega) (by omega), elemT_size T]
  rfl
end

section
variable {P : Program} {w : World} {ops : Array Oper} {rest : List Oper} {o : Oper} {a : Act} {Q : Exit → Act → World → Prop} {t e : TypeId} {z : Value} {bytes : Nat}
/-- 'x[l:h]' -/
theorem wpList_lh (hgd : o.guard = none) (x lo hi : Operand) (ho : o.op = .slice t x (some lo) (some hi) none) (T : ElemT P t e 1 z bytes)
    (ad : Option Addr) (n c : Nat) (xs : List Value) (hx : a.eval x = .slice ad n c) (hr : Rd w ad c xs)
    (kl kh : IntKind) (l h : Nat) (hl : a.eval lo = .int kl (l : Int)) (hh : a.eval hi = .int kh (h : Int)) (h1 : l ≤ h) (h2 : h ≤ xs.length)
    (K : ∀ ad', Part w ad ad' (c - l) ((xs.drop l).take (h - l)) → wpList P ops Q rest (a.put o.dst (.slice ad' (h - l) (c - l))) w) : wpList P ops Q (o :: rest) a w := by
  refine wpList_plain hgd fun _ hK => ?_
  obtain ⟨ad', hs, hp⟩ := part_mk hr l h h1 h2
  unfold Oper.wp execOp
  simp only [ho, hx, Option.map_some, Option.map_none, hl, hh, Sem.run_bind, run_part_lh T w ad n c kl kh l h h1 (Nat.le_trans h2 hr.1), Sem.run_pure, Result.andThen_ok, hs]
  exact hK _ _ (K ad' hp)
/-- 'x[l:h]' where the address is known and l is not the capacity. -/
theorem wpList_lhA (hgd : o.guard = none) (x lo hi : Operand) (ho : o.op = .slice t x (some lo) (some hi) none) (T : ElemT P t e 1 z bytes)
    (b of : Nat) (n c : Nat) (hx : a.eval x = .slice (some ⟨b, of, none⟩) n c)
    (kl kh : IntKind) (l h : Nat) (hl : a.eval lo = .int kl (l : Int)) (hh : a.eval hi = .int kh (h : Int)) (h1 : l ≤ h) (h2 : h ≤ c) (hne : c ≠ l)
    (K : wpList P ops Q rest (a.put o.dst (.slice (some ⟨b, of + l, none⟩) (h - l) (c - l))) w) : wpList P ops Q (o :: rest) a w := by
  refine wpList_plain hgd fun _ hK => ?_
  have hs : sliced (some ⟨b, of, none⟩) l h c 1 = .slice (some ⟨b, of + l, none⟩) (h - l) (c - l) := by
    unfold sliced; rw [if_neg hne]; simp [Addr.add_lit]
  unfold Oper.wp execOp
  simp only [ho, hx, Option.map_some, Option.map_none, hl, hh, Sem.run_bind, run_part_lh T w _ n c kl kh l h h1 h2, Sem.run_pure, Result.andThen_ok, hs]
  exact hK _ _ K
/-- 'x[:h]' -/
theorem wpList_ph (hgd : o.guard = none) (x hi : Operand) (ho : o.op = .slice t x none (some hi) none) (T : ElemT P t e 1 z bytes)
    (ad : Option Addr) (n c : Nat) (xs : List Value) (hx : a.eval x = .slice ad n c) (hr : Rd w ad c xs)
    (kh : IntKind) (h : Nat) (hh : a.eval hi = .int kh (h : Int)) (h2 : h ≤ xs.length)
    (K : ∀ ad', Part w ad ad' c (xs.take h) → wpList P ops Q rest (a.put o.dst (.slice ad' h c)) w) : wpList P ops Q (o :: rest) a w := by
  refine wpList_plain hgd fun _ hK => ?_
  obtain ⟨ad', hs, hp⟩ := part_mk hr 0 h (Nat.zero_le _) h2
  unfold Oper.wp execOp
  simp only [ho, hx, Option.map_some, Option.map_none, hh, Sem.run_bind, run_part_h T w ad n c kh h (Nat.le_trans h2 hr.1), Sem.run_pure, Result.andThen_ok, hs]
  exact hK _ _ (K ad' hp)
/-- 'x[l:]' -/
theorem wpList_pl (hgd : o.guard = none) (x lo : Operand) (ho : o.op = .slice t x (some lo) none none) (T : ElemT P t e 1 z bytes)
    (ad : Option Addr) (n c : Nat) (xs : List Value) (hx : a.eval x = .slice ad n c) (hn : n = xs.length) (hr : Rd w ad c xs)
    (kl : IntKind) (l : Nat) (hl : a.eval lo = .int kl (l : Int)) (h2 : l ≤ xs.length)
    (K : ∀ ad', Part w ad ad' (c - l) (xs.drop l) → wpList P ops Q rest (a.put o.dst (.slice ad' (n - l) (c - l))) w) : wpList P ops Q (o :: rest) a w := by
  refine wpList_plain hgd fun _ hK => ?_
  obtain ⟨ad', hs, hp⟩ := part_mk hr l n (by omega) (by omega)
  unfold Oper.wp execOp
  simp only [ho, hx, Option.map_some, Option.map_none, hl, Sem.run_bind, run_part_l T w ad n c kl l (by omega), Sem.run_pure, Result.andThen_ok, hs]
  rw [List.take_of_length_le (by rw [List.length_drop]; omega)] at hp
  exact hK _ _ (K ad' hp)
end

/-- A step of a region that draws its order, held at the operation that writes slot k: 'with_reducible refine StepAt 14 ?_'. -/
theorem StepAt {P : Program} {ops : Array Oper} {a : Act} {w : World} {K : Act → World → Prop} {Q : Exit → Act → World → Prop} {E : Prop} (k : Nat) {op : Op} {ty : TypeId} {pos : String} {after : Array Edge} {g : Option (Nat × Bool)}
    (h : At (if Region.wanted ⟨some k, op, ty, pos, after, g⟩ (yielded ops a.tmps) = true then Oper.wp P ⟨some k, op, ty, pos, after, g⟩ a w K Q else E)) : if Region.wanted ⟨some k, op, ty, pos, after, g⟩ (yielded ops a.tmps) = true then Oper.wp P ⟨some k, op, ty, pos, after, g⟩ a w K Q else E := h
/-- append onto what is owned, of whatever reads: one-cell elements; at one operation. -/
theorem wp_app {P : Program} {o : Oper} {a : Act} {w : World} {K : Act → World → Prop} {Q : Exit → Act → World → Prop} {e : TypeId} {z : Value} {bytes : Nat}
    (s x : Operand) (t : TypeId)
    (ho : o.op = .call { callee := .builtin .append, args := #[s, x], argTypes := #[t, t] })
    (T : ElemT P t e 1 z bytes) (hz1 : z.cells.size = 1)
    (base : Nat) (v : Value) (n : Nat) (xs : List Value) (hs : a.eval s = v) (hown : w.ownsRow base e 1 v n xs)
    (ad : Option Addr) (m c : Nat) (news : List Value) (hx : a.eval x = .slice ad m c) (hm : m = news.length) (hr : Rd w ad c news) (h1 : ∀ u ∈ news, u.oneCell' = true)
    (h63 : n + m ≤ maxLen) (hbytes : (n + m) * bytes ≤ 140737488355328) (hbase : base ≤ w.heap.size)
    (h : ∀ v' w', w'.ownsRow base e 1 v' (n + m) (xs ++ news) → Below base w w' → K (a.put o.dst v') w') : Oper.wp P o a w K Q := by
  obtain ⟨i, hi, hz, hsz, hby⟩ := T.hi
  cases ad with
  | none =>
    have hc0 := hr.2.2.1 rfl
    have hl := hr.1
    have hnews : news = [] := List.eq_nil_of_length_eq_zero (by omega)
    subst hnews
    subst hm
    subst hc0
    have hrun := run_append_owned_none (P := P) (w := w) base t o.type e i 1 T.ht hi v n xs hown
    have hx' : a.eval x = .slice none 0 0 := hx
    unfold Oper.wp
    simp [execOp, ho, resolve, invoke, builtin, hs, hx', hrun, Result.andThen]
    exact h v w (by simpa using hown) (Below.refl _ _)
  | some ad =>
    refine wp_append_own w s x t ho base e i z 1 bytes T.ht hi hz hsz hby hz1 (by omega) v n xs hs hown ad m c news hx (by omega) ?_ h1 h63 hbytes hbase ?_
    · intro j u hu
      obtain ⟨b, of, hab, hc⟩ := hr.cs j u hu
      obtain rfl := Option.some.inj hab
      rw [Addr.add_lit]
      exact hc
    · intro v' w' ho' hg _
      exact h v' w' ho' (below_grown hg hbase (fun k hk => (hown.lt k hk).1))
/-- .. at a step of a region that draws its order. -/
theorem step_app {P : Program} {ops : Array Oper} {o : Oper} {a : Act} {w : World} {K : Act → World → Prop} {Q : Exit → Act → World → Prop} {E : Prop} {e : TypeId} {z : Value} {bytes : Nat}
    (hgd : o.guard = none) (s x : Operand) (t : TypeId)
    (ho : o.op = .call { callee := .builtin .append, args := #[s, x], argTypes := #[t, t] })
    (T : ElemT P t e 1 z bytes) (hz1 : z.cells.size = 1)
    (base : Nat) (v : Value) (n : Nat) (xs : List Value) (hs : a.eval s = v) (hown : w.ownsRow base e 1 v n xs)
    (ad : Option Addr) (m c : Nat) (news : List Value) (hx : a.eval x = .slice ad m c) (hm : m = news.length) (hr : Rd w ad c news) (h1 : ∀ u ∈ news, u.oneCell' = true)
    (h63 : n + m ≤ maxLen) (hbytes : (n + m) * bytes ≤ 140737488355328) (hbase : base ≤ w.heap.size)
    (h : ∀ v' w', w'.ownsRow base e 1 v' (n + m) (xs ++ news) → Below base w w' → K (a.put o.dst v') w') :
    if Region.wanted o (yielded ops a.tmps) = true then Oper.wp P o a w K Q else E := by
  have hw : Region.wanted o (yielded ops a.tmps) = true := by simp [Region.wanted, hgd]
  rw [if_pos hw]
  exact wp_app s x t ho T hz1 base v n xs hs hown ad m c news hx hm hr h1 h63 hbytes hbase h

theorem B8_drop (l : List UInt8) (k : Nat) : B8 (l.drop k) = (B8 l).drop k := by simp [B8]
theorem B8_take (l : List UInt8) (k : Nat) : B8 (l.take k) = (B8 l).take k := by simp [B8]
theorem Part.rd {w : World} {ad ad' : Option Addr} {c : Nat} {xs : List Value} (h : Part w ad ad' c xs) : Rd w ad' c xs := h.1
theorem Rd.take8 {w : World} {a : Option Addr} {c : Nat} {l : List UInt8} (h : Rd w a c (B8 l)) (k : Nat) : Rd w a c (B8 (l.take k)) := by
  rw [B8_take]; exact h.take k
theorem rd8_drop {w : World} {b o c : Nat} {l : List UInt8} (h : Rd w (some ⟨b, o, none⟩) c (B8 l)) (k : Nat) (hk : k ≤ l.length) : Rd w (some ⟨b, o + k, none⟩) (c - k) (B8 (l.drop k)) := by
  obtain ⟨h1, h2, h3, h4⟩ := h
  rw [B8_length] at h1
  refine ⟨by rw [B8_length, List.length_drop]; omega, by omega, fun h => by simp at h, ?_⟩
  intro j u hu
  rw [B8_drop, List.getElem?_drop] at hu
  obtain ⟨b', o', hab, hc⟩ := h4 (k + j) u hu
  simp only [Option.some.injEq, Addr.mk.injEq, and_true] at hab
  obtain ⟨rfl, rfl⟩ := hab
  exact ⟨_, _, rfl, by rw [Nat.add_assoc]; exact hc⟩
end Go.Proofs.Yteenbobblbehoaa
