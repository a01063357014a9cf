/- Plain: volumes never fall, and no file id is assigned twice. What the law FsmGrows keeps from round to round. Two pairs held against each other. Conditions: each law's own premises. -/
import Derived.Test.YteenbobblbehoaaFsmVt
import Derived.Test.YteenbobblbehoaaFsmMem
namespace Go.Proofs.Yteenbobblbehoaa
open Go Go.RowKit

/-- A volume, later. -/
def Ge (V U : Vl) : Prop := V.ep ≤ U.ep ∧ V.st ≤ U.st ∧ (V.ep = U.ep → shown V = shown U) ∧ V.key ≤ U.key
theorem Ge.refl (V : Vl) : Ge V V := ⟨Int.le_refl _, Int.le_refl _, fun _ => rfl, Int.le_refl _⟩
def GeL (L M : List Vl) : Prop := ∀ (i : Nat) (V : Vl), L[i]? = some V → ∃ U, M[i]? = some U ∧ Ge V U
theorem GeL.refl (L : List Vl) : GeL L L := fun _ V h => ⟨V, h, Ge.refl V⟩
theorem GeL.len {L M : List Vl} (h : GeL L M) : L.length ≤ M.length := by
  by_cases h0 : L.length = 0
  · omega
  · obtain ⟨U, hU, _⟩ := h (L.length - 1) _ (List.getElem?_eq_getElem (by omega))
    have := (List.getElem?_eq_some_iff.1 hU).1
    omega
theorem GeL.set {L : List Vl} {id : Int} {V U : Vl} (hV : ofL L id = some V) (h : Ge V U) : GeL L (setL L id U) := by
  obtain ⟨i, _, hVi, hi⟩ := ofL_some hV
  intro j W hW
  unfold setL
  rw [hi]
  by_cases hj : j = i
  · subst hj
    rw [hVi] at hW
    cases hW
    exact ⟨U, List.getElem?_set_self (List.getElem?_eq_some_iff.1 hVi).1, h⟩
  · exact ⟨W, by rw [List.getElem?_set_ne (Ne.symm hj)]; exact hW, Ge.refl W⟩
theorem opL_ge (L : List Vl) (kd : Int) (l : List Int) : GeL L (opL L kd l).2 := by
  unfold opL
  split
  · exact GeL.refl L
  split
  · unfold growL
    split
    · exact GeL.refl L
    split
    · exact GeL.refl L
    · exact fun i V hV => ⟨V, by rw [List.getElem?_append_left (List.getElem?_eq_some_iff.1 hV).1]; exact hV, Ge.refl V⟩
  split
  · unfold assignL
    split
    · exact GeL.refl L
    · rename_i V hV
      split
      · exact GeL.refl L
      split
      · exact GeL.refl L
      split
      · exact GeL.refl L
      · exact GeL.set hV ⟨Int.le_refl _, Int.le_refl _, fun _ => rfl, by show V.key ≤ V.key + 1; omega⟩
  split
  · exact GeL.refl L
  · unfold changeL
    split
    · exact GeL.refl L
    · rename_i V hV
      split
      · exact GeL.refl L
      split
      · exact GeL.refl L
      split
      · exact GeL.refl L
      rename_i hg
      split
      · exact GeL.refl L
      · have h1 : ¬ l.getD 2 0 < V.st := fun e => hg (.inl e)
        refine GeL.set hV ⟨by show V.ep ≤ V.ep + 1; omega, by show V.st ≤ l.getD 2 0; omega, fun h => ?_, Int.le_refl _⟩
        exfalso
        have h : V.ep = V.ep + 1 := h
        omega
theorem doL_ge (L : List Vl) (kd : Int) (l : List Int) : GeL L (doL L kd l).2 := by
  unfold doL
  split
  · exact GeL.refl L
  split
  · exact GeL.refl L
  split
  · exact opL_ge L kd l
  · exact GeL.refl L
/-- File ids that were given: each has a key below its volume's next one. -/
def Gv (L : List Vl) (g : List (Int × Int)) : Prop := ∀ p ∈ g, ∃ (i : Nat) (V : Vl), p.1 = (i : Int) + 1 ∧ L[i]? = some V ∧ p.2 < V.key
theorem Gv.ge {L M : List Vl} {g : List (Int × Int)} (h : Gv L g) (hM : GeL L M) : Gv M g := by
  intro p hp
  obtain ⟨i, V, h1, h2, h3⟩ := h p hp
  obtain ⟨U, hU, _, _, _, hk⟩ := hM i V h2
  exact ⟨i, U, h1, hU, by omega⟩
theorem doL_assign {L : List Vl} {l : List Int} {g : List (Int × Int)} (hg : Gv L g) (h : (doL L 3 l).1.2 = 0) : ∃ x y r s rest, (doL L 3 l).1.1 = x :: y :: r :: s :: rest ∧ (∀ p ∈ g, ¬ (p.1 = x ∧ p.2 = y)) ∧ Gv (doL L 3 l).2 (g ++ [(x, y)]) := by
  have hge := doL_ge L 3 l
  unfold doL at h hge ⊢
  rw [if_neg (by omega)] at h hge ⊢
  split at h
  · simp at h
  rename_i h64
  rw [if_neg h64] at hge ⊢
  split at h
  case isFalse => simp at h
  rename_i hm
  rw [if_pos hm] at hge ⊢
  have e : opL L 3 l = assignL L (l.getD 0 0) (l.getD 1 0) := rfl
  rw [e] at h hge ⊢
  unfold assignL at h hge ⊢
  split at h
  · simp at h
  rename_i V hV
  rw [hV] at hge
  dsimp only at hge
  split at h
  · simp at h
  rename_i h1
  rw [if_neg h1] at hge ⊢
  split at h
  · simp at h
  rename_i h2
  rw [if_neg h2] at hge ⊢
  split at h
  · simp at h
  rename_i h3
  rw [if_neg h3] at hge ⊢
  obtain ⟨i, hid, hVi, hi⟩ := ofL_some hV
  refine ⟨_, _, _, _, V.nodes, rfl, ?_, ?_⟩
  · rintro p hp ⟨e1, e2⟩
    obtain ⟨j, U, k1, k2, k3⟩ := hg p hp
    have : j = i := by omega
    subst this
    rw [hVi] at k2
    cases k2
    omega
  · intro p hp
    rcases List.mem_append.1 hp with hp | hp
    · exact hg.ge hge p hp
    · simp only [List.mem_singleton] at hp
      subst hp
      refine ⟨i, { V with key := V.key + 1 }, hid, ?_, by show V.key < V.key + 1; omega⟩
      show (setL L (l.getD 0 0) _)[i]? = _
      unfold setL
      rw [hi]
      exact List.getElem?_set_self (List.getElem?_eq_some_iff.1 hVi).1
/-- Pairs as cells. -/
def prC (g : List (Int × Int)) : List Value := (g.map fun p => [Value.int .i64 p.1, .int .i64 p.2]).flatten
theorem prC_len : ∀ g : List (Int × Int), (prC g).length = g.length * 2
  | [] => rfl
  | p :: g => by
    have := prC_len g
    simp only [prC, List.map_cons, List.flatten_cons, List.length_append, List.length_cons, List.length_nil] at this ⊢
    omega
theorem prC_snoc (g : List (Int × Int)) (x y : Int) : prC (g ++ [(x, y)]) = prC g ++ [.int .i64 x, .int .i64 y] := by simp [prC]
theorem prC_get : ∀ (g : List (Int × Int)) (k : Nat) (p : Int × Int), g[k]? = some p → (prC g)[k * 2]? = some (.int .i64 p.1) ∧ (prC g)[k * 2 + 1]? = some (.int .i64 p.2)
  | q :: g, 0, p, h => by
    simp only [List.getElem?_cons_zero, Option.some.injEq] at h
    subst h
    exact ⟨rfl, rfl⟩
  | q :: g, k + 1, p, h => by
    rw [List.getElem?_cons_succ] at h
    have := prC_get g k p h
    have e : prC (q :: g) = .int .i64 q.1 :: .int .i64 q.2 :: prC g := rfl
    rw [e, show (k + 1) * 2 = k * 2 + 1 + 1 by omega]
    exact ⟨by rw [List.getElem?_cons_succ, List.getElem?_cons_succ]; exact this.1, by rw [List.getElem?_cons_succ, List.getElem?_cons_succ]; exact this.2⟩
end Go.Proofs.Yteenbobblbehoaa

namespace Go.Proofs.Yteenbobblbehoaa
open Go Go.RowKit

theorem Ge.trans {U V W : Vl} (h : Ge U V) (k : Ge V W) : Ge U W := by
  obtain ⟨h1, h2, h3, h4⟩ := h
  obtain ⟨k1, k2, k3, k4⟩ := k
  exact ⟨by omega, by omega, fun e => (h3 (by omega)).trans (k3 (by omega)), by omega⟩
theorem GeL.trans {L M K : List Vl} (h : GeL L M) (k : GeL M K) : GeL L K := by
  intro i V hV
  obtain ⟨U, hU, e1⟩ := h i V hV
  obtain ⟨W, hW, e2⟩ := k i U hU
  exact ⟨W, hW, e1.trans e2⟩
/-- The table's blocks, and the list's of what was given. -/
def Hs (F : Nat → Prop) (v : Value) (q : Nat) : Prop := F q ∨ v.ownBlock = some q
structure GrI (w W : World) (F : Nat → Prop) (t : Nat) (L : List Vl) (wa : Option Addr) (wc : Nat) (WL : List Vl) (ga : Option Addr) (gc : Nat) (g : List (Int × Int)) (k : Nat) : Prop where
  st : St w W F t L
  ok : OkL L
  len : L.length ≤ 4096
  vls : VlsB W (Hs F (.slice ga g.length gc)) wa wc 0 WL
  ge : GeL WL L
  own : W.ownsRow w.heap.size 48 2 (.slice ga g.length gc) g.length (prC g)
  far : ∀ q, (Value.slice ga g.length gc).ownBlock = some q → ¬ F q
  gv : Gv L g
  glen : g.length ≤ k
theorem GrI.kept {w W W' : World} {F : Nat → Prop} {t : Nat} {L : List Vl} {wa : Option Addr} {wc : Nat} {WL : List Vl} {ga : Option Addr} {gc : Nat} {g : List (Int × Int)} {k : Nat} (h : GrI w W F t L wa wc WL ga gc g k) (hb : Below W.heap.size W W') : GrI w W' F t L wa wc WL ga gc g k :=
  ⟨h.st.kept hb, h.ok, h.len, h.vls.kept hb, h.ge, own_below h.own hb, h.far, h.gv, h.glen⟩
theorem GrI.more {w W : World} {F : Nat → Prop} {t : Nat} {L : List Vl} {wa : Option Addr} {wc : Nat} {WL : List Vl} {ga : Option Addr} {gc : Nat} {g : List (Int × Int)} {k : Nat} (h : GrI w W F t L wa wc WL ga gc g k) : GrI w W F t L wa wc WL ga gc g (k + 1) :=
  ⟨h.st, h.ok, h.len, h.vls, h.ge, h.own, h.far, h.gv, by have := h.glen; omega⟩
theorem GrI.next {w W w' : World} {F : Nat → Prop} {t : Nat} {L : List Vl} {wa : Option Addr} {wc : Nat} {WL : List Vl} {ga : Option Addr} {gc : Nat} {g : List (Int × Int)} {k : Nat} {kd : Int} {l : List Int} {e : Ending} (h : GrI w W F t L wa wc WL ga gc g k) (ha : AnsP W F t (doL L kd l) e w') :
    ∃ a c F', e = .returned (.tuple #[.slice a (doL L kd l).1.1.length c, .int .i64 ((doL L kd l).1.2 : Int)]) ∧ Rd w' a c (BI (doL L kd l).1.1) ∧ GrI w w' F' t (doL L kd l).2 wa wc WL ga gc g k ∧ ∀ b o, a = some ⟨b, o, none⟩ → (Value.slice ga g.length gc).ownBlock ≠ some b := by
  obtain ⟨a, c, F', rfl, h1, h2, h3, h4⟩ := St.next h.st ha
  have hnew : ∀ b o, a = some ⟨b, o, none⟩ → W.heap.size ≤ b := by
    obtain ⟨a', c', he, hown, _⟩ := ha
    simp only [Ending.returned.injEq, Value.tuple.injEq, Array.mk.injEq, List.cons.injEq, Value.slice.injEq, true_and, and_true] at he
    obtain ⟨rfl, rfl⟩ := he
    intro b o e
    subst e
    rcases hown.2 with ⟨e, _⟩ | ⟨g, cap, cur, hv, hb, _⟩
    · simp at e
    · simp only [Value.slice.injEq, Option.some.injEq, Addr.mk.injEq] at hv
      omega
  have hok := doL_ok (kd := kd) (l := l) h.ok h.len
  have hge := doL_ge L kd l
  refine ⟨a, c, F', rfl, h1.1, ⟨h2, hok.1, hok.2, ?_, h.ge.trans hge, own_off h.own h4 h.far, ?_, h.gv.ge hge, h.glen⟩, fun b o e hq => by have := hnew b o e; have := (h.own.lt b hq).2; omega⟩
  · refine h.vls.off (h4.mono fun q hq _ => .inl hq) fun q hq => ?_
    rcases hq with hq | hq
    · rcases h3 q hq with h | h
      · exact .inl (.inl h)
      · exact .inr h
    · exact .inl (.inr hq)
  · intro q hq hf
    rcases h3 q hf with h5 | h5
    · exact h.far q hq h5
    · have := (h.own.lt q hq).2; omega
/-- A pair of the list. -/
theorem own_pr {w : World} {base : Nat} {ga : Option Addr} {gc n : Nat} {g : List (Int × Int)} (h : w.ownsRow base 48 2 (.slice ga n gc) n (prC g)) {j : Nat} {p : Int × Int} (hp : g[j]? = some p) :
    ∃ b, ga = some ⟨b, 0, none⟩ ∧ b < w.heap.size ∧ w.cell? ⟨b, j * 2, none⟩ = some (.int .i64 p.1) ∧ w.cell? ⟨b, j * 2 + 1, none⟩ = some (.int .i64 p.2) := by
  obtain ⟨e1, e2⟩ := prC_get g j p hp
  rcases h.2 with ⟨hv, h0⟩ | ⟨b, cap, cur, hv, _, hh, _, _, _, ht⟩
  · have := h.1
    rw [h0] at this
    have hx : prC g = [] := List.eq_nil_of_length_eq_zero (by simpa using this)
    rw [hx] at e1
    simp at e1
  · simp only [Value.slice.injEq, true_and] at hv
    obtain ⟨rfl, rfl⟩ := hv
    refine ⟨b, rfl, (Array.getElem?_eq_some_iff.1 hh).1, ?_, ?_⟩
    · rw [cell_of_row w b (j * 2) cur _ _ hh]
      rw [← ht, List.getElem?_take] at e1
      split at e1
      · simpa using e1
      · cases e1
    · rw [cell_of_row w b (j * 2 + 1) cur _ _ hh]
      rw [← ht, List.getElem?_take] at e2
      split at e2
      · simpa using e2
      · cases e2
/-- A pair more. -/
theorem GrI.push {w W w' : World} {F : Nat → Prop} {t : Nat} {L : List Vl} {wa : Option Addr} {wc : Nat} {WL : List Vl} {ga ga' : Option Addr} {gc gc' : Nat} {g : List (Int × Int)} {k : Nat} {x y : Int} (h : GrI w W F t L wa wc WL ga gc g k)
    (ho : w'.ownsRow w.heap.size 48 2 (.slice ga' (g.length + 1) gc') (g.length + 1) (prC g ++ [.int .i64 x, .int .i64 y])) (hO : Off (fun q => (Value.slice ga g.length gc).ownBlock = some q) W w')
    (hat : (Value.slice ga' (g.length + 1) gc').ownBlock = (Value.slice ga g.length gc).ownBlock ∨ ∃ q, (Value.slice ga' (g.length + 1) gc').ownBlock = some q ∧ W.heap.size ≤ q) (hgv : Gv L (g ++ [(x, y)])) : GrI w w' F t L wa wc WL ga' gc' (g ++ [(x, y)]) (k + 1) := by
  have hl : (g ++ [(x, y)]).length = g.length + 1 := by simp
  have hF : ∀ q, (Value.slice ga' (g.length + 1) gc').ownBlock = some q → (Value.slice ga g.length gc).ownBlock = some q ∨ W.heap.size ≤ q := by
    intro q hq
    rcases hat with e | ⟨r, e, hr⟩
    · left; rw [← e]; exact hq
    · right; rw [e] at hq; cases hq; exact hr
  have hbw : Below w.heap.size W w' := hO.toBelow h.st.bel.size fun q hq => (h.own.lt q hq).1
  refine ⟨⟨h.st.tab.off hO fun q hf hq => h.far q hq hf, fun q hq => by have := h.st.lt q hq; have := hO.size; omega, h.st.new, h.st.bel.trans hbw⟩, h.ok, h.len, ?_, h.ge, ?_, ?_, hgv, by rw [hl]; have := h.glen; omega⟩
  · rw [hl]
    refine h.vls.off (hO.mono fun q hq _ => .inr hq) fun q hq => ?_
    rcases hq with hq | hq
    · exact .inl (.inl hq)
    · rcases hF q hq with h1 | h1
      · exact .inl (.inr h1)
      · exact .inr h1
  · rw [hl, prC_snoc]
    exact ho
  · rw [hl]
    intro q hq hf
    rcases hF q hq with h1 | h1
    · exact h.far q h1 hf
    · have := h.st.lt q hf; omega
theorem vols_quiet (w : World) (n : Nat) (a1 a2 : Option Addr) (c1 c2 i0 : Nat) (V U : Vl) (h1 : VlsR w a1 c1 i0 [V]) (h2 : VlsR w a2 c2 i0 [U]) (hs : shown V = shown U) :
    Calls Try.prog 16 #[.slice a1 1 c1, .slice a2 1 c2] (w.drewN n) fun e w' => e = .returned (.bool true) ∧ ∃ m, w' = w.drewN m := by
  refine (volsEq_any (w.drewN n) a1 a2 c1 c2 i0 [V] [U] (h1.kept (below_drewN (Below.refl _ _) n)) (h2.kept (below_drewN (Below.refl _ _) n)) (by simp [hs]) 1 rfl).mono ?_
  rintro e w' ⟨rfl, m, rfl⟩
  exact ⟨rfl, Qt.drew ⟨n, rfl⟩ m⟩
theorem VlsR.one {w : World} {b o c i0 k : Nat} {L : List Vl} {V : Vl} (h : VlsR w (some ⟨b, o, .none⟩) c i0 L) (hV : L[k]? = some V) : VlsR w (some ⟨b, o + k * 6, .none⟩) (c - k) (i0 + k) [V] := by
  have hk := (List.getElem?_eq_some_iff.1 hV).1
  refine ⟨by have := h.1; simp; omega, by have := h.2.1; omega, fun i U hU => ?_⟩
  obtain ⟨b', o', an, cn, e, h1, h2⟩ := h.2.2 k V hV
  cases e
  cases i with
  | zero =>
    simp only [List.getElem?_cons_zero, Option.some.injEq] at hU
    subst hU
    exact ⟨b, o + k * 6, an, cn, rfl, fun j hj => by have := h1 j hj; simpa using this, h2⟩
  | succ i => simp at hU
end Go.Proofs.Yteenbobblbehoaa

namespace Go.Proofs.Yteenbobblbehoaa
open Go Go.RowKit

theorem eqArr (p1 p2 x y : Int) (W : World) : (binOp .eql 48 (.agg #[.int .i64 p1, .int .i64 p2]) (.agg #[.int .i64 x, .int .i64 y])).run Try.prog W = .ok (.bool ((p1 == x) && (p2 == y))) W := by
  have he := Try.underlying3
  have hsz : ∀ w, (sizeOf 3).run Try.prog w = .ok 1 w := fun w => by
    have hi : (Try.prog.info? 3).map (·.size) = some 1 := by kernel_rfl
    obtain ⟨i, h1, h2⟩ := Option.map_eq_some_iff.1 hi
    simp [sizeOf, typeInfo, h1, h2]
  have hq : (Op.equalIn (9998 + 2) 48 (.agg #[.int .i64 p1, .int .i64 p2]) (.agg #[.int .i64 x, .int .i64 y])).run Try.prog W = .ok ((p1 == x) && (p2 == y)) W := by
    rw [Op.equalIn]
    simp only [Sem.run_bind, run_underlying Try.underlying48, Result.andThen_ok, hsz, Std.Legacy.Range.forIn_eq_forIn_range', Std.Legacy.Range.size, Nat.sub_zero, Nat.add_sub_cancel, Nat.div_one]
    have hr : List.range' 0 2 1 = [0, 1] := rfl
    rw [hr]
    have a0 : (part 3 #[.int .i64 p1, .int .i64 p2] (0 * 1)).run Try.prog W = .ok (.int .i64 p1) W := by simp [part, isAgg, run_underlying he]
    have a1 : (part 3 #[.int .i64 p1, .int .i64 p2] (1 * 1)).run Try.prog W = .ok (.int .i64 p2) W := by simp [part, isAgg, run_underlying he]
    have b0 : (part 3 #[.int .i64 x, .int .i64 y] (0 * 1)).run Try.prog W = .ok (.int .i64 x) W := by simp [part, isAgg, run_underlying he]
    have b1 : (part 3 #[.int .i64 x, .int .i64 y] (1 * 1)).run Try.prog W = .ok (.int .i64 y) W := by simp [part, isAgg, run_underlying he]
    have c0 : (Op.equalIn (9998 + 1) 3 (.int .i64 p1) (.int .i64 x)).run Try.prog W = .ok (p1 == x) W := run_equalIn_int W 9998 3 .i64 .i64 p1 x he
    have c1 : (Op.equalIn (9998 + 1) 3 (.int .i64 p2) (.int .i64 y)).run Try.prog W = .ok (p2 == y) W := run_equalIn_int W 9998 3 .i64 .i64 p2 y he
    simp only [List.forIn_cons, Sem.run_bind, a0, b0, c0, Result.andThen_ok]
    cases h1 : (p1 == x)
    · simp
    · simp only [Bool.not_true, Bool.false_eq_true, if_false, Sem.run_pure, Result.andThen_ok, Bool.true_and, Sem.run_bind, a1, b1, c1]
      cases h2 : (p2 == y)
      · simp
      · simp
  rw [run_eql_struct]
  show ((Op.equalIn (9998 + 2) 48 (.agg #[.int .i64 p1, .int .i64 p2]) (.agg #[.int .i64 x, .int .i64 y])).run Try.prog W).andThen _ = _
  rw [hq]
  rfl
end Go.Proofs.Yteenbobblbehoaa
