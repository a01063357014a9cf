/- Rows of rows that a call makes and fills in place. Conditions: each law's own premises. -/
import Derived.Test.YtmeckdgigjjjbaaDoorOwnL
import Derived.Test.YtmeckdgigjjjbaaDoorBlkV
import Derived.Maps.AppendAt
namespace Go.Proofs.YtmeckdgigjjjbaaDoor
open Go Go.RowKit

theorem elemR : ElemT Tryd.prog 22 34 1 (.slice none 0 0) 24 := ⟨Tryd.underlying22, info_parts (by kernel_rfl)⟩

/-- append onto what is owned, of whatever reads; and where the new slice lies. -/
theorem wpList_appA {P : Program} {w : World} {ops : Array Oper} {rest : List Oper} {o : Oper} {a : Act} {Q : Exit → Act → World → Prop} {e : TypeId} {z : Value} {bytes : Nat}
    (hgd : o.guard = none) (s x : Operand) (t : TypeId)
    (ho : o.op = .call { callee := .builtin .append, args := #[s, x], argTypes := #[t, t] })
    (T : ElemT P t e 1 z bytes) (hz1 : z.cells.size = 1)
    (base : Nat) (v : Value) (n : Nat) (xs : List Value) (hs : a.eval s = v) (hown : w.ownsRow base e 1 v n xs)
    (ad : Option Addr) (m c : Nat) (news : List Value) (hx : a.eval x = .slice ad m c) (hm : m = news.length) (hr : Rd w ad c news) (h1 : ∀ u ∈ news, u.oneCell' = true)
    (h63 : n + m ≤ maxLen) (hbytes : (n + m) * bytes ≤ 140737488355328) (hbase : base ≤ w.heap.size)
    (h : ∀ v' w', w'.ownsRow base e 1 v' (n + m) (xs ++ news) → Below base w w' → w.grownBy w' v.ownBlock → (v'.ownBlock = v.ownBlock ∨ v'.ownBlock = some w.heap.size) → wpList P ops Q rest (a.put o.dst v') w') : wpList P ops Q (o :: rest) a w := by
  obtain ⟨i, hi, hz, hsz, hby⟩ := T.hi
  cases ad with
  | none =>
    have hc0 := hr.2.2.1 rfl
    have hl := hr.1
    have hnews : news = [] := List.eq_nil_of_length_eq_zero (by omega)
    subst hnews
    subst hm
    refine wpList_append_own_none hgd s x t ho base e i 1 T.ht hi v n xs hs hown (by rw [hx, hc0]; rfl) ?_
    exact h v w (by simpa using hown) (Below.refl _ _) (World.grownBy.refl _ _) (.inl rfl)
  | some ad =>
    refine wpList_append_own_at w hgd s x t ho base e i z 1 bytes T.ht hi hz hsz hby hz1 (by omega) v n xs hs hown ad m c news hx (by omega) ?_ h1 h63 hbytes hbase ?_
    · intro j u hu
      obtain ⟨b, of, hab, hc⟩ := hr.cs j u hu
      obtain rfl := Option.some.inj hab
      rw [Addr.add_lit]
      exact hc
    · intro v' w' ho' hg _ hat
      exact h v' w' ho' (below_grown hg hbase (fun k hk => (hown.lt k hk).1)) hg hat

/-- What is owned lies in a block of its type. -/
theorem own_block {w : World} {base : Nat} {e : TypeId} {sz : Nat} {v : Value} {n : Nat} {xs : List Value} (h : w.ownsRow base e sz v n xs) : v.ownBlock = none ∨ ∃ g C fr, v.ownBlock = some g ∧ base ≤ g ∧ w.heap[g]? = some (.cells C e fr) := by
  rcases h.2 with ⟨rfl, _⟩ | ⟨g, cap, cur, rfl, hb, hh, _⟩
  · left; rfl
  · right; exact ⟨g, cur, _, rfl, hb, hh⟩
/-- A write to a block of another type leaves what is owned. -/
theorem own_setT {w : World} {base : Nat} {e e' : TypeId} {sz sz' : Nat} {v v' : Value} {n n' g : Nat} {xs ys : List Value} (h : w.ownsRow base e sz v n xs) {base' : Nat} (h' : w.ownsRow base' e' sz' v' n' ys) (hv : v'.ownBlock = some g) (hne : e ≠ e') (j : Nat) (u : Value) :
    (w.setCell ⟨g, j, none⟩ u).ownsRow base e sz v n xs := by
  refine ⟨h.1, ?_⟩
  rcases h.2 with hl | ⟨g1, cap, cur, hv1, hb, hh, r⟩
  · exact .inl hl
  · refine .inr ⟨g1, cap, cur, hv1, hb, ?_, r⟩
    have hgg : g1 ≠ g := by
      rintro rfl
      rcases own_block h' with h0 | ⟨g2, C, fr, h2, _, h3⟩
      · rw [h0] at hv; cases hv
      · rw [h2] at hv
        cases hv
        rw [hh] at h3
        simp at h3
        exact hne h3.2.1
    rw [Below.heap_setCell w ⟨g, j, none⟩ u g1 hgg]
    exact hh

/-- Rows that lie apart, in a list of the call's own. -/
structure OwnM (w : World) (B : Nat) (tS tE : TypeId) (g n cap : Nat) (vs : List Value) (L : List (List UInt8)) : Prop where
  outer : w.ownsRow B tS 1 (.slice (some ⟨g, 0, none⟩) n cap) n vs
  len : L.length = n
  row : ∀ (i : Nat) (u : Value) (l : List UInt8), vs[i]? = some u → L[i]? = some l → w.ownsRow B tE 1 u l.length (B8 l)
  apart : ∀ (i j : Nat) (u u' : Value), i ≠ j → vs[i]? = some u → vs[j]? = some u' → u.ownBlock = none ∨ u.ownBlock ≠ u'.ownBlock
theorem OwnM.vlen {w : World} {B : Nat} {tS tE : TypeId} {g n cap : Nat} {vs : List Value} {L : List (List UInt8)} (h : OwnM w B tS tE g n cap vs L) : vs.length = n := by simpa using h.outer.1
theorem OwnM.ownLL {w : World} {B : Nat} {tS tE : TypeId} {g n cap : Nat} {vs : List Value} {L : List (List UInt8)} (h : OwnM w B tS tE g n cap vs L) : OwnLL w B tS tE (.slice (some ⟨g, 0, none⟩) n cap) L := by
  refine ⟨vs, by rw [h.len]; exact h.outer, fun i l hl => ?_⟩
  have hi := (List.getElem?_eq_some_iff.1 hl).1
  have hv : vs[i]? = some (vs[i]'(by have := h.vlen; have := h.len; omega)) := List.getElem?_eq_getElem _
  exact ⟨_, hv, h.row i _ l hv hl⟩
theorem OwnM.kept {w w' : World} {B : Nat} {tS tE : TypeId} {g n cap : Nat} {vs : List Value} {L : List (List UInt8)} (h : OwnM w B tS tE g n cap vs L) (hb : Below w.heap.size w w') : OwnM w' B tS tE g n cap vs L :=
  ⟨own_below h.outer hb, h.len, fun i u l hu hl => own_below (h.row i u l hu hl) hb, h.apart⟩
theorem OwnM.lt {w : World} {B : Nat} {tS tE : TypeId} {g n cap : Nat} {vs : List Value} {L : List (List UInt8)} (h : OwnM w B tS tE g n cap vs L) {i b : Nat} {u : Value} (hi : vs[i]? = some u) (hb : u.ownBlock = some b) : b < w.heap.size := by
  have hlt := (List.getElem?_eq_some_iff.1 hi).1
  have hl : L[i]? = some (L[i]'(by have := h.vlen; have := h.len; omega)) := List.getElem?_eq_getElem _
  rcases own_block (h.row i u _ hi hl) with h0 | ⟨g', C, fr, h1, _, h2⟩
  · rw [h0] at hb; cases hb
  · rw [h1] at hb; cases hb
    exact (Array.getElem?_eq_some_iff.1 h2).1
/-- A row is laid in its place: 'w1' has it, and all other rows as they were. -/
theorem OwnM.put {w1 : World} {B : Nat} {tS tE : TypeId} {g n cap : Nat} {vs : List Value} {L : List (List UInt8)} (hlen : L.length = n) (hne : tE ≠ tS) (i : Nat) (hi : i < n) (u' : Value) (l' : List UInt8)
    (ho : w1.ownsRow B tS 1 (.slice (some ⟨g, 0, none⟩) n cap) n vs)
    (hr : ∀ j u l, j ≠ i → vs[j]? = some u → L[j]? = some l → w1.ownsRow B tE 1 u l.length (B8 l))
    (hu : w1.ownsRow B tE 1 u' l'.length (B8 l'))
    (ha : ∀ j k u u2, j ≠ i → k ≠ i → j ≠ k → vs[j]? = some u → vs[k]? = some u2 → u.ownBlock = none ∨ u.ownBlock ≠ u2.ownBlock)
    (hd : ∀ j u, j ≠ i → vs[j]? = some u → u.ownBlock = none ∨ u.ownBlock ≠ u'.ownBlock) :
    OwnM (w1.setCell ⟨g, i, none⟩ u') B tS tE g n cap (vs.set i u') (L.set i l') := by
  have hvl : vs.length = n := by simpa using ho.1
  refine ⟨(ho.stored i u').1, by simp [hlen], ?_, ?_⟩
  · intro j u l hj hl
    by_cases hji : j = i
    · subst hji
      rw [List.getElem?_set_self (by omega)] at hj hl
      cases hj; cases hl
      exact own_setT hu ho rfl hne _ _
    · rw [List.getElem?_set_ne (fun h => hji h.symm)] at hj hl
      exact own_setT (hr j u l hji hj hl) ho rfl hne _ _
  · intro j k u u2 hjk hj hk
    by_cases hji : j = i
    · subst hji
      rw [List.getElem?_set_self (by omega)] at hj
      cases hj
      rw [List.getElem?_set_ne hjk] at hk
      rcases hd k u2 (fun h => hjk h.symm) hk with h | h
      · by_cases h0 : u'.ownBlock = none
        · exact .inl h0
        · right; rw [h]; exact h0
      · exact .inr (fun e => h e.symm)
    · rw [List.getElem?_set_ne (fun h => hji h.symm)] at hj
      by_cases hki : k = i
      · subst hki
        rw [List.getElem?_set_self (by omega)] at hk
        cases hk
        exact hd j u hji hj
      · rw [List.getElem?_set_ne (fun h => hki h.symm)] at hk
        exact ha j k u u2 hji hki hjk hj hk
/-- A row of the list. -/
theorem OwnM.at {w : World} {B : Nat} {tS tE : TypeId} {g n cap : Nat} {vs : List Value} {L : List (List UInt8)} (h : OwnM w B tS tE g n cap vs L) (i : Nat) (hi : i < n) :
    ∃ u, vs[i]? = some u ∧ w.cell? ⟨g, i, none⟩ = some u ∧ w.frozen? ⟨g, i, none⟩ = false ∧ w.ownsRow B tE 1 u (L[i]'(by have := h.len; omega)).length (B8 (L[i]'(by have := h.len; omega))) := by
  have hv : vs[i]? = some (vs[i]'(by have := h.vlen; omega)) := List.getElem?_eq_getElem _
  refine ⟨_, hv, ?_, h.outer.frozenAt i, h.row i _ _ hv (List.getElem?_eq_getElem _)⟩
  rw [h.outer.cellAt i (by omega), hv]
/-- A row has grown in its place, by an append: behind the append and the store. -/
theorem OwnM.grow {w w1 : World} {B : Nat} {tS tE : TypeId} {g n cap : Nat} {vs : List Value} {L : List (List UInt8)} (h : OwnM w B tS tE g n cap vs L) (hne : tE ≠ tS) (i : Nat) (hi : i < n) (u u' : Value) (hu : vs[i]? = some u) (l' : List UInt8) (m : Nat) (hm : m = l'.length)
    (ho : w1.ownsRow B tE 1 u' m (B8 l')) (hg : w.grownBy w1 u.ownBlock) (hat : u'.ownBlock = u.ownBlock ∨ u'.ownBlock = some w.heap.size) :
    OwnM (w1.setCell ⟨g, i, none⟩ u') B tS tE g n cap (vs.set i u') (L.set i l') := by
  subst hm
  obtain ⟨u0, h0, _, _, h3⟩ := h.at i hi
  rw [hu] at h0
  cases h0
  have hkeep : ∀ {b2 e2 s2 v2 n2 xs2}, w.ownsRow b2 e2 s2 v2 n2 xs2 → (v2.ownBlock = none ∨ v2.ownBlock ≠ u.ownBlock) → w1.ownsRow b2 e2 s2 v2 n2 xs2 := by
    intro b2 e2 s2 v2 n2 xs2 hv hx
    refine hv.kept hg ?_
    rcases hv.2 with ⟨rfl, _⟩ | ⟨g', cap', cur', rfl, _⟩
    · exact .inl rfl
    · right
      rcases hx with hx | hx
      · cases hx
      · exact hx
  refine OwnM.put h.len hne i hi u' l' (own_grown h.outer h3 (fun e => hne e.symm) hg) ?_ ho ?_ ?_
  · intro j u2 l2 hji hj hl
    exact hkeep (h.row j u2 l2 hj hl) (h.apart j i u2 u hji hj hu)
  · intro j k u2 u3 hj hk hjk h2 h3
    exact h.apart j k u2 u3 hjk h2 h3
  · intro j u2 hji hj
    rcases h.apart j i u2 u hji hj hu with hx | hx
    · exact .inl hx
    · rcases hat with e | e
      · right; rw [e]; exact hx
      · by_cases h0 : u2.ownBlock = none
        · exact .inl h0
        · right
          rw [e]
          intro e2
          have := h.lt hj e2
          omega
end Go.Proofs.YtmeckdgigjjjbaaDoor
