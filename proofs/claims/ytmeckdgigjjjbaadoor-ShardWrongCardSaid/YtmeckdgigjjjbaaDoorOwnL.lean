/- Lists of rows of bytes in memory: owned, or read. Conditions: each law's own premises. -/
import Derived.Test.YtmeckdgigjjjbaaDoorCom0
namespace Go.Proofs.YtmeckdgigjjjbaaDoor
open Go Go.RowKit

/-- What is owned stands behind a write to a block of another type. -/
theorem own_grown {w w' : World} {base base' sz sz' n m : Nat} {e e' : TypeId} {u v : Value} {xs ys : List Value} (h : w.ownsRow base e sz u n xs) (hv : w.ownsRow base' e' sz' v m ys) (hne : e ≠ e') (hg : w.grownBy w' v.ownBlock) : w'.ownsRow base e sz u n xs := by
  refine h.kept hg ?_
  rcases h.2 with ⟨rfl, _⟩ | ⟨g, cap, cur, rfl, _, hh, _⟩
  · exact .inl rfl
  · right
    rcases hv.2 with ⟨rfl, _⟩ | ⟨g', cap', cur', rfl, _, hh', _⟩
    · intro h; cases h
    · intro heq
      have : g = g' := Option.some.inj heq
      subst this
      rw [hh] at hh'
      simp at hh'
      exact hne hh'.2

/-- A list of rows of bytes that is owned: 'tS' rows, 'tE' bytes. -/
def OwnLL (w : World) (base : Nat) (tS tE : TypeId) (v : Value) (L : List (List UInt8)) : Prop :=
  ∃ vs : List Value, w.ownsRow base tS 1 v L.length vs ∧ ∀ (i : Nat) (l : List UInt8), L[i]? = some l → ∃ u : Value, vs[i]? = some u ∧ w.ownsRow base tE 1 u l.length (B8 l)
/-- .. that reads. -/
def RdLL (w : World) (a : Option Addr) (c : Nat) (L : List (List UInt8)) : Prop :=
  ∃ vs : List Value, Rd w a c vs ∧ vs.length = L.length ∧ ∀ (i : Nat) (l : List UInt8), L[i]? = some l → ∃ (ad : Option Addr) (cd : Nat), vs[i]? = some (Value.slice ad l.length cd) ∧ Rd w ad cd (B8 l)

theorem OwnLL.nil (w : World) (base : Nat) (tS tE : TypeId) : OwnLL w base tS tE (.slice none 0 0) [] :=
  ⟨[], World.ownsRow_nil _ _ _ _, fun i l h => by simp at h⟩
theorem OwnLL.kept {w w' : World} {base : Nat} {tS tE : TypeId} {v : Value} {L : List (List UInt8)} (h : OwnLL w base tS tE v L) (hb : Below w.heap.size w w') : OwnLL w' base tS tE v L := by
  obtain ⟨vs, h1, h2⟩ := h
  exact ⟨vs, own_below h1 hb, fun i l hl => by obtain ⟨u, hu, ho⟩ := h2 i l hl; exact ⟨u, hu, own_below ho hb⟩⟩
theorem OwnLL.base {w : World} {base base' : Nat} {tS tE : TypeId} {v : Value} {L : List (List UInt8)} (h : OwnLL w base tS tE v L) (hb : base' ≤ base) : OwnLL w base' tS tE v L := by
  obtain ⟨vs, h1, h2⟩ := h
  exact ⟨vs, own_base h1 hb, fun i l hl => by obtain ⟨u, hu, ho⟩ := h2 i l hl; exact ⟨u, hu, own_base ho hb⟩⟩
theorem OwnLL.rd {w : World} {base : Nat} {tS tE : TypeId} {v : Value} {L : List (List UInt8)} (h : OwnLL w base tS tE v L) : ∃ a cap, v = .slice a L.length cap ∧ RdLL w a cap L := by
  obtain ⟨vs, h1, h2⟩ := h
  obtain ⟨a, cap, rfl, hr⟩ := Rd.ofOwn h1
  refine ⟨a, cap, rfl, vs, hr, by simpa using h1.1, fun i l hl => ?_⟩
  obtain ⟨u, hu, ho⟩ := h2 i l hl
  obtain ⟨ad, cd, rfl, hrd⟩ := Rd.ofOwn ho
  exact ⟨ad, cd, hu, hrd⟩
theorem RdLL.kept {w w' : World} {a : Option Addr} {c : Nat} {L : List (List UInt8)} (h : RdLL w a c L) (hb : Below w.heap.size w w') : RdLL w' a c L := by
  obtain ⟨vs, h1, h2, h3⟩ := h
  exact ⟨vs, h1.kept hb, h2, fun i l hl => by obtain ⟨ad, cd, hu, hr⟩ := h3 i l hl; exact ⟨ad, cd, hu, hr.kept hb⟩⟩
theorem RdLL.cell {w : World} {a : Option Addr} {c : Nat} {L : List (List UInt8)} (h : RdLL w a c L) (k : Nat) (hk : k < L.length) :
    ∃ b o ad cd, a = some ⟨b, o, none⟩ ∧ w.cell? ⟨b, o + k, none⟩ = some (.slice ad L[k].length cd) ∧ Rd w ad cd (B8 L[k]) := by
  obtain ⟨vs, h1, h2, h3⟩ := h
  obtain ⟨ad, cd, hu, hr⟩ := h3 k L[k] (List.getElem?_eq_getElem hk)
  obtain ⟨b, o, rfl, hc⟩ := h1.cs k _ hu
  exact ⟨b, o, ad, cd, rfl, hc, hr⟩
theorem RdLL.le {w : World} {a : Option Addr} {c : Nat} {L : List (List UInt8)} (h : RdLL w a c L) : L.length ≤ 9223372036854775807 := by
  obtain ⟨vs, h1, h2, h3⟩ := h
  rw [← h2]; exact h1.le
theorem RdLL.cap {w : World} {a : Option Addr} {c : Nat} {L : List (List UInt8)} (h : RdLL w a c L) : L.length ≤ c := by
  obtain ⟨vs, h1, h2, h3⟩ := h
  rw [← h2]; exact h1.1
theorem RdLL.take {w : World} {a : Option Addr} {c : Nat} {L : List (List UInt8)} (h : RdLL w a c L) (k : Nat) : RdLL w a c (L.take k) := by
  obtain ⟨vs, h1, h2, h3⟩ := h
  refine ⟨vs.take k, h1.take k, by simp [h2], fun i l hl => ?_⟩
  rw [List.getElem?_take] at hl
  split at hl
  · obtain ⟨ad, cd, hu, hr⟩ := h3 i l hl
    exact ⟨ad, cd, by rw [List.getElem?_take, if_pos (by assumption)]; exact hu, hr⟩
  · simp at hl

/-- L[:k] -/
theorem RdLL.part {w : World} {a : Option Addr} {c : Nat} {L : List (List UInt8)} (h : RdLL w a c L) (k : Nat) :
    ∃ vs : List Value, Rd w a c vs ∧ vs.length = L.length ∧ ∀ ad', Rd w ad' c (vs.take k) → RdLL w ad' c (L.take k) := by
  obtain ⟨vs, h1, h2, h3⟩ := h
  refine ⟨vs, h1, h2, fun ad' hr => ⟨vs.take k, hr, by simp [h2], fun i l hl => ?_⟩⟩
  rw [List.getElem?_take] at hl
  split at hl
  · obtain ⟨ad, cd, hu, hr'⟩ := h3 i l hl
    exact ⟨ad, cd, by rw [List.getElem?_take, if_pos (by assumption)]; exact hu, hr'⟩
  · simp at hl

theorem own_one {w : World} {base : Nat} {e : TypeId} {sz : Nat} {v : Value} {n : Nat} {xs : List Value} (h : w.ownsRow base e sz v n xs) : v.oneCell' = true := by
  rcases h.2 with ⟨rfl, _⟩ | ⟨g, cap, cur, rfl, _⟩ <;> rfl

/-- One row more: behind the literal's block and the append. -/
theorem own_app {w w' : World} {base : Nat} {tS tE : TypeId} {v v' u : Value} {L : List (List UInt8)} {l : List UInt8} {vs : List Value} (h1 : w.ownsRow base tS 1 v L.length vs)
    (h2 : ∀ (i : Nat) (l : List UInt8), L[i]? = some l → ∃ u : Value, vs[i]? = some u ∧ w.ownsRow base tE 1 u l.length (B8 l)) (hu : w.ownsRow base tE 1 u l.length (B8 l)) (hne : tE ≠ tS)
    (ha : w'.ownsRow base tS 1 v' (L.length + 1) (vs ++ [u])) (hg : w.grownBy w' v.ownBlock) : OwnLL w' base tS tE v' (L ++ [l]) := by
  refine ⟨vs ++ [u], by rw [List.length_append]; exact ha, fun i x hx => ?_⟩
  have hl : vs.length = L.length := by simpa using h1.1
  rw [List.getElem?_append] at hx ⊢
  rw [hl]
  split at hx
  · obtain ⟨y, hy, ho⟩ := h2 i x hx
    rw [if_pos (by assumption)]
    exact ⟨y, hy, own_grown ho h1 hne hg⟩
  · rw [if_neg (by assumption)]
    obtain ⟨hi, rfl⟩ : i - L.length = 0 ∧ l = x := by
      rcases Nat.eq_zero_or_pos (i - L.length) with h0 | h0
      · rw [h0] at hx; simp at hx; exact ⟨h0, hx⟩
      · rw [List.getElem?_eq_none (show [l].length ≤ i - L.length from h0)] at hx; cases hx
    rw [hi]
    exact ⟨u, rfl, own_grown hu h1 hne hg⟩
end Go.Proofs.YtmeckdgigjjjbaaDoor
