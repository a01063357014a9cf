/- A Net in memory: messages in a row, each with rows of its own. Conditions: each law's own premises. -/
import Derived.Test.YtoagneajlfglcaaCom0
import Derived.Test.YtoagneajlfglcaaBlkV
namespace Go.Proofs.Ytoagneajlfglcaa
open Go Go.RowKit

/-- A message. -/
structure Ms where
  fr : Int
  to : Int
  kd : Int
  nums : List Int
  data : List UInt8
/-- What reads, in a block of a type that is known. -/
def TRd (w : World) (t : TypeId) (a : Option Addr) (c : Nat) (xs : List Value) : Prop := Rd w a c xs ∧ ∀ b o, xs ≠ [] → a = some ⟨b, o, none⟩ → ∃ cs fr, w.heap[b]? = some (.cells cs t fr)
theorem TRd.ofOwn {w : World} {base : Nat} {e : TypeId} {v : Value} {n : Nat} {xs : List Value} (h : w.ownsRow base e 1 v n xs) : ∃ a c, v = .slice a n c ∧ TRd w e a c xs := by
  obtain ⟨a, c, hv, hr⟩ := Rd.ofOwn h
  refine ⟨a, c, hv, hr, fun b o _ ha => ?_⟩
  rcases h.2 with ⟨hn, h0⟩ | ⟨g, cap, cur, hv', _, hg, _⟩
  · rw [hv, ha] at hn; cases hn
  · rw [hv, ha] at hv'
    cases hv'
    exact ⟨cur, _, hg⟩
theorem TRd.kept {w w' : World} {t : TypeId} {a : Option Addr} {c : Nat} {xs : List Value} (h : TRd w t a c xs) (hb : Below w.heap.size w w') : TRd w' t a c xs := by
  refine ⟨h.1.kept hb, fun b o hx ha => ?_⟩
  obtain ⟨cs, fr, hh⟩ := h.2 b o hx ha
  exact ⟨cs, fr, by rw [hb.block b (Array.getElem?_eq_some_iff.1 hh).1]; exact hh⟩
/-- A write to a block of another type. -/
theorem TRd.grown {w w' : World} {t t' : TypeId} {a : Option Addr} {c : Nat} {xs : List Value} (h : TRd w t a c xs) {row : Option Nat} (hg : w.grownBy w' row) (hr : ∀ k, row = some k → ∃ cs fr, w.heap[k]? = some (.cells cs t' fr)) (hne : t ≠ t') : TRd w' t a c xs := by
  by_cases hx : xs = []
  · subst hx
    exact ⟨⟨h.1.1, h.1.2.1, h.1.2.2.1, Cs.nil _ _⟩, fun b o hx => absurd rfl hx⟩
  · have hblk : ∀ b o, a = some ⟨b, o, none⟩ → w'.heap[b]? = w.heap[b]? := fun b o ha => by
      obtain ⟨cs, fr, hh⟩ := h.2 b o hx ha
      refine hg.block b (Array.getElem?_eq_some_iff.1 hh).1 fun e => ?_
      obtain ⟨cs', fr', hh'⟩ := hr b e.symm
      rw [hh] at hh'
      cases hh'
      exact hne rfl
    refine ⟨⟨h.1.1, h.1.2.1, h.1.2.2.1, fun j u hu => ?_⟩, fun b o _ ha => ?_⟩
    · obtain ⟨b, o, ha, hc⟩ := h.1.cs j u hu
      exact ⟨b, o, ha, by rw [World.cell?_of_block (hblk b o ha)]; exact hc⟩
    · obtain ⟨cs, fr, hh⟩ := h.2 b o hx ha
      exact ⟨cs, fr, by rw [hblk b o ha]; exact hh⟩
/-- Five values that are a message. -/
def MsR (w : World) (x : List Value) (M : Ms) : Prop := ∃ an cn ad cd, x = [.int .i64 M.fr, .int .i64 M.to, .int .i64 M.kd, .slice an M.nums.length cn, .slice ad M.data.length cd] ∧ TRd w 3 an cn (BI M.nums) ∧ TRd w 5 ad cd (B8 M.data)
theorem MsR.kept {w w' : World} {x : List Value} {M : Ms} (h : MsR w x M) (hb : Below w.heap.size w w') : MsR w' x M := by
  obtain ⟨an, cn, ad, cd, h1, h2, h3⟩ := h
  exact ⟨an, cn, ad, cd, h1, h2.kept hb, h3.kept hb⟩
theorem MsR.grown {w w' : World} {x : List Value} {M : Ms} (h : MsR w x M) {row : Option Nat} {t' : TypeId} (hg : w.grownBy w' row) (hr : ∀ k, row = some k → ∃ cs fr, w.heap[k]? = some (.cells cs t' fr)) (h1 : 3 ≠ t') (h2 : 5 ≠ t') : MsR w' x M := by
  obtain ⟨an, cn, ad, cd, k1, k2, k3⟩ := h
  exact ⟨an, cn, ad, cd, k1, k2.grown hg hr h1, k3.grown hg hr h2⟩
theorem MsR.len {w : World} {x : List Value} {M : Ms} (h : MsR w x M) : x.length = 5 := by
  obtain ⟨an, cn, ad, cd, rfl, _⟩ := h; rfl
theorem MsR.one {w : World} {x : List Value} {M : Ms} (h : MsR w x M) : ∀ u ∈ x, u.oneCell' = true := by
  obtain ⟨an, cn, ad, cd, rfl, _⟩ := h
  intro u hu
  simp only [List.mem_cons, List.not_mem_nil, or_false] at hu
  rcases hu with rfl | rfl | rfl | rfl | rfl <;> rfl
/-- Messages, one behind the other. -/
def RowR (w : World) : List Value → List Ms → Prop
  | xs, [] => xs = []
  | xs, M :: L => ∃ x r, xs = x ++ r ∧ MsR w x M ∧ RowR w r L
theorem RowR.len {w : World} : ∀ {L : List Ms} {xs : List Value}, RowR w xs L → xs.length = L.length * 5
  | [], xs, h => by rw [show xs = [] from h]; rfl
  | M :: L, xs, h => by
    obtain ⟨x, r, rfl, h1, h2⟩ := h
    rw [List.length_append, h1.len, h2.len, List.length_cons]; omega
theorem RowR.map {w w' : World} (hm : ∀ x M, MsR w x M → MsR w' x M) : ∀ {L : List Ms} {xs : List Value}, RowR w xs L → RowR w' xs L
  | [], _, h => h
  | _ :: _, _, h => by
    obtain ⟨x, r, rfl, h1, h2⟩ := h
    exact ⟨x, r, rfl, hm _ _ h1, RowR.map hm h2⟩
theorem RowR.snoc {w : World} {x : List Value} {M : Ms} (hx : MsR w x M) : ∀ {L : List Ms} {xs : List Value}, RowR w xs L → RowR w (xs ++ x) (L ++ [M])
  | [], xs, h => by rw [show xs = [] from h]; exact ⟨x, [], by simp, hx, rfl⟩
  | N :: L, xs, h => by
    obtain ⟨y, r, rfl, h1, h2⟩ := h
    exact ⟨y, r ++ x, by rw [List.append_assoc], h1, RowR.snoc hx h2⟩
theorem RowR.get {w : World} : ∀ {L : List Ms} {xs : List Value} (i : Nat) (_ : RowR w xs L) (hi : i < L.length), MsR w ((xs.drop (i * 5)).take 5) (L[i])
  | M :: L, xs, 0, h, _ => by
    obtain ⟨x, r, rfl, h1, h2⟩ := h
    have := h1.len
    simpa [List.take_append, this] using h1
  | M :: L, xs, i + 1, h, hi => by
    obtain ⟨x, r, rfl, h1, h2⟩ := h
    have h3 := h1.len
    have := RowR.get i h2 (by simpa using hi)
    rw [List.getElem_cons_succ, show (i + 1) * 5 = x.length + i * 5 by omega, List.drop_append]
    rw [List.drop_of_length_le (by omega), List.nil_append, show x.length + i * 5 - x.length = i * 5 by omega]
    exact this
theorem RowR.erase {w : World} : ∀ {L : List Ms} {xs : List Value} (i : Nat) (_ : RowR w xs L) (_ : i < L.length), RowR w (xs.take (i * 5) ++ xs.drop ((i + 1) * 5)) (L.eraseIdx i)
  | M :: L, xs, 0, h, _ => by
    obtain ⟨x, r, rfl, h1, h2⟩ := h
    have := h1.len
    simpa [List.drop_append, this] using h2
  | M :: L, xs, i + 1, h, hi => by
    obtain ⟨x, r, rfl, h1, h2⟩ := h
    have h3 := h1.len
    have := RowR.erase i h2 (by simpa using hi)
    refine ⟨x, r.take (i * 5) ++ r.drop ((i + 1) * 5), ?_, h1, this⟩
    rw [List.take_append, List.drop_append, List.take_of_length_le (by omega), List.drop_of_length_le (by omega), List.nil_append, show (i + 1) * 5 - x.length = i * 5 by omega, show (i + 1 + 1) * 5 - x.length = (i + 1) * 5 by omega, List.append_assoc]
/-- A Net. -/
structure NetI (w : World) (B g : Nat) (L : List Ms) : Prop where
  ex : ∃ v xs, BlkV w g 26 #[v] ∧ w.ownsRow B 31 5 v L.length xs ∧ RowR w xs L
  base : B ≤ g
theorem NetI.kept {w w' : World} {B g : Nat} {L : List Ms} (h : NetI w B g L) (hb : Below w.heap.size w w') : NetI w' B g L := by
  obtain ⟨⟨v, xs, h1, h2, h3⟩, h4⟩ := h
  exact ⟨⟨v, xs, h1.below hb, own_below h2 hb, h3.map fun x M hm => hm.kept hb⟩, h4⟩
end Go.Proofs.Ytoagneajlfglcaa
