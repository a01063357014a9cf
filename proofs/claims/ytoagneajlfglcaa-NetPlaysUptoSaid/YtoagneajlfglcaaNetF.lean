/- A Net with the blocks that are its own: two Nets in one world. Conditions: each law's own premises. -/
import Derived.Test.YtoagneajlfglcaaNetTwice
import Derived.Maps.AppendAt
namespace Go.Proofs.Ytoagneajlfglcaa
open Go Go.RowKit

/-- What was there and is none of F is as it was. -/
structure Off (F : Nat → Prop) (w w' : World) : Prop where
  os : w'.os = w.os
  tape : w'.tape = w.tape
  output : w'.output = w.output
  size : w.heap.size ≤ w'.heap.size
  block : ∀ k, k < w.heap.size → ¬ F k → w'.heap[k]? = w.heap[k]?
theorem Off.refl (F : Nat → Prop) (w : World) : Off F w w := ⟨rfl, rfl, rfl, Nat.le_refl _, fun _ _ _ => rfl⟩
theorem Off.ofBelow {F : Nat → Prop} {w w' : World} (h : Below w.heap.size w w') : Off F w w' := ⟨h.os, h.tape, h.output, h.size, fun k hk _ => h.block k hk⟩
theorem Off.trans {F G : Nat → Prop} {a b c : World} (h : Off F a b) (k : Off G b c) (hG : ∀ x, G x → F x ∨ a.heap.size ≤ x) : Off F a c :=
  ⟨k.os.trans h.os, k.tape.trans h.tape, k.output.trans h.output, Nat.le_trans h.size k.size, fun x hx hf => by
    rw [k.block x (by have := h.size; omega) (fun hg => (hG x hg).elim hf (by omega)), h.block x hx hf]⟩
theorem Off.then {F : Nat → Prop} {a b c : World} (h : Off F a b) (k : Off F b c) : Off F a c := h.trans k fun _ h => .inl h
theorem Off.below {F : Nat → Prop} {a b c : World} (h : Off F a b) (k : Below b.heap.size b c) : Off F a c := h.then (Off.ofBelow k)
theorem Off.mono {F G : Nat → Prop} {w w' : World} (h : Off F w w') (hG : ∀ x, F x → x < w.heap.size → G x) : Off G w w' := ⟨h.os, h.tape, h.output, h.size, fun k hk hg => h.block k hk fun hf => hg (hG k hf hk)⟩
theorem Off.toBelow {F : Nat → Prop} {w w' : World} {B : Nat} (h : Off F w w') (hB : B ≤ w.heap.size) (hF : ∀ x, F x → B ≤ x) : Below B w w' :=
  ⟨h.os, h.tape, h.output, h.size, fun k hk => h.block k (by omega) fun hf => by have := hF k hf; omega⟩
theorem Off.setCell {F : Nat → Prop} {w : World} {p : Addr} (hp : F p.block) (u : Value) : Off F w (w.setCell p u) :=
  ⟨rfl, rfl, rfl, by simp [World.setCell], fun k _ hf => Below.heap_setCell _ _ _ _ (fun e => hf (e ▸ hp))⟩
theorem Off.ofOne {F : Nat → Prop} {w w' : World} {B g : Nat} (hb : Below B w w') (ho : ∀ k, k ≠ g → w'.heap[k]? = w.heap[k]?) (hg : F g) : Off F w w' :=
  ⟨hb.os, hb.tape, hb.output, hb.size, fun k _ hf => ho k fun e => hf (e ▸ hg)⟩
theorem Off.ofGrown {F : Nat → Prop} {w w' : World} {row : Option Nat} (hg : w.grownBy w' row) (hr : ∀ k, row = some k → F k) : Off F w w' :=
  ⟨hg.os, hg.tape, hg.output, hg.size, fun k hk hf => hg.block k hk fun e => hf (hr k e.symm)⟩
theorem Off.drew {F : Nat → Prop} {a w : World} (h : Off F a w) : Off F a w.drew := ⟨h.os, h.tape, h.output, h.size, h.block⟩

theorem Rd.offB {G : Nat → Prop} {w w' : World} {a : Option Addr} {c : Nat} {xs : List Value} (h : Rd w a c xs) (hg : Off G w w') (hr : ∀ b o, xs ≠ [] → a = some ⟨b, o, .none⟩ → ¬ G b) : Rd w' a c xs := by
  refine ⟨h.1, h.2.1, h.2.2.1, fun j u hu => ?_⟩
  obtain ⟨b, o, ha, hc⟩ := h.cs j u hu
  have hb : b < w.heap.size := by
    unfold World.cell? at hc
    by_cases hb : b < w.heap.size
    · exact hb
    · rw [Array.getElem?_eq_none (by simpa using hb)] at hc
      simp at hc
  exact ⟨b, o, ha, by rw [World.cell?_of_block (hg.block b hb (hr b o (by rintro rfl; simp at hu) ha))]; exact hc⟩
theorem TRd.offB {G : Nat → Prop} {w w' : World} {t : TypeId} {a : Option Addr} {c : Nat} {xs : List Value} (h : TRd w t a c xs) (hg : Off G w w') (hr : ∀ b o, xs ≠ [] → a = some ⟨b, o, none⟩ → ¬ G b) : TRd w' t a c xs := by
  by_cases hx : xs = []
  · subst hx
    exact ⟨⟨h.1.1, h.1.2.1, h.1.2.2.1, Cs.nil _ _⟩, fun b o hx => absurd rfl hx⟩
  · have hblk : ∀ b o, a = some ⟨b, o, none⟩ → w'.heap[b]? = w.heap[b]? := fun b o ha => by
      obtain ⟨cs, fr, hh⟩ := h.2 b o hx ha
      exact hg.block b (Array.getElem?_eq_some_iff.1 hh).1 (hr b o hx ha)
    refine ⟨⟨h.1.1, h.1.2.1, h.1.2.2.1, fun j u hu => ?_⟩, fun b o _ ha => ?_⟩
    · obtain ⟨b, o, ha, hc⟩ := h.1.cs j u hu
      exact ⟨b, o, ha, by rw [World.cell?_of_block (hblk b o ha)]; exact hc⟩
    · obtain ⟨cs, fr, hh⟩ := h.2 b o hx ha
      exact ⟨cs, fr, by rw [hblk b o ha]; exact hh⟩
theorem BlkV.off {F : Nat → Prop} {w w' : World} {g : Nat} {t : TypeId} {cs : Array Value} (h : BlkV w g t cs) (ho : Off F w w') (hg : ¬ F g) : BlkV w' g t cs := by
  unfold BlkV at h ⊢
  rw [ho.block g (Array.getElem?_eq_some_iff.1 h).1 hg, h]
theorem own_off {F : Nat → Prop} {w w' : World} {base : Nat} {e : TypeId} {sz : Nat} {v : Value} {n : Nat} {xs : List Value} (h : w.ownsRow base e sz v n xs) (ho : Off F w w') (hF : ∀ k, v.ownBlock = some k → ¬ F k) : w'.ownsRow base e sz v n xs := by
  refine ⟨h.1, ?_⟩
  rcases h.2 with h' | ⟨k, cap, cur, hv, hb, hh, r⟩
  · exact .inl h'
  · refine .inr ⟨k, cap, cur, hv, hb, ?_, r⟩
    rw [ho.block k (Array.getElem?_eq_some_iff.1 hh).1 (hF k (by rw [hv]; rfl))]
    exact hh

/-- A value's block, if it is a slice that holds something, is one of F. -/
def ValF (F : Nat → Prop) (u : Value) : Prop := ∀ b o n c, u = .slice (some ⟨b, o, none⟩) n c → n ≠ 0 → F b
theorem ValF.mono {F G : Nat → Prop} {u : Value} (h : ValF F u) (hF : ∀ k, F k → G k) : ValF G u := fun b o n c e hn => hF b (h b o n c e hn)
theorem MsR.off {F G : Nat → Prop} {w w' : World} {x : List Value} {M : Ms} (h : MsR w x M) (hx : ∀ u ∈ x, ValF F u) (ho : Off G w w') (hd : ∀ k, F k → ¬ G k) : MsR w' x M := by
  obtain ⟨an, cn, ad, cd, rfl, h2, h3⟩ := h
  refine ⟨an, cn, ad, cd, rfl, h2.offB ho fun b o hne ha => hd b ?_, h3.offB ho fun b o hne ha => hd b ?_⟩
  · exact hx (.slice an M.nums.length cn) (by simp) b o _ _ (by rw [ha]) (fun e => hne (by rw [List.length_eq_zero_iff.1 e]; rfl))
  · exact hx (.slice ad M.data.length cd) (by simp) b o _ _ (by rw [ha]) (fun e => hne (by rw [List.length_eq_zero_iff.1 e]; rfl))
theorem RowR.off {F G : Nat → Prop} {w w' : World} (ho : Off G w w') (hd : ∀ k, F k → ¬ G k) : ∀ {L : List Ms} {xs : List Value}, RowR w xs L → (∀ u ∈ xs, ValF F u) → RowR w' xs L
  | [], _, h, _ => h
  | _ :: _, _, h, hx => by
    obtain ⟨x, r, rfl, h1, h2⟩ := h
    exact ⟨x, r, rfl, h1.off (fun u hu => hx u (List.mem_append_left _ hu)) ho hd, RowR.off ho hd h2 (fun u hu => hx u (List.mem_append_right _ hu))⟩
/-- A Net (of the type T) whose blocks are those of F. -/
structure NetF (T : TypeId) (w : World) (F : Nat → Prop) (g : Nat) (L : List Ms) : Prop where
  ex : ∃ v xs, BlkV w g T #[v] ∧ w.ownsRow 0 31 5 v L.length xs ∧ RowR w xs L ∧ (∀ k, v.ownBlock = some k → F k) ∧ ∀ u ∈ xs, ValF F u
  own : F g
  lt : ∀ k, F k → k < w.heap.size
theorem NetF.off {T : TypeId} {F G : Nat → Prop} {w w' : World} {g : Nat} {L : List Ms} (h : NetF T w F g L) (ho : Off G w w') (hd : ∀ k, F k → ¬ G k) : NetF T w' F g L := by
  obtain ⟨⟨v, xs, h1, h2, h3, h4, h5⟩, h6, h7⟩ := h
  exact ⟨⟨v, xs, h1.off ho (hd g h6), own_off h2 ho fun k hk => hd k (h4 k hk), h3.off ho hd h5, h4, h5⟩, h6, fun k hk => by have := h7 k hk; have := ho.size; omega⟩
theorem NetF.kept {T : TypeId} {F : Nat → Prop} {w w' : World} {g : Nat} {L : List Ms} (h : NetF T w F g L) (hb : Below w.heap.size w w') : NetF T w' F g L :=
  h.off (G := fun _ => False) (Off.ofBelow hb) fun _ _ h => h
theorem NetF.toI {F : Nat → Prop} {w : World} {g : Nat} {L : List Ms} (h : NetF 26 w F g L) : NetI w 0 g L := by
  obtain ⟨⟨v, xs, h1, h2, h3, _, _⟩, _, _⟩ := h
  exact ⟨⟨v, xs, h1, h2, h3⟩, Nat.zero_le _⟩
/-- The blocks of F, and what was made since. -/
def grew (F : Nat → Prop) (w w' : World) : Nat → Prop := fun k => F k ∨ (w.heap.size ≤ k ∧ k < w'.heap.size)
theorem NetF.grewn {T : TypeId} {F : Nat → Prop} {w0 w' : World} {g : Nat} {L : List Ms} (h : NetF T w' F g L) : NetF T w' (grew F w0 w') g L := by
  obtain ⟨⟨v, xs, h1, h2, h3, h4, h5⟩, h6, h7⟩ := h
  exact ⟨⟨v, xs, h1, h2, h3, fun k hk => .inl (h4 k hk), fun u hu => (h5 u hu).mono fun k hk => .inl hk⟩, .inl h6, fun k hk => hk.elim (h7 k) (·.2)⟩
theorem NetF.sub {T : TypeId} {F G : Nat → Prop} {w : World} {g : Nat} {L : List Ms} (h : NetF T w F g L) (hF : ∀ k, F k → G k) (hG : ∀ k, G k → k < w.heap.size) : NetF T w G g L := by
  obtain ⟨⟨v, xs, h1, h2, h3, h4, h5⟩, h6, h7⟩ := h
  exact ⟨⟨v, xs, h1, h2, h3, fun k hk => hF k (h4 k hk), fun u hu => (h5 u hu).mono hF⟩, hF g h6, hG⟩
/-- Five values that are a message whose rows are the call's own. -/
def MsO (w : World) (B : Nat) (x : List Value) (M : Ms) : Prop := ∃ an cn ad cd, x = [.int .i64 M.fr, .int .i64 M.to, .int .i64 M.kd, .slice an M.nums.length cn, .slice ad M.data.length cd] ∧ w.ownsRow B 3 1 (.slice an M.nums.length cn) M.nums.length (BI M.nums) ∧ w.ownsRow B 5 1 (.slice ad M.data.length cd) M.data.length (B8 M.data)
theorem MsO.toR {w : World} {B : Nat} {x : List Value} {M : Ms} (h : MsO w B x M) : MsR w x M := by
  obtain ⟨an, cn, ad, cd, rfl, h1, h2⟩ := h
  obtain ⟨a1, c1, e1, r1⟩ := TRd.ofOwn h1
  obtain ⟨a2, c2, e2, r2⟩ := TRd.ofOwn h2
  cases e1; cases e2
  exact ⟨_, _, _, _, rfl, r1, r2⟩
theorem MsO.valF {w : World} {B : Nat} {x : List Value} {M : Ms} (h : MsO w B x M) : ∀ u ∈ x, ValF (fun k => B ≤ k ∧ k < w.heap.size) u := by
  obtain ⟨an, cn, ad, cd, rfl, h1, h2⟩ := h
  intro u hu b o n c e hn
  simp only [List.mem_cons, List.not_mem_nil, or_false] at hu
  rcases hu with rfl | rfl | rfl | rfl | rfl
  · cases e
  · cases e
  · cases e
  · cases e
    obtain ⟨g', cap, he, q1, q2, _⟩ := own_pos h1 (by omega)
    cases he
    exact ⟨q1, q2⟩
  · cases e
    obtain ⟨g', cap, he, q1, q2, _⟩ := own_pos h2 (by omega)
    cases he
    exact ⟨q1, q2⟩
theorem MsO.off {G : Nat → Prop} {w w' : World} {B : Nat} {x : List Value} {M : Ms} (h : MsO w B x M) (ho : Off G w w') (hd : ∀ k, B ≤ k → ¬ G k) : MsO w' B x M := by
  obtain ⟨an, cn, ad, cd, rfl, h1, h2⟩ := h
  exact ⟨an, cn, ad, cd, rfl, own_off h1 ho fun k hk => hd k (h1.lt k hk).1, own_off h2 ho fun k hk => hd k (h2.lt k hk).1⟩
theorem MsO.kept {w w' : World} {B : Nat} {x : List Value} {M : Ms} (h : MsO w B x M) (hb : Below w.heap.size w w') : MsO w' B x M := by
  obtain ⟨an, cn, ad, cd, rfl, h1, h2⟩ := h
  exact ⟨an, cn, ad, cd, rfl, own_below h1 hb, own_below h2 hb⟩
theorem MsO.same {w w' : World} {B : Nat} {x : List Value} {M : Ms} (h : MsO w B x M) {t' : TypeId} {g : Nat} {cs : Array Value} (hB : BlkV w g t' cs) (h1 : 3 ≠ t') (h2 : 5 ≠ t') (hg : ∀ k, k ≠ g → w'.heap[k]? = w.heap[k]?) : MsO w' B x M := by
  obtain ⟨an, cn, ad, cd, rfl, k1, k2⟩ := h
  exact ⟨an, cn, ad, cd, rfl, own_other k1 hB h1 hg, own_other k2 hB h2 hg⟩
theorem MsO.base {w : World} {B B' : Nat} {x : List Value} {M : Ms} (h : MsO w B x M) (hB : B' ≤ B) : MsO w B' x M := by
  obtain ⟨an, cn, ad, cd, rfl, k1, k2⟩ := h
  exact ⟨an, cn, ad, cd, rfl, own_base k1 hB, own_base k2 hB⟩
theorem MsO.vals {w : World} {B : Nat} {x : Array Value} {M : Ms} (h : MsO w B x.toList M) : ∃ an cn ad cd, x = #[.int .i64 M.fr, .int .i64 M.to, .int .i64 M.kd, .slice an M.nums.length cn, .slice ad M.data.length cd] := h.toR.vals
theorem MsO.zero (w : World) (B : Nat) : MsO w B [.int .i64 0, .int .i64 0, .int .i64 0, .slice none 0 0, .slice none 0 0] Ms.zero :=
  ⟨none, 0, none, 0, rfl, World.ownsRow_nil _ _ _ _, World.ownsRow_nil _ _ _ _⟩
end Go.Proofs.Ytoagneajlfglcaa
