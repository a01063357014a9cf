/- Slices in memory: what a slice reads as, and the laws of append, make and store that the walks use. Conditions: none of the program is named here. -/
import Derived.WalkKit
import Derived.WalkLawsBesides
import Derived.WalkSpells
import Derived.Handy
import Derived.Lib.Hide
import Derived.Deep.QuietTactic
import Derived.BigQuiet
import Derived.Laws.AppendOwnNone
namespace Go.Proofs.Yteenbobblbehoaa
open Go Go.RowKit

/-- The cells that a slice's address leads to. -/
def Cs (w : World) (a : Option Addr) (xs : List Value) : Prop :=
  ∀ j u, xs[j]? = some u → ∃ b o, a = some ⟨b, o, none⟩ ∧ w.cell? ⟨b, o + j, none⟩ = some u

/-- Bytes, as cells. -/
def B8 (l : List UInt8) : List Value := l.map fun c => .int .u8 (c.toNat : Int)
/-- Ints, as cells. -/
def BI (l : List Int) : List Value := l.map fun c => .int .i64 c
/-- Truths, as cells. -/
def BB (l : List Bool) : List Value := l.map fun c => .bool c

/-- What a slice of one-cell elements reads as: 'xs'; 'cap' is its capacity. -/
def Rd (w : World) (a : Option Addr) (cap : Nat) (xs : List Value) : Prop :=
  xs.length ≤ cap ∧ cap ≤ maxLen ∧ (a = none → cap = 0) ∧ Cs w a xs

theorem B8_length (l : List UInt8) : (B8 l).length = l.length := by simp [B8]
theorem BI_length (l : List Int) : (BI l).length = l.length := by simp [BI]
theorem BB_length (l : List Bool) : (BB l).length = l.length := by simp [BB]
theorem B8_append (l m : List UInt8) : B8 (l ++ m) = B8 l ++ B8 m := by simp [B8]
theorem BI_append (l m : List Int) : BI (l ++ m) = BI l ++ BI m := by simp [BI]
theorem BB_append (l m : List Bool) : BB (l ++ m) = BB l ++ BB m := by simp [BB]
theorem B8_one (l : List UInt8) : ∀ u ∈ B8 l, u.oneCell' = true := by
  intro u hu; obtain ⟨_, _, rfl⟩ := List.mem_map.1 hu; rfl
theorem BI_one (l : List Int) : ∀ u ∈ BI l, u.oneCell' = true := by
  intro u hu; obtain ⟨_, _, rfl⟩ := List.mem_map.1 hu; rfl
theorem BB_one (l : List Bool) : ∀ u ∈ BB l, u.oneCell' = true := by
  intro u hu; obtain ⟨_, _, rfl⟩ := List.mem_map.1 hu; rfl

theorem one_int (k : IntKind) (n : Int) : ∀ u ∈ [Value.int k n], u.oneCell' = true := by simp [Value.oneCell']
theorem Cs.b8 {w : World} {a : Option Addr} {l : List UInt8} (h : Cs w a (B8 l)) (k : Nat) (hk : k < l.length) :
    ∃ b o, a = some ⟨b, o, none⟩ ∧ w.cell? ⟨b, o + k, none⟩ = some (.int .u8 (l[k].toNat : Int)) :=
  h k _ (by simp [B8, hk])
theorem Cs.bi {w : World} {a : Option Addr} {l : List Int} (h : Cs w a (BI l)) (k : Nat) (hk : k < l.length) :
    ∃ b o, a = some ⟨b, o, none⟩ ∧ w.cell? ⟨b, o + k, none⟩ = some (.int .i64 l[k]) :=
  h k _ (by simp [BI, hk])
theorem Cs.bb {w : World} {a : Option Addr} {l : List Bool} (h : Cs w a (BB l)) (k : Nat) (hk : k < l.length) :
    ∃ b o, a = some ⟨b, o, none⟩ ∧ w.cell? ⟨b, o + k, none⟩ = some (.bool l[k]) :=
  h k _ (by simp [BB, hk])

theorem Cs.nil (w : World) (a : Option Addr) : Cs w a [] := fun j u h => by simp at h
theorem Cs.below {w w' : World} {a : Option Addr} {xs : List Value} {B : Nat} (h : Cs w a xs) (hb : Below B w w') (hB : ∀ b o, a = some ⟨b, o, none⟩ → xs ≠ [] → b < B) : Cs w' a xs := by
  intro j u hu
  obtain ⟨b, o, ha, hc⟩ := h j u hu
  refine ⟨b, o, ha, ?_⟩
  rw [hb.cell (p := ⟨b, o + j, none⟩) (hB b o ha (by rintro rfl; simp at hu))]
  exact hc
theorem Cs.kept {w w' : World} {a : Option Addr} {xs : List Value} (h : Cs w a xs) (hb : Below w.heap.size w w') : Cs w' a xs := by
  intro j u hu
  obtain ⟨b, o, ha, hc⟩ := h j u hu
  exact ⟨b, o, ha, by rw [hb.cell (p := ⟨b, o + j, none⟩) (World.block_lt_of_cell? w _ hc)]; exact hc⟩
theorem Cs.drewN {w : World} {a : Option Addr} {xs : List Value} (h : Cs w a xs) (n : Nat) : Cs (w.drewN n) a xs :=
  h.kept (below_drewN (Below.refl _ _) n)
theorem Rd.kept {w w' : World} {a : Option Addr} {c : Nat} {xs : List Value} (h : Rd w a c xs) (hb : Below w.heap.size w w') : Rd w' a c xs :=
  ⟨h.1, h.2.1, h.2.2.1, h.2.2.2.kept hb⟩
theorem Rd.drewN {w : World} {a : Option Addr} {c : Nat} {xs : List Value} (h : Rd w a c xs) (n : Nat) : Rd (w.drewN n) a c xs := h.kept (below_drewN (Below.refl _ _) n)
theorem Rd.cs {w : World} {a : Option Addr} {c : Nat} {xs : List Value} (h : Rd w a c xs) : Cs w a xs := h.2.2.2
theorem Rd.le {w : World} {a : Option Addr} {c : Nat} {xs : List Value} (h : Rd w a c xs) : xs.length ≤ 9223372036854775807 := by
  have := h.1; have := h.2.1; unfold maxLen at this; omega
theorem Cs.take {w : World} {a : Option Addr} {xs : List Value} (h : Cs w a xs) (k : Nat) : Cs w a (xs.take k) := by
  intro j u hu
  rw [List.getElem?_take] at hu
  split at hu
  · exact h j u hu
  · simp at hu
/-- a[:k] -/
theorem Rd.take {w : World} {a : Option Addr} {c : Nat} {xs : List Value} (h : Rd w a c xs) (k : Nat) : Rd w a c (xs.take k) :=
  ⟨by have := h.1; simp; omega, h.2.1, h.2.2.1, h.cs.take k⟩

theorem Rd.pre {w : World} {a : Option Addr} {c : Nat} {l m : List UInt8} (h : Rd w a c (B8 (l ++ m))) : Rd w a c (B8 l) := by
  have := h.take l.length
  rwa [B8_append, List.take_left' (B8_length l)] at this
/-- What is owned reads. -/
theorem Rd.ofOwn {w : World} {base : Nat} {e : TypeId} {v : Value} {n : Nat} {xs : List Value} (h : w.ownsRow base e 1 v n xs) :
    ∃ a cap, v = .slice a n cap ∧ Rd w a cap xs := by
  have hl : xs.length = n := by simpa using h.1
  rcases h.2 with ⟨rfl, rfl⟩ | ⟨g, cap, cur, rfl, _, hg, h1, h2, h3, h4⟩
  · have : xs = [] := List.eq_nil_of_length_eq_zero hl
    subst this
    exact ⟨none, 0, rfl, Nat.le_refl _, by unfold maxLen; omega, fun _ => rfl, Cs.nil _ _⟩
  · refine ⟨_, cap, rfl, by omega, h2, fun h => by simp at h, ?_⟩
    intro j u hu
    refine ⟨g, 0, rfl, ?_⟩
    have := h.cells (g := g) rfl j u hu
    rwa [Addr.add_lit] at this

/-- '[]T{}'. -/
theorem own_empty (w : World) (e : TypeId) : (w.alloc (.cells #[] e)).ownsRow w.heap.size e 1 (.slice (some ⟨w.heap.size, 0, none⟩) 0 0) 0 [] := by
  have := World.ownsRow_lit (e := e) (size := 1) w #[] 0 (Nat.le_refl w.heap.size) (by unfold maxLen; omega) rfl
  simpa using this
theorem own_pos {w : World} {base : Nat} {e : TypeId} {sz : Nat} {v : Value} {n : Nat} {xs : List Value} (h : w.ownsRow base e sz v n xs) (hn : 0 < n) :
    ∃ g cap, v = .slice (some ⟨g, 0, none⟩) n cap ∧ base ≤ g ∧ g < w.heap.size ∧ n ≤ cap ∧ cap ≤ maxLen := by
  rcases h.2 with ⟨rfl, rfl⟩ | ⟨g, cap, cur, rfl, hb, hg, h1, h2, _⟩
  · omega
  · exact ⟨g, cap, rfl, hb, (Array.getElem?_eq_some_iff.1 hg).1, h1, h2⟩
theorem own_take {w : World} {base : Nat} {e : TypeId} {g n cap : Nat} {xs : List Value} (h : w.ownsRow base e 1 (.slice (some ⟨g, 0, none⟩) n cap) n xs) (k : Nat) (hk : k ≤ n) :
    w.ownsRow base e 1 (.slice (some ⟨g, 0, none⟩) k cap) k (xs.take k) := by
  have hl : xs.length = n := by simpa using h.1
  refine ⟨by simp; omega, ?_⟩
  rcases h.2 with ⟨h', _⟩ | ⟨g', cap', cur, hv, hb, hg, h1, h2, h3, h4⟩
  · simp at h'
  · simp only [Value.slice.injEq, Option.some.injEq, Addr.mk.injEq, and_true, true_and] at hv
    obtain ⟨rfl, rfl⟩ := hv
    refine .inr ⟨g, cap, cur, rfl, hb, hg, by omega, h2, h3, ?_⟩
    rw [← h4, List.take_take]
    congr 1
    omega
theorem own_base {w : World} {base base' : Nat} {e : TypeId} {sz : Nat} {v : Value} {n : Nat} {xs : List Value} (h : w.ownsRow base e sz v n xs) (hb : base' ≤ base) : w.ownsRow base' e sz v n xs := by
  refine ⟨h.1, ?_⟩
  rcases h.2 with h' | ⟨g, cap, cur, hv, hg, r⟩
  · exact .inl h'
  · exact .inr ⟨g, cap, cur, hv, by omega, r⟩

theorem B8_set (l : List UInt8) (k : Nat) (x : UInt8) : (B8 l).set k (.int .u8 (x.toNat : Int)) = B8 (l.set k x) := by simp [B8, List.map_set]
theorem B8_get (l : List UInt8) (k : Nat) (hk : k < l.length) : (B8 l)[k]? = some (.int .u8 (l[k].toNat : Int)) := by simp [B8, hk]
/-- A cell that is owned. -/
theorem own_cell8 {w : World} {base : Nat} {e : TypeId} {g cap : Nat} {l : List UInt8} (h : w.ownsRow base e 1 (.slice (some ⟨g, 0, none⟩) l.length cap) l.length (B8 l)) (k : Nat) (hk : k < l.length) :
    w.cell? ⟨g, k, none⟩ = some (.int .u8 (l[k].toNat : Int)) := by
  rw [h.cellAt k (by omega), B8_get l k hk]
theorem own_cell8n {w : World} {base : Nat} {e : TypeId} {g cap n : Nat} {l : List UInt8} (h : w.ownsRow base e 1 (.slice (some ⟨g, 0, none⟩) n cap) n (B8 l)) (k : Nat) (hk : k < l.length) :
    w.cell? ⟨g, k, none⟩ = some (.int .u8 (l[k].toNat : Int)) := by
  have hl : l.length = n := by have := h.1; rw [B8_length] at this; omega
  rw [h.cellAt k (by omega), B8_get l k hk]
theorem own_set8n {w : World} {base : Nat} {e : TypeId} {g cap n : Nat} {l : List UInt8} (h : w.ownsRow base e 1 (.slice (some ⟨g, 0, none⟩) n cap) n (B8 l)) (k : Nat) (x : UInt8) :
    (w.setCell ⟨g, k, none⟩ (.int .u8 (x.toNat : Int))).ownsRow base e 1 (.slice (some ⟨g, 0, none⟩) n cap) n (B8 (l.set k x)) := by
  have := (h.stored k (.int .u8 (x.toNat : Int))).1
  rwa [B8_set] at this
theorem own_setBn {w : World} {base : Nat} {e : TypeId} {g cap n : Nat} {l : List Bool} (h : w.ownsRow base e 1 (.slice (some ⟨g, 0, none⟩) n cap) n (BB l)) (k : Nat) (x : Bool) :
    (w.setCell ⟨g, k, none⟩ (.bool x)).ownsRow base e 1 (.slice (some ⟨g, 0, none⟩) n cap) n (BB (l.set k x)) := by
  have := (h.stored k (.bool x)).1
  have e : (BB l).set k (.bool x) = BB (l.set k x) := by simp [BB, List.map_set]
  rwa [e] at this
theorem made8 (m : Nat) : (madeCells (Value.int .u8 0).cells (m * 1)).toList = B8 (List.replicate m 0) := by
  rw [Nat.mul_one]
  show (madeCells #[Value.int .u8 0] m).toList = _
  rw [toList_madeCells_one]
  simp [B8]
theorem madeB (m : Nat) : (madeCells (Value.bool false).cells (m * 1)).toList = BB (List.replicate m false) := by
  rw [Nat.mul_one]
  show (madeCells #[Value.bool false] m).toList = _
  rw [toList_madeCells_one]
  simp [BB]
theorem madeI (m : Nat) : (madeCells (Value.int .i64 0).cells (m * 1)).toList = BI (List.replicate m 0) := by
  rw [Nat.mul_one]
  show (madeCells #[Value.int .i64 0] m).toList = _
  rw [toList_madeCells_one]
  simp [BI]
/-- A byte stored into what is owned. -/
theorem own_set8 {w : World} {base : Nat} {e : TypeId} {g cap : Nat} {l : List UInt8} (h : w.ownsRow base e 1 (.slice (some ⟨g, 0, none⟩) l.length cap) l.length (B8 l)) (k : Nat) (x : UInt8) :
    (w.setCell ⟨g, k, none⟩ (.int .u8 (x.toNat : Int))).ownsRow base e 1 (.slice (some ⟨g, 0, none⟩) (l.set k x).length cap) (l.set k x).length (B8 (l.set k x)) := by
  have := (h.stored k (.int .u8 (x.toNat : Int))).1
  rw [B8_set] at this
  rw [List.length_set]
  exact this

/-- A place at which a walk is held: 'go_wp2_with (at_builtin; refine At.mk ?_)'. -/
def At (p : Prop) : Prop := p
theorem At.mk {p : Prop} (h : At p) : p := h
/-- .. at the operation that writes slot k; at a store: 'go_wp2_with (with_reducible refine At.slot 11 ?_)'. -/
theorem At.slot {P : Program} {ops : Array Oper} {Q : Exit → Act → World → Prop} {rest : List Oper} {a : Act} {w : World} (k : Nat) {op : Op} {ty : TypeId} {pos : String} {after : Array Edge} {g : Option (Nat × Bool)}
    (h : At (wpList P ops Q (⟨some k, op, ty, pos, after, g⟩ :: rest) a w)) : wpList P ops Q (⟨some k, op, ty, pos, after, g⟩ :: rest) a w := h
theorem At.store {P : Program} {ops : Array Oper} {Q : Exit → Act → World → Prop} {rest : List Oper} {a : Act} {w : World} (t : TypeId) (x y : Operand) {ty : TypeId} {pos : String} {after : Array Edge} {g : Option (Nat × Bool)}
    (h : At (wpList P ops Q (⟨none, .store t x y, ty, pos, after, g⟩ :: rest) a w)) : wpList P ops Q (⟨none, .store t x y, ty, pos, after, g⟩ :: rest) a w := h
theorem At.out {p : Prop} (h : p) : At p := h

/-- The world as it was, but for draws. -/
def Qt (w w' : World) : Prop := ∃ n, w' = w.drewN n
theorem Qt.below {w w' : World} (h : Qt w w') (B : Nat) : Below B w w' := by
  obtain ⟨n, rfl⟩ := h
  exact below_drewN (Below.refl _ _) n
theorem Qt.drew {w w' : World} (h : Qt w w') (n : Nat) : Qt w (w'.drewN n) := by
  obtain ⟨m, rfl⟩ := h
  exact ⟨_, World.drewN_drewN _ _ _⟩
theorem Qt.refl (w : World) : Qt w w := ⟨0, rfl⟩
theorem Qt.size {w w' : World} (h : Qt w w') : w'.heap.size = w.heap.size := by
  obtain ⟨n, rfl⟩ := h
  rfl

theorem own_below {w w' : World} {base : Nat} {e : TypeId} {sz : Nat} {v : Value} {n : Nat} {xs : List Value} (h : w.ownsRow base e sz v n xs) (hb : Below w.heap.size w w') : w'.ownsRow base e sz v n xs := by
  refine ⟨h.1, ?_⟩
  rcases h.2 with h' | ⟨g, cap, cur, hv, hg, hh, r⟩
  · exact .inl h'
  · refine .inr ⟨g, cap, cur, hv, hg, ?_, r⟩
    rw [hb.block g (Array.getElem?_eq_some_iff.1 hh).1]
    exact hh
theorem own_rd {w : World} {base : Nat} {e : TypeId} {g cap n : Nat} {xs : List Value} (h : w.ownsRow base e 1 (.slice (some ⟨g, 0, none⟩) n cap) n xs) : Rd w (some ⟨g, 0, none⟩) cap xs := by
  obtain ⟨a', c', hv, hrd⟩ := Rd.ofOwn h
  simp only [Value.slice.injEq, true_and] at hv
  obtain ⟨rfl, rfl⟩ := hv
  exact hrd

/-- The element type of a slice type, out of the program's table. -/
structure ElemT (P : Program) (t e : TypeId) (sz : Nat) (z : Value) (bytes : Nat) : Prop where
  ht : P.underlying t = some (.slice e)
  hi : ∃ i, P.info? e = some i ∧ i.zero = some z ∧ i.size = sz ∧ i.bytes = bytes

theorem below_grown {base : Nat} {w w' : World} {row : Option Nat} (hg : w.grownBy w' row) (hB : base ≤ w.heap.size) (hr : ∀ k, row = some k → base ≤ k) : Below base w w' :=
  (Below.refl base w).grown hg hB hr

/-- append onto what is owned, of whatever reads (nil too): one-cell elements. -/
theorem wpList_app {P : Program} {w : World} {ops : Array Oper} {rest : List Oper} {o : Oper} {a : Act} {Q : Exit → Act → World → Prop} {e : TypeId} {z : Value} {bytes : Nat}
    (hgd : o.guard = none) (s x : Operand) (t : TypeId)
    (ho : o.op = .call { callee := .builtin .append, args := #[s, x], argTypes := #[t, t] })
    (T : ElemT P t e 1 z bytes) (hz1 : z.cells.size = 1)
    (base : Nat) (v : Value) (n : Nat) (xs : List Value) (hs : a.eval s = v) (hown : w.ownsRow base e 1 v n xs)
    (ad : Option Addr) (m c : Nat) (news : List Value) (hx : a.eval x = .slice ad m c) (hm : m = news.length) (hr : Rd w ad c news) (h1 : ∀ u ∈ news, u.oneCell' = true)
    (h63 : n + m ≤ maxLen) (hbytes : (n + m) * bytes ≤ 140737488355328) (hbase : base ≤ w.heap.size)
    (h : ∀ v' w', w'.ownsRow base e 1 v' (n + m) (xs ++ news) → Below base w w' → w.grownBy w' v.ownBlock → wpList P ops Q rest (a.put o.dst v') w') : wpList P ops Q (o :: rest) a w := by
  obtain ⟨i, hi, hz, hsz, hby⟩ := T.hi
  cases ad with
  | none =>
    have hc0 := hr.2.2.1 rfl
    have hl := hr.1
    have hnews : news = [] := List.eq_nil_of_length_eq_zero (by omega)
    subst hnews
    subst hm
    refine wpList_append_own_none hgd s x t ho base e i 1 T.ht hi v n xs hs hown (by rw [hx, hc0]; rfl) ?_
    exact h v w (by simpa using hown) (Below.refl _ _) (World.grownBy.refl _ _)
  | some ad =>
    refine wpList_append_own w hgd s x t ho base e i z 1 bytes T.ht hi hz hsz hby hz1 (by omega) v n xs hs hown ad m c news hx (by omega) ?_ h1 h63 hbytes hbase ?_
    · intro j u hu
      obtain ⟨b, of, hab, hc⟩ := hr.cs j u hu
      obtain rfl := Option.some.inj hab
      rw [Addr.add_lit]
      exact hc
    · intro v' w' ho' hg _
      exact h v' w' ho' (below_grown hg hbase (fun k hk => (hown.lt k hk).1)) hg

/-- Two cells of a new block, a literal slice's: 'append(b, x)'. -/
theorem Rd.one (w : World) (u : Value) (t : TypeId) : Rd (w.alloc (.cells #[u] t)) (some ⟨w.heap.size, 0, none⟩) 1 [u] := by
  refine ⟨Nat.le_refl _, by unfold maxLen; omega, fun h => by simp at h, ?_⟩
  intro j x hx
  refine ⟨_, _, rfl, ?_⟩
  match j with
  | 0 => simpa using hx
  | j + 1 => simp at hx
/-- A literal's block. -/
theorem Rd.lit (w : World) (C : Array Value) (t : TypeId) (fr : Nat × Nat) (h : C.size ≤ maxLen) : Rd (w.alloc (.cells C t fr)) (some ⟨w.heap.size, 0, none⟩) C.size C.toList := by
  refine ⟨Nat.le_of_eq (by simp), h, fun h => by simp at h, ?_⟩
  intro j x hx
  refine ⟨_, _, rfl, ?_⟩
  rw [cell_of_row _ w.heap.size (0 + j) C t fr (heap_alloc_new w _)]
  simpa using hx

theorem wf_u8_bd {n : Int} (h : (Lit.int .u8 n).wf = true) : 0 ≤ n ∧ n ≤ 255 := by
  have h1 : IntKind.u8.min = 0 := by decide
  have h2 : IntKind.u8.max = 255 := by decide
  simpa [Lit.wf, h1, h2] using h
theorem wf_u32_bd {n : Int} (h : (Lit.int .u32 n).wf = true) : 0 ≤ n ∧ n ≤ 4294967295 := by
  have h1 : IntKind.u32.min = 0 := by decide
  have h2 : IntKind.u32.max = 4294967295 := by decide
  simpa [Lit.wf, h1, h2] using h
theorem wf_u64_bd {n : Int} (h : (Lit.int .u64 n).wf = true) : 0 ≤ n ∧ n ≤ 18446744073709551615 := by
  have h1 : IntKind.u64.min = 0 := by decide
  have h2 : IntKind.u64.max = 18446744073709551615 := by decide
  simpa [Lit.wf, h1, h2] using h
theorem wf_i64_of {n : Int} (h : (Lit.int .i64 n).wf = true) : -9223372036854775808 ≤ n ∧ n ≤ 9223372036854775807 := by
  have h1 : IntKind.i64.min = -9223372036854775808 := by decide
  have h2 : IntKind.i64.max = 9223372036854775807 := by decide
  simpa [Lit.wf, h1, h2] using h
/-- What the row's reading hands over of a slice of bytes. -/
theorem Rd.ofBytes {w : World} {x : Addr} {len cap : Nat} {zs : List Int} (hl : len ≤ cap) (hm : cap ≤ maxLen) (hz : zs.length = cap)
    (hcell : ∀ i, i < zs.length → w.cell? (x.add i) = some (.int .u8 (zs.getD i 0))) (hwz : ∀ n ∈ zs, (Lit.int .u8 n).wf = true) :
    ∃ l : List UInt8, len = l.length ∧ Rd w (some x) cap (B8 l) := by
  refine ⟨(zs.take len).map fun n => UInt8.ofNat n.toNat, by simp; omega, by simp [B8]; omega, hm, fun h => by simp at h, ?_⟩
  intro j u hu
  have hj : j < len ∧ j < zs.length := by
    have := (List.getElem?_eq_some_iff.1 hu).1
    simp [B8] at this; omega
  have hc := hcell j hj.2
  have hs : x.spot = none ∨ j = 0 := by
    by_cases h0 : j = 0
    · exact .inr h0
    · have := World.cell?_spot (hcell 0 (by omega))
      left; simpa [Addr.add] using this
  obtain ⟨b, o, sp⟩ := x
  have hsp : sp = none := by
    have := World.cell?_spot (hcell 0 (by omega))
    simpa [Addr.add] using this
  subst hsp
  refine ⟨b, o, rfl, ?_⟩
  have hadd : (⟨b, o, none⟩ : Addr).add j = ⟨b, o + j, none⟩ := Addr.add_lit ..
  rw [hadd] at hc
  rw [hc, ← hu]
  have hmem : zs.getD j 0 ∈ zs := by
    rw [List.getD_eq_getElem?_getD, List.getElem?_eq_getElem hj.2]; exact List.getElem_mem _
  have hwf := hwz _ hmem
  have hb := wf_u8_bd hwf
  simp only [B8, List.map_map, List.getElem?_map, List.getElem?_take, if_pos hj.1, List.getElem?_eq_getElem hj.2, Option.map_some, Function.comp_apply]
  rw [List.getD_eq_getElem?_getD, List.getElem?_eq_getElem hj.2] at hb ⊢
  simp only [Option.getD_some] at hb ⊢
  rw [UInt8.toNat_ofNat', Nat.mod_eq_of_lt (by omega), Int.toNat_of_nonneg hb.1]
/-- One-cell elements, whatever they are. -/
theorem Rd.ofCells {w : World} {x : Addr} {len cap : Nat} (V : Nat → Value) (hl : len ≤ cap) (hm : cap ≤ maxLen)
    (hcell : ∀ i, i < cap → w.cell? (x.add i) = some (V i)) : Rd w (some x) cap ((List.range len).map V) := by
  refine ⟨by simp; omega, hm, fun h => by simp at h, ?_⟩
  intro j u hu
  have hj : j < len := by
    have := (List.getElem?_eq_some_iff.1 hu).1
    simpa using this
  obtain ⟨b, o, sp⟩ := x
  have hsp : sp = none := by
    have := World.cell?_spot (hcell 0 (by omega))
    simpa [Addr.add] using this
  subst hsp
  refine ⟨b, o, rfl, ?_⟩
  have hadd : (⟨b, o, none⟩ : Addr).add j = ⟨b, o + j, none⟩ := Addr.add_lit ..
  have hc := hcell j (by omega)
  rw [hadd] at hc
  rw [hc, ← hu]
  simp [hj]
theorem Rd.ofBools {w : World} {x : Addr} {len cap : Nat} {B : Nat → Bool} (hl : len ≤ cap) (hm : cap ≤ maxLen)
    (hcell : ∀ i, i < cap → w.cell? (x.add i) = some (.bool (B i))) : ∃ l : List Bool, len = l.length ∧ Rd w (some x) cap (BB l) := by
  refine ⟨(List.range len).map B, by simp, ?_⟩
  have := Rd.ofCells (fun i => Value.bool (B i)) hl hm hcell
  have e : BB ((List.range len).map B) = (List.range len).map (fun i => Value.bool (B i)) := by simp [BB]
  rw [e]; exact this
theorem Rd.ofInts {w : World} {x : Addr} {len cap : Nat} {zs : List Int} (hl : len ≤ cap) (hm : cap ≤ maxLen) (hz : zs.length = cap)
    (hcell : ∀ i, i < zs.length → w.cell? (x.add i) = some (.int .i64 (zs.getD i 0))) (hwz : ∀ n ∈ zs, (Lit.int .i64 n).wf = true) :
    ∃ l : List Int, len = l.length ∧ Rd w (some x) cap (BI l) ∧ ∀ n ∈ l, -9223372036854775808 ≤ n ∧ n ≤ 9223372036854775807 := by
  refine ⟨(List.range len).map (fun i => zs.getD i 0), by simp, ?_, ?_⟩
  · have := Rd.ofCells (fun i => Value.int .i64 (zs.getD i 0)) hl hm (fun i hi => hcell i (by omega))
    have e : BI ((List.range len).map (fun i => zs.getD i 0)) = (List.range len).map (fun i => Value.int .i64 (zs.getD i 0)) := by simp [BI]
    rw [e]; exact this
  · intro n hn
    obtain ⟨i, hi, rfl⟩ := List.mem_map.1 hn
    have hi := List.mem_range.1 hi
    apply wf_i64_of
    apply hwz
    rw [List.getD_eq_getElem?_getD, List.getElem?_eq_getElem (by omega)]
    exact List.getElem_mem _
theorem Rd.none (w : World) : Rd w none 0 [] := ⟨Nat.le_refl _, by unfold maxLen; omega, fun _ => rfl, Cs.nil _ _⟩
theorem wf_u8_of {n : Int} (h : (Lit.int .u8 n).wf = true) : ∃ x : UInt8, n = (x.toNat : Int) := by
  have hb := wf_u8_bd h
  exact ⟨UInt8.ofNat n.toNat, by rw [UInt8.toNat_ofNat', Nat.mod_eq_of_lt (by omega)]; omega⟩
theorem wf_u32_of {n : Int} (h : (Lit.int .u32 n).wf = true) : ∃ x : UInt32, n = (x.toNat : Int) := by
  have hb := wf_u32_bd h
  exact ⟨UInt32.ofNat n.toNat, by rw [UInt32.toNat_ofNat', Nat.mod_eq_of_lt (by omega)]; omega⟩
theorem wf_u64_of {n : Int} (h : (Lit.int .u64 n).wf = true) : ∃ x : UInt64, n = (x.toNat : Int) := by
  have hb := wf_u64_bd h
  exact ⟨UInt64.ofNat n.toNat, by rw [UInt64.toNat_ofNat', Nat.mod_eq_of_lt (by omega)]; omega⟩
end Go.Proofs.Yteenbobblbehoaa
