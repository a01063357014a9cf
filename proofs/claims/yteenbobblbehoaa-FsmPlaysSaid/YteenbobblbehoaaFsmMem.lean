/- A table in memory: rows behind pointers; what a call may turn (Off). Conditions: each law's own premises. -/
import Derived.Test.YteenbobblbehoaaCom0
import Derived.Test.YteenbobblbehoaaBlkV
namespace Go.Proofs.Yteenbobblbehoaa
open Go Go.RowKit

/-- What was there and is none of F is as it was. -/
structure Off (F : Nat → Prop) (w w' : World) : Prop where
  os : w'.os = w.os
  tape : w'.tape = w.tape
  output : w'.output = w.output
  size : w.heap.size ≤ w'.heap.size
  block : ∀ k, k < w.heap.size → ¬ F k → w'.heap[k]? = w.heap[k]?
theorem Off.refl (F : Nat → Prop) (w : World) : Off F w w := ⟨rfl, rfl, rfl, Nat.le_refl _, fun _ _ _ => rfl⟩
theorem Off.ofBelow {F : Nat → Prop} {w w' : World} (h : Below w.heap.size w w') : Off F w w' := ⟨h.os, h.tape, h.output, h.size, fun k hk _ => h.block k hk⟩
theorem Off.trans {F G : Nat → Prop} {a b c : World} (h : Off F a b) (k : Off G b c) (hG : ∀ x, G x → F x ∨ a.heap.size ≤ x) : Off F a c :=
  ⟨k.os.trans h.os, k.tape.trans h.tape, k.output.trans h.output, Nat.le_trans h.size k.size, fun x hx hf => by
    rw [k.block x (by have := h.size; omega) (fun hg => (hG x hg).elim hf (by omega)), h.block x hx hf]⟩
theorem Off.then {F : Nat → Prop} {a b c : World} (h : Off F a b) (k : Off F b c) : Off F a c := h.trans k fun _ h => .inl h
theorem Off.below {F : Nat → Prop} {a b c : World} (h : Off F a b) (k : Below b.heap.size b c) : Off F a c := h.then (Off.ofBelow k)
theorem Off.mono {F G : Nat → Prop} {w w' : World} (h : Off F w w') (hG : ∀ x, F x → x < w.heap.size → G x) : Off G w w' := ⟨h.os, h.tape, h.output, h.size, fun k hk hg => h.block k hk fun hf => hg (hG k hf hk)⟩
theorem Off.toBelow {F : Nat → Prop} {w w' : World} {B : Nat} (h : Off F w w') (hB : B ≤ w.heap.size) (hF : ∀ x, F x → B ≤ x) : Below B w w' :=
  ⟨h.os, h.tape, h.output, h.size, fun k hk => h.block k (by omega) fun hf => by have := hF k hf; omega⟩
theorem Off.setCell {F : Nat → Prop} {w : World} {p : Addr} (hp : F p.block) (u : Value) : Off F w (w.setCell p u) :=
  ⟨rfl, rfl, rfl, by simp [World.setCell], fun k _ hf => Below.heap_setCell _ _ _ _ (fun e => hf (e ▸ hp))⟩
theorem Off.ofOne {F : Nat → Prop} {w w' : World} {B g : Nat} (hb : Below B w w') (ho : ∀ k, k ≠ g → w'.heap[k]? = w.heap[k]?) (hg : F g) : Off F w w' :=
  ⟨hb.os, hb.tape, hb.output, hb.size, fun k _ hf => ho k fun e => hf (e ▸ hg)⟩
theorem Off.ofGrown {F : Nat → Prop} {w w' : World} {row : Option Nat} (hg : w.grownBy w' row) (hr : ∀ k, row = some k → F k) : Off F w w' :=
  ⟨hg.os, hg.tape, hg.output, hg.size, fun k hk hf => hg.block k hk fun e => hf (hr k e.symm)⟩
theorem Off.drew {F : Nat → Prop} {a w : World} (h : Off F a w) : Off F a w.drew := ⟨h.os, h.tape, h.output, h.size, h.block⟩

/-- What reads, in a block of a type that is known. -/
def TRd (w : World) (t : TypeId) (a : Option Addr) (c : Nat) (xs : List Value) : Prop := Rd w a c xs ∧ ∀ b o, xs ≠ [] → a = some ⟨b, o, none⟩ → ∃ cs fr, w.heap[b]? = some (.cells cs t fr)
theorem TRd.ofOwn {w : World} {base : Nat} {e : TypeId} {v : Value} {n : Nat} {xs : List Value} (h : w.ownsRow base e 1 v n xs) : ∃ a c, v = .slice a n c ∧ TRd w e a c xs := by
  obtain ⟨a, c, hv, hr⟩ := Rd.ofOwn h
  refine ⟨a, c, hv, hr, fun b o _ ha => ?_⟩
  rcases h.2 with ⟨hn, h0⟩ | ⟨g, cap, cur, hv', _, hg, _⟩
  · rw [hv, ha] at hn; cases hn
  · rw [hv, ha] at hv'
    cases hv'
    exact ⟨cur, _, hg⟩
theorem Rd.offB {G : Nat → Prop} {w w' : World} {a : Option Addr} {c : Nat} {xs : List Value} (h : Rd w a c xs) (hg : Off G w w') (hr : ∀ b o, xs ≠ [] → a = some ⟨b, o, .none⟩ → ¬ G b) : Rd w' a c xs := by
  refine ⟨h.1, h.2.1, h.2.2.1, fun j u hu => ?_⟩
  obtain ⟨b, o, ha, hc⟩ := h.cs j u hu
  have hb : b < w.heap.size := by
    unfold World.cell? at hc
    by_cases hb : b < w.heap.size
    · exact hb
    · rw [Array.getElem?_eq_none (by simpa using hb)] at hc
      simp at hc
  exact ⟨b, o, ha, by rw [World.cell?_of_block (hg.block b hb (hr b o (by rintro rfl; simp at hu) ha))]; exact hc⟩
theorem TRd.offB {G : Nat → Prop} {w w' : World} {t : TypeId} {a : Option Addr} {c : Nat} {xs : List Value} (h : TRd w t a c xs) (hg : Off G w w') (hr : ∀ b o, xs ≠ [] → a = some ⟨b, o, none⟩ → ¬ G b) : TRd w' t a c xs := by
  by_cases hx : xs = []
  · subst hx
    exact ⟨⟨h.1.1, h.1.2.1, h.1.2.2.1, Cs.nil _ _⟩, fun b o hx => absurd rfl hx⟩
  · have hblk : ∀ b o, a = some ⟨b, o, none⟩ → w'.heap[b]? = w.heap[b]? := fun b o ha => by
      obtain ⟨cs, fr, hh⟩ := h.2 b o hx ha
      exact hg.block b (Array.getElem?_eq_some_iff.1 hh).1 (hr b o hx ha)
    refine ⟨⟨h.1.1, h.1.2.1, h.1.2.2.1, fun j u hu => ?_⟩, fun b o _ ha => ?_⟩
    · obtain ⟨b, o, ha, hc⟩ := h.1.cs j u hu
      exact ⟨b, o, ha, by rw [World.cell?_of_block (hblk b o ha)]; exact hc⟩
    · obtain ⟨cs, fr, hh⟩ := h.2 b o hx ha
      exact ⟨cs, fr, by rw [hblk b o ha]; exact hh⟩
theorem TRd.off {F : Nat → Prop} {w w' : World} {t : TypeId} {a : Option Addr} {c : Nat} {xs : List Value} (h : TRd w t a c xs) (hg : Off F w w') (hr : ∀ k cs fr, F k → w.heap[k]? ≠ some (.cells cs t fr)) : TRd w' t a c xs :=
  h.offB hg fun b o hx ha hF => by
    obtain ⟨cs, fr, hh⟩ := h.2 b o hx ha
    exact hr b cs fr hF hh
theorem TRd.kept {w w' : World} {t : TypeId} {a : Option Addr} {c : Nat} {xs : List Value} (h : TRd w t a c xs) (hb : Below w.heap.size w w') : TRd w' t a c xs :=
  h.off (F := fun _ => False) (Off.ofBelow hb) fun _ _ _ h => h.elim

/-- A volume: its state, epoch, nodes; is it frozen? its next key. -/
structure Vl where
  st : Int
  ep : Int
  nodes : List Int
  fr : Bool
  key : Int
def ptrV (p : Nat) : Value := .pointer (some ⟨p, 0, none⟩)
/-- A row of the table, the volume i; its nodes lie in blocks of F. -/
def VlR (w : World) (F : Nat → Prop) (p i : Nat) (V : Vl) : Prop := ∃ a c, BlkV w p 65 #[.int .i64 ((i : Int) + 1), .int .i64 V.st, .int .i64 V.ep, .slice a V.nodes.length c, .bool V.fr, .int .i64 0, .int .i64 V.key] ∧ TRd w 3 a c (BI V.nodes) ∧ ∀ b o, BI V.nodes ≠ [] → a = some ⟨b, o, none⟩ → F b
/-- Cells of a block, written one behind the other. -/
def putCs : Array Value → Nat → List Value → Array Value
  | cur, _, [] => cur
  | cur, i, v :: r => putCs (cur.setIfInBounds i v) (i + 1) r
theorem run_storeCells_off {P : Program} (g off : Nat) (t : TypeId) : ∀ (vs : List Value) (i : Nat) (cur : Array Value) (w : World), BlkV w g t cur → off + i + vs.length ≤ cur.size → (∀ v ∈ vs, v.oneCell' = true) →
    ∃ w', (storeCells ⟨g, off, none⟩ vs i).run P w = .ok () w' ∧ BlkV w' g t (putCs cur (off + i) vs) ∧ Off (· = g) w w'
  | [], i, cur, w, hg, _, _ => ⟨w, rfl, hg, Off.refl _ _⟩
  | v :: rest, i, cur, w, hg, hl, h1 => by
    simp only [List.length_cons] at hl
    have hi : off + i < cur.size := by omega
    have hadd : (⟨g, off, none⟩ : Addr).add i = ⟨g, off + i, none⟩ := Addr.add_lit ..
    have hcell : w.cell? ⟨g, off + i, none⟩ = some cur[off + i] := by rw [hg.cell]; simp [hi]
    have hfro : w.frozen? ⟨g, off + i, none⟩ = false := hg.frozen _
    have hst : (store ((⟨g, off, none⟩ : Addr).add i) v).run P w = .ok () (w.setCell ⟨g, off + i, none⟩ v) := by
      rw [hadd, run_store P w _ v _ (h1 v (by simp)), hcell]
      simp [hfro]
    obtain ⟨w', e1, e2, e3⟩ := run_storeCells_off (P := P) g off t rest (i + 1) (cur.setIfInBounds (off + i) v) (w.setCell ⟨g, off + i, none⟩ v) (hg.set _ _) (by simp; omega) (fun x hx => h1 x (by simp [hx]))
    refine ⟨w', ?_, ?_, (Off.setCell (F := (· = g)) (p := ⟨g, off + i, none⟩) rfl v).then e3⟩
    · simp only [storeCells, Sem.run_bind, hst, Result.andThen_ok]
      exact e1
    · exact e2
/-- Some cells of a block stored. -/
theorem wpList_storeOff {P : Program} {w : World} {ops : Array Oper} {rest : List Oper} {o : Oper} {a : Act} {Q : Exit → Act → World → Prop} {t : TypeId} (hgd : o.guard = none) (dst : Option Tmp) (hdst : o.dst = dst) (ty : TypeId) (x y : Operand) (ho : o.op = .store ty x y)
    (g off : Nat) (c0 cs : Array Value) (hx : a.eval x = .pointer (some ⟨g, off, none⟩)) (hy : a.eval y = .agg cs) (hi : (P.info? ty).map (·.size) = some cs.size) (hg : BlkV w g t c0) (hl : off + cs.size ≤ c0.size) (h1 : cs.all (·.oneCell') = true)
    (h : ∀ w', BlkV w' g t (putCs c0 off cs.toList) → Off (· = g) w w' → wpList P ops Q rest (a.put dst undef) w') : wpList P ops Q (o :: rest) a w := by
  subst hdst
  obtain ⟨w', e1, e2, e3⟩ := run_storeCells_off (P := P) g off t cs.toList 0 c0 w hg (by simpa using hl) (fun v hv => (Array.all_eq_true_iff_forall_mem.1 h1) v (by simpa using hv))
  refine wpList_plain hgd fun K hK => ?_
  have hrun : (storeVar ty ⟨g, off, none⟩ (.agg cs)).run P w = .ok () w' := by
    cases hq : P.info? ty with
    | none => simp [hq] at hi
    | some i =>
      have hs : cs.size = i.size := by simp [hq] at hi; omega
      simp [storeVar, sizeOf, typeInfo, hq, Value.cells, hs, e1]
  unfold Oper.wp execOp
  simp only [ho, hx, hy, Instr.storeAt, Instr.sureAddr, Sem.run_bind, Sem.run_pure, Result.andThen_ok, hrun]
  exact hK _ _ (h w' (by simpa using e2) e3)

/-- The functions of a table. -/
def fnV (t f : Nat) : Value := .func (.func f) #[ptrV t] #[]
def tblC (t : Nat) (v : Value) : Array Value := #[v, .nilFunc, fnV t 22, fnV t 23, fnV t 24, fnV t 25, fnV t 26, fnV t 27]
/-- A table with blocks out of F. -/
structure TabI (w : World) (F : Nat → Prop) (t : Nat) (L : List Vl) : Prop where
  ex : ∃ (a : Option Addr) (c : Nat) (ps : List Nat), BlkV w t 58 (tblC t (.slice a L.length c)) ∧ w.ownsRow 0 61 1 (.slice a L.length c) L.length (ps.map ptrV) ∧ (∀ k, (Value.slice a L.length c).ownBlock = some k → F k) ∧
    ps.length = L.length ∧ ps.Nodup ∧ ∀ i p V, ps[i]? = some p → L[i]? = some V → F p ∧ VlR w F p i V
  own : F t
theorem BlkV.off {F : Nat → Prop} {w w' : World} {g : Nat} {t : TypeId} {cs : Array Value} (h : BlkV w g t cs) (ho : Off F w w') (hg : ¬ F g) : BlkV w' g t cs := by
  unfold BlkV at h ⊢
  rw [ho.block g (Array.getElem?_eq_some_iff.1 h).1 hg, h]
theorem BlkV.type {w : World} {g : Nat} {t : TypeId} {cs : Array Value} (h : BlkV w g t cs) {t' : TypeId} (hne : t ≠ t') : ∀ k cs fr, k = g → w.heap[k]? ≠ some (.cells cs t' fr) := by
  rintro k cs' fr rfl e
  rw [show w.heap[k]? = _ from h] at e
  cases e
  exact hne rfl
theorem own_off {F : Nat → Prop} {w w' : World} {base : Nat} {e : TypeId} {sz : Nat} {v : Value} {n : Nat} {xs : List Value} (h : w.ownsRow base e sz v n xs) (ho : Off F w w') (hF : ∀ k, v.ownBlock = some k → ¬ F k) : w'.ownsRow base e sz v n xs := by
  refine ⟨h.1, ?_⟩
  rcases h.2 with h' | ⟨k, cap, cur, hv, hb, hh, r⟩
  · exact .inl h'
  · refine .inr ⟨k, cap, cur, hv, hb, ?_, r⟩
    rw [ho.block k (Array.getElem?_eq_some_iff.1 hh).1 (hF k (by rw [hv]; rfl))]
    exact hh
theorem own_ty {w : World} {base : Nat} {e : TypeId} {sz : Nat} {v : Value} {n : Nat} {xs : List Value} (h : w.ownsRow base e sz v n xs) : ∀ k, v.ownBlock = some k → ∃ cs fr, w.heap[k]? = some (.cells cs e fr) := by
  intro k hk
  rcases h.2 with ⟨rfl, _⟩ | ⟨g, cap, cur, rfl, _, hg, _⟩
  · simp [Value.ownBlock] at hk
  · simp [Value.ownBlock] at hk
    subst hk
    exact ⟨cur, _, hg⟩
theorem VlR.off {F G : Nat → Prop} {w w' : World} {p i : Nat} {V : Vl} (h : VlR w F p i V) (hp : F p) (ho : Off G w w') (hd : ∀ k, F k → ¬ G k) : VlR w' F p i V := by
  obtain ⟨a, c, h1, h2, h3⟩ := h
  exact ⟨a, c, h1.off ho (hd p hp), h2.offB ho fun b o hx ha => hd b (h3 b o hx ha), h3⟩
theorem VlR.far {F : Nat → Prop} {w w' : World} {p i : Nat} {V : Vl} (h : VlR w F p i V) {G : Nat → Prop} (ho : Off G w w') (hp : ¬ G p) (hty : ∀ k cs fr, G k → w.heap[k]? ≠ some (.cells cs 3 fr)) : VlR w' F p i V := by
  obtain ⟨a, c, h1, h2, h3⟩ := h
  exact ⟨a, c, h1.off ho hp, h2.off ho hty, h3⟩
theorem VlR.mono {F G : Nat → Prop} {w : World} {p i : Nat} {V : Vl} (h : VlR w F p i V) (hF : ∀ k, F k → k < w.heap.size → G k) : VlR w G p i V := by
  obtain ⟨a, c, h1, h2, h3⟩ := h
  refine ⟨a, c, h1, h2, fun b o hx ha => ?_⟩
  obtain ⟨cs, fr, hh⟩ := h2.2 b o hx ha
  exact hF b (h3 b o hx ha) (Array.getElem?_eq_some_iff.1 hh).1
theorem TabI.off {F G : Nat → Prop} {w w' : World} {t : Nat} {L : List Vl} (h : TabI w F t L) (ho : Off G w w') (hd : ∀ k, F k → ¬ G k) : TabI w' F t L := by
  obtain ⟨⟨a, c, ps, h1, h2, h3, h4, h5, h6⟩, h7⟩ := h
  exact ⟨⟨a, c, ps, h1.off ho (hd t h7), own_off h2 ho fun k hk => hd k (h3 k hk), h3, h4, h5, fun i p V hp hV => ⟨(h6 i p V hp hV).1, (h6 i p V hp hV).2.off (h6 i p V hp hV).1 ho hd⟩⟩, h7⟩
theorem TabI.kept {F : Nat → Prop} {w w' : World} {t : Nat} {L : List Vl} (h : TabI w F t L) (hb : Below w.heap.size w w') : TabI w' F t L :=
  h.off (G := fun _ => False) (Off.ofBelow hb) fun _ _ h => h
theorem TabI.lt {F : Nat → Prop} {w : World} {t : Nat} {L : List Vl} (h : TabI w F t L) : t < w.heap.size := by
  obtain ⟨⟨a, c, ps, h1, _⟩, _⟩ := h
  exact h1.lt
theorem TabI.mono {F G : Nat → Prop} {w : World} {t : Nat} {L : List Vl} (h : TabI w F t L) (hF : ∀ k, F k → k < w.heap.size → G k) : TabI w G t L := by
  obtain ⟨⟨a, c, ps, h1, h2, h3, h4, h5, h6⟩, h7⟩ := h
  refine ⟨⟨a, c, ps, h1, h2, fun k hk => hF k (h3 k hk) (h2.lt k hk).2, h4, h5, fun i p V hp hV => ?_⟩, hF t h7 h1.lt⟩
  obtain ⟨e1, e2⟩ := h6 i p V hp hV
  refine ⟨hF p e1 ?_, e2.mono hF⟩
  obtain ⟨_, _, e3, _⟩ := e2
  exact e3.lt
/-- A row, and the table with another one in its place. -/
theorem TabI.row {F : Nat → Prop} {w : World} {t : Nat} {L : List Vl} (h : TabI w F t L) {i : Nat} {V : Vl} (hV : L[i]? = some V) : ∃ (a : Option Addr) (c p : Nat), BlkV w t 58 (tblC t (.slice a L.length c)) ∧ (∃ b o, a = some ⟨b, o, none⟩ ∧ w.cell? ⟨b, o + i, none⟩ = some (ptrV p)) ∧ L.length ≤ c ∧ F p ∧ VlR w F p i V ∧
    ∀ w' V' F', (∀ k, F k → F' k) → Off (· = p) w w' → VlR w' F' p i V' → TabI w' F' t (L.set i V') := by
  obtain ⟨⟨a, c, ps, h1, h2, h3, h4, h5, h6⟩, h7⟩ := h
  have hi : i < L.length := (List.getElem?_eq_some_iff.1 hV).1
  have hps : ps[i]? = some ps[i] := List.getElem?_eq_getElem (by omega)
  obtain ⟨e1, e2⟩ := h6 i _ V hps hV
  obtain ⟨a', c', hv, hr⟩ := Rd.ofOwn h2
  cases hv
  refine ⟨a, c, ps[i], h1, ?_, ?_, e1, e2, ?_⟩
  · have := hr.cs i (ptrV ps[i]) (by simp [hps])
    obtain ⟨b, o, ha, hc⟩ := this
    exact ⟨b, o, ha, hc⟩
  · have := hr.1
    simp at this
    omega
  · intro w' V' F' hF ho hR
    obtain ⟨ea, ec, eb, et, ef⟩ := e2
    have hty : ∀ t', 65 ≠ t' → ∀ k cs fr, k = ps[i] → w.heap[k]? ≠ some (.cells cs t' fr) := fun t' hne => eb.type hne
    refine ⟨⟨a, c, ps, ?_, ?_, ?_, ?_, h5, ?_⟩, hF t h7⟩
    · rw [List.length_set]
      refine h1.off ho fun e => ?_
      exact hty _ (by decide) t _ _ e h1
    · rw [List.length_set]
      refine own_off h2 ho fun k hk e => ?_
      obtain ⟨cs, fr, hh⟩ := own_ty h2 k hk
      exact hty _ (by decide) k _ _ e hh
    · rw [List.length_set]
      exact fun k hk => hF k (h3 k hk)
    · rw [List.length_set]; exact h4
    · intro j q U hq hU
      by_cases hj : j = i
      · subst hj
        rw [hps] at hq
        cases hq
        rw [List.getElem?_set_self hi] at hU
        cases hU
        exact ⟨hF _ e1, hR⟩
      · rw [List.getElem?_set_ne (Ne.symm hj)] at hU
        obtain ⟨f1, f2⟩ := h6 j q U hq hU
        refine ⟨hF _ f1, (f2.far ho ?_ (hty _ (by decide))).mono fun k hk _ => hF k hk⟩
        intro e
        subst e
        obtain ⟨g1, g2⟩ := List.getElem?_eq_some_iff.1 hq
        exact hj ((List.getElem_inj h5).1 g2)
/-- A table with one row more. -/
theorem TabI.push {F F' : Nat → Prop} {w w' : World} {t : Nat} {L : List Vl} {a : Option Addr} {c : Nat} {ps : List Nat} (h1 : BlkV w t 58 (tblC t (.slice a L.length c))) (h2 : w.ownsRow 0 61 1 (.slice a L.length c) L.length (ps.map ptrV))
    (h4 : ps.length = L.length) (h5 : ps.Nodup) (h6 : ∀ i p V, ps[i]? = some p → L[i]? = some V → F p ∧ VlR w F p i V) (h7 : F t)
    (hF : ∀ k, F k → F' k) (ho : Off (fun k => k = t ∨ (Value.slice a L.length c).ownBlock = some k) w w') (p : Nat) (hp : w.heap.size ≤ p) (hFp : F' p) (V : Vl) (a' : Option Addr) (c' : Nat)
    (k1 : BlkV w' t 58 (tblC t (.slice a' (L.length + 1) c'))) (k2 : w'.ownsRow 0 61 1 (.slice a' (L.length + 1) c') (L.length + 1) (ps.map ptrV ++ [ptrV p])) (k3 : ∀ k, (Value.slice a' (L.length + 1) c').ownBlock = some k → F' k) (k4 : VlR w' F' p L.length V) :
    TabI w' F' t (L ++ [V]) := by
  have hlt : ∀ q ∈ ps, q < w.heap.size := by
    intro q hq
    obtain ⟨i, hi, rfl⟩ := List.getElem_of_mem hq
    obtain ⟨_, _, _, e, _⟩ := h6 i _ L[i] (List.getElem?_eq_getElem hi) (List.getElem?_eq_getElem (by omega))
    exact e.lt
  have hne : ∀ t', t' ≠ 58 → t' ≠ 61 → ∀ k cs fr, (k = t ∨ (Value.slice a L.length c).ownBlock = some k) → w.heap[k]? ≠ some (.cells cs t' fr) := by
    rintro t' n1 n2 k cs fr (rfl | hk) hh
    · rw [show w.heap[k]? = _ from h1] at hh
      cases hh
      exact n1 rfl
    · obtain ⟨cs', fr', hh'⟩ := own_ty h2 k hk
      rw [hh'] at hh
      cases hh
      exact n2 rfl
  refine ⟨⟨a', c', ps ++ [p], ?_, ?_, ?_, ?_, ?_, ?_⟩, hF t h7⟩
  · rw [List.length_append]; exact k1
  · rw [List.length_append, List.map_append]; exact k2
  · rw [List.length_append]; exact k3
  · simp [h4]
  · rw [List.nodup_append]
    refine ⟨h5, by simp, ?_⟩
    intro x hx y hy
    simp only [List.mem_singleton] at hy
    have := hlt x hx
    omega
  · intro j q U hq hU
    by_cases hj : j < ps.length
    · rw [List.getElem?_append_left hj] at hq
      rw [List.getElem?_append_left (by omega)] at hU
      obtain ⟨f1, f2⟩ := h6 j q U hq hU
      refine ⟨hF _ f1, (f2.far ho ?_ (hne _ (by decide) (by decide))).mono fun k hk _ => hF k hk⟩
      intro e
      obtain ⟨_, _, g1, _⟩ := f2
      exact hne 65 (by decide) (by decide) q _ _ e g1
    · have hj1 : j < (L ++ [V]).length := (List.getElem?_eq_some_iff.1 hU).1
      simp only [List.length_append, List.length_singleton] at hj1
      obtain rfl : j = L.length := by omega
      rw [List.getElem?_append_right (by omega), h4] at hq
      rw [List.getElem?_append_right (Nat.le_refl _)] at hU
      simp at hq hU
      subst hq hU
      exact ⟨hFp, k4⟩
end Go.Proofs.Yteenbobblbehoaa
