/- The document's table in memory: rows in a slice of structs. The document's Clone, has, apart, keeps: the contracts. A nil table: the contracts. fsm's own, Volume, Volumes: the contracts. fsm's Volumes: the contract. fsm's Volume: the contract. The document's keeps: the contract. The document's row, look, grow: the contracts. The document's grow: the contract. The document's assign: the contract. The document's change: the contract. Conditions: each law's own premises. -/
import Derived.Test.YteenbobblbehoaaFsmTab
import Derived.Deep.Cut
import Derived.Deep.CutRange
namespace Go.Proofs.Yteenbobblbehoaa
open Go Go.RowKit

theorem TRd.sameR {w w' : World} {t t' : TypeId} {a : Option Addr} {c : Nat} {xs : List Value} (h : TRd w t a c xs) {g : Nat} (hG : ∃ cs fr, w.heap[g]? = some (.cells cs t' fr)) (hne : t ≠ t') (ho : Off (· = g) w w') : TRd w' t a c xs :=
  h.off ho fun k cs fr hk hh => by
    subst hk
    obtain ⟨cs', fr', hh'⟩ := hG
    rw [hh] at hh'
    cases hh'
    exact hne rfl
theorem BlkV.sameR {w w' : World} {t t' : TypeId} {b : Nat} {cs : Array Value} (h : BlkV w b t cs) {g : Nat} (hG : ∃ cs fr, w.heap[g]? = some (.cells cs t' fr)) (hne : t ≠ t') (ho : Off (· = g) w w') : BlkV w' b t cs :=
  h.off ho fun e => by
    subst e
    obtain ⟨cs', fr', hh'⟩ := hG
    exact h.type hne b cs' fr' rfl hh'
/-- A row of the table. -/
def RRow (w : World) (F : Nat → Prop) (xs : List Value) (i : Nat) (V : Vl) (q : Option Addr × Nat) : Prop :=
  (∀ j, j < 7 → xs[i * 7 + j]? = (rowC i V q.1 V.nodes.length q.2)[j]?) ∧ TRd w 3 q.1 q.2 (BI V.nodes) ∧ ∀ b o, BI V.nodes ≠ [] → q.1 = some ⟨b, o, none⟩ → F b
/-- The document's table, with what it consists of. -/
structure RefX (w : World) (F : Nat → Prop) (g : Nat) (L : List Vl) (a : Option Addr) (c : Nat) (xs : List Value) (q : Nat → Option Addr × Nat) : Prop where
  blk : BlkV w g 52 #[.slice a L.length c]
  own : w.ownsRow 0 82 7 (.slice a L.length c) L.length xs
  blkF : ∀ k, (Value.slice a L.length c).ownBlock = some k → F k
  rows : ∀ i V, L[i]? = some V → RRow w F xs i V (q i)
  ownF : F g
  lt : ∀ k, F k → k < w.heap.size
def RefT (w : World) (F : Nat → Prop) (g : Nat) (L : List Vl) : Prop := ∃ a c xs q, RefX w F g L a c xs q
theorem RefX.off {F G : Nat → Prop} {w w' : World} {g : Nat} {L : List Vl} {a : Option Addr} {c : Nat} {xs : List Value} {q : Nat → Option Addr × Nat} (h : RefX w F g L a c xs q) (ho : Off G w w') (hd : ∀ k, F k → ¬ G k) : RefX w' F g L a c xs q where
  blk := h.blk.off ho (hd g h.ownF)
  own := own_off h.own ho fun k hk => hd k (h.blkF k hk)
  blkF := h.blkF
  rows := fun i V hV => ⟨(h.rows i V hV).1, (h.rows i V hV).2.1.offB ho fun b o hx ha => hd b ((h.rows i V hV).2.2 b o hx ha), (h.rows i V hV).2.2⟩
  ownF := h.ownF
  lt := fun k hk => by have := h.lt k hk; have := ho.size; omega
theorem RefX.kept {F : Nat → Prop} {w w' : World} {g : Nat} {L : List Vl} {a : Option Addr} {c : Nat} {xs : List Value} {q : Nat → Option Addr × Nat} (h : RefX w F g L a c xs q) (hb : Below w.heap.size w w') : RefX w' F g L a c xs q :=
  h.off (G := fun _ => False) (Off.ofBelow hb) fun _ _ h => h
theorem RefX.sub {F G : Nat → Prop} {w : World} {g : Nat} {L : List Vl} {a : Option Addr} {c : Nat} {xs : List Value} {q : Nat → Option Addr × Nat} (h : RefX w F g L a c xs q) (hF : ∀ k, F k → G k) (hG : ∀ k, G k → k < w.heap.size) : RefX w G g L a c xs q where
  blk := h.blk
  own := h.own
  blkF := fun k hk => hF k (h.blkF k hk)
  rows := fun i V hV => ⟨(h.rows i V hV).1, (h.rows i V hV).2.1, fun b o hx ha => hF b ((h.rows i V hV).2.2 b o hx ha)⟩
  ownF := hF g h.ownF
  lt := hG
theorem RefT.off {F G : Nat → Prop} {w w' : World} {g : Nat} {L : List Vl} (h : RefT w F g L) (ho : Off G w w') (hd : ∀ k, F k → ¬ G k) : RefT w' F g L := by
  obtain ⟨a, c, xs, q, h⟩ := h
  exact ⟨a, c, xs, q, h.off ho hd⟩
theorem RefT.kept {F : Nat → Prop} {w w' : World} {g : Nat} {L : List Vl} (h : RefT w F g L) (hb : Below w.heap.size w w') : RefT w' F g L :=
  h.off (G := fun _ => False) (Off.ofBelow hb) fun _ _ h => h
theorem RefT.sub {F G : Nat → Prop} {w : World} {g : Nat} {L : List Vl} (h : RefT w F g L) (hF : ∀ k, F k → G k) (hG : ∀ k, G k → k < w.heap.size) : RefT w G g L := by
  obtain ⟨a, c, xs, q, h⟩ := h
  exact ⟨a, c, xs, q, h.sub hF hG⟩
theorem RefT.lt {F : Nat → Prop} {w : World} {g : Nat} {L : List Vl} (h : RefT w F g L) : ∀ k, F k → k < w.heap.size := by
  obtain ⟨a, c, xs, q, h⟩ := h
  exact h.lt
/-- The blocks of F, and what was made since. -/
def grew (F : Nat → Prop) (w w' : World) : Nat → Prop := fun k => F k ∨ (w.heap.size ≤ k ∧ k < w'.heap.size)
theorem RefT.grewn {F : Nat → Prop} {w w' : World} {g : Nat} {L : List Vl} (h : RefT w' F g L) : RefT w' (grew F w w') g L :=
  h.sub (fun _ h => .inl h) fun k hk => hk.elim (h.lt k) (·.2)
/-- Where a row stands. -/
theorem RefX.at {F : Nat → Prop} {w : World} {g : Nat} {L : List Vl} {a : Option Addr} {c : Nat} {xs : List Value} {q : Nat → Option Addr × Nat} (h : RefX w F g L a c xs q) {i : Nat} {V : Vl} (hV : L[i]? = some V) :
    ∃ G, a = some ⟨G, 0, none⟩ ∧ G < w.heap.size ∧ F G ∧ (∀ j, j < 7 → w.cell? ⟨G, i * 7 + j, none⟩ = (rowC i V (q i).1 V.nodes.length (q i).2)[j]?) ∧ (∀ j, w.frozen? ⟨G, j, none⟩ = false) ∧ L.length ≤ c ∧ c ≤ maxLen ∧ ∃ cs fr, w.heap[G]? = some (.cells cs 82 fr) := by
  have hi := (List.getElem?_eq_some_iff.1 hV).1
  obtain ⟨G, cap, he, _, hG, hc1, hc2⟩ := own_pos h.own (by omega)
  cases he
  refine ⟨G, rfl, hG, h.blkF G rfl, fun j hj => ?_, fun j => h.own.frozenAt j, hc1, hc2, own_ty h.own G rfl⟩
  have hlen : xs.length = L.length * 7 := h.own.1
  have hlt : i * 7 + j < xs.length := by omega
  have := h.own.cells (g := G) rfl (i * 7 + j) xs[i * 7 + j] (List.getElem?_eq_getElem hlt)
  rw [Addr.add_lit, Nat.zero_add] at this
  rw [this, ← (h.rows i V hV).1 j hj, List.getElem?_eq_getElem hlt]
/-- A cell of a row is written. -/
theorem RefX.put {F : Nat → Prop} {w : World} {g G : Nat} {L : List Vl} {c : Nat} {xs : List Value} {q : Nat → Option Addr × Nat} (h : RefX w F g L (some ⟨G, 0, none⟩) c xs q) {i : Nat} {V : Vl} (hV : L[i]? = some V) (j : Nat) (hj : j < 7) (u : Value) (V' : Vl) (q' : Option Addr × Nat)
    (hrow : ∀ p, p < 7 → (rowC i V' q'.1 V'.nodes.length q'.2)[p]? = if p = j then some u else (rowC i V (q i).1 V.nodes.length (q i).2)[p]?) (ht : TRd w 3 q'.1 q'.2 (BI V'.nodes)) (hF : ∀ b o, BI V'.nodes ≠ [] → q'.1 = some ⟨b, o, none⟩ → F b) :
    RefX (w.setCell ⟨G, i * 7 + j, none⟩ u) F g (L.set i V') (some ⟨G, 0, none⟩) c (xs.set (i * 7 + j) u) (fun k => if k = i then q' else q k) := by
  have hi := (List.getElem?_eq_some_iff.1 hV).1
  have hty := own_ty h.own G rfl
  have ho : Off (· = G) w (w.setCell ⟨G, i * 7 + j, none⟩ u) := Off.setCell (F := (· = G)) (p := ⟨G, i * 7 + j, none⟩) rfl u
  have hlen : xs.length = L.length * 7 := h.own.1
  refine ⟨?_, ?_, ?_, ?_, h.ownF, fun k hk => by have := h.lt k hk; have := ho.size; omega⟩
  · rw [List.length_set]; exact h.blk.sameR hty (by decide) ho
  · rw [List.length_set]; exact (h.own.stored (i * 7 + j) u).1
  · rw [List.length_set]; exact h.blkF
  · intro k U hU
    by_cases hk : k = i
    · subst hk
      rw [List.getElem?_set_self hi] at hU
      cases hU
      simp only [if_true]
      refine ⟨fun p hp => ?_, ht.sameR hty (by decide) ho, hF⟩
      rw [hrow p hp]
      by_cases hpj : p = j
      · subst hpj
        rw [if_pos rfl, List.getElem?_set_self (by omega)]
      · rw [if_neg hpj, List.getElem?_set_ne (by omega)]
        exact (h.rows k V hV).1 p hp
    · rw [List.getElem?_set_ne (Ne.symm hk)] at hU
      simp only [if_neg hk]
      obtain ⟨r1, r2, r3⟩ := h.rows k U hU
      refine ⟨fun p hp => ?_, r2.sameR hty (by decide) ho, r3⟩
      rw [List.getElem?_set_ne (by omega)]
      exact r1 p hp
end Go.Proofs.Yteenbobblbehoaa

namespace Go.Proofs.Yteenbobblbehoaa
open Go Go.RowKit

set_option maxRecDepth 100000 in
theorem rClone_any (w : World) (a : Option Addr) (c n : Nat) (l : List Int) (hn : n = l.length) (hr : Rd w a c (BI l)) (hl : n ≤ 100000000) :
    Calls Try.prog 44 #[.slice a n c] w fun e w' => ∃ a' c', e = .returned (.slice a' n c') ∧ w'.ownsRow w.heap.size 3 1 (.slice a' n c') n (BI l) ∧ Below w.heap.size w w' := by
  have HN := Lib.hid hn; clear hn
  go_enter Try.func44, Try.ntmps44
  go_wp2_with (with_reducible refine At.slot 5 ?_)
  refine At.out (wpList_app rfl (.tmp 3) (.tmp 4) 27 rfl elemN rfl w.heap.size _ 0 [] rfl (own_empty w _) a n c (BI l) rfl (by rw [BI_length]; exact HN.out) (hr.kept ((Below.refl _ _).alloc (Nat.le_refl _) _)) (BI_one _) (by unfold maxLen; omega) (by omega) (by simp) ?_)
  intro v1 w1 ho1 hb1 _
  rw [Nat.zero_add, List.nil_append] at ho1
  obtain ⟨a1, c1, rfl, _⟩ := Rd.ofOwn ho1
  go_wp2
  go_ret
  exact ⟨a1, c1, rfl, ho1, ((Below.refl _ _).alloc (Nat.le_refl _) _).trans hb1⟩
set_option maxRecDepth 100000 in
set_option maxHeartbeats 1000000 in
theorem has_any (w : World) (a : Option Addr) (c m : Nat) (l : List Int) (x : Int) (hm : m = l.length) (hr : Rd w a c (BI l)) :
    Calls Try.prog 88 #[.slice a m c, .int .i64 x] w fun e w' => e = .returned (.int .i64 (ixF x 0 l)) ∧ w' = w := by
  obtain ⟨R, hR⟩ : ∃ R, R = ixF x 0 l := ⟨_, rfl⟩
  rw [← hR]
  have hl := hr.le
  rw [BI_length, ← hm] at hl
  have HR := Lib.hid hR
  have HM := Lib.hid hm
  clear hR hm
  go_enter Try.func88, Try.ntmps88
  go_wp2
  go_loopw [5] (fun s5 wr => ∃ k : Nat, k ≤ m ∧ s5 = .int .i64 k ∧ wr = w ∧ Hid (R = ixF x k (l.drop k))) (fun s5 _ => m - (intOf s5).toNat)
  case atStart => exact ⟨0, by omega, rfl, rfl, by rw [List.drop_zero]; exact HR⟩
  case round =>
    obtain ⟨k, hk, rfl, rfl, hK⟩ := hrel
    by_cases hlt : k < m
    · have hkl : k < l.length := by have := HM.out; omega
      have hki : (k : Int) < (m : Int) := by omega
      obtain ⟨b, o, rfl, u⟩ := hr.cs.bi k hkl
      have hK1 := hK.out
      rw [ixF_drop hkl] at hK1
      obtain ⟨y, hy⟩ : ∃ y, y = l[k] := ⟨_, rfl⟩
      rw [← hy] at u hK1
      clear hy hK
      by_cases h1 : x = y
      · rw [if_pos h1] at hK1
        have e1 : (y == x) = true := by simpa using h1.symm
        have HK := Lib.hid hK1
        clear hK1 h1
        go_wp2
        go_ret
        exact ⟨ret_int HK.out.symm, rfl⟩
      · rw [if_neg h1] at hK1
        have e1 : (y == x) = false := by simpa using fun e => h1 e.symm
        have HK := Lib.hid hK1
        clear hK1 h1
        go_wp2
        go_roundw
        case rel => exact ⟨k + 1, by omega, by go_num, by trivial, HK⟩
        case measure => simp [intOf]; omega
    · have hK1 : R = -1 := by rw [hK.out, List.drop_of_length_le (by have := HM.out; omega)]; rfl
      have hki : ¬ (k : Int) < (m : Int) := by omega
      have HK := Lib.hid hK1
      clear hK hK1
      go_wp2
      go_ret
      exact ⟨ret_int HK.out.symm, rfl⟩
theorem apF_drop {nn sm : Bool} {l : List Int} {k : Nat} (hk : k < l.length) : apF nn (l.take k) (l.drop k) sm =
    if l[k] = -1 ∧ nn = true then apF nn (l.take (k + 1)) (l.drop (k + 1)) sm else if l[k] < 0 ∨ 64 ≤ l[k] then false else if l[k] ∈ l.take k then false else apF nn (l.take (k + 1)) (l.drop (k + 1)) true := by
  rw [List.drop_eq_getElem_cons hk, ← List.take_append_getElem hk]
  rfl
set_option maxRecDepth 100000 in
set_option maxHeartbeats 2000000 in
theorem apart_any (w : World) (a : Option Addr) (c m : Nat) (l : List Int) (nn : Bool) (hm : m = l.length) (hr : Rd w a c (BI l)) :
    Calls Try.prog 78 #[.slice a m c, .bool nn] w fun e w' => e = .returned (.bool (apF nn [] l false)) ∧ Qt w w' := by
  obtain ⟨R, hR⟩ : ∃ R, R = apF nn [] l false := ⟨_, rfl⟩
  rw [← hR]
  have hl := hr.le
  rw [BI_length, ← hm] at hl
  have HR := Lib.hid hR
  have HM := Lib.hid hm
  have HRD := Lib.hid hr
  clear hR hm hr
  go_enter Try.func78, Try.ntmps78
  go_wp2
  go_loopw [5, 6] (fun s5 s6 wr => ∃ (k : Nat) (sm : Bool), k ≤ m ∧ s6 = .int .i64 k ∧ s5 = .bool sm ∧ Hid (Qt w wr) ∧ Hid (R = apF nn (l.take k) (l.drop k) sm)) (fun _ s6 _ => m - (intOf s6).toNat)
  case atStart => exact ⟨0, false, by omega, rfl, rfl, Qt.refl _, by rw [List.drop_zero, List.take_zero]; exact HR⟩
  case round =>
    obtain ⟨k, sm, hk, rfl, rfl, hq, hK⟩ := hrel
    by_cases hlt : k < m
    · have hkl : k < l.length := by have := HM.out; omega
      have hki : (k : Int) < (m : Int) := by omega
      have hrw := HRD.out.kept (hq.out.below _)
      obtain ⟨b, o, rfl, u⟩ := hrw.cs.bi k hkl
      have hK1 := hK.out
      rw [apF_drop hkl] at hK1
      obtain ⟨x, hx⟩ : ∃ x, x = l[k] := ⟨_, rfl⟩
      rw [← hx] at u hK1
      have HX := Lib.hid hx
      have HRW := Lib.hid hrw
      clear hx hK hrw
      by_cases h1 : x = -1 ∧ nn = true
      · rw [if_pos h1] at hK1
        obtain ⟨h1, h2⟩ := h1
        subst h1 h2
        have HK := Lib.hid hK1
        clear hK1
        go_wp2
        go_roundw
        case rel => exact ⟨k + 1, sm, by omega, by go_num, rfl, hq, HK⟩
        case measure => simp [intOf]; omega
      · rw [if_neg h1] at hK1
        have hcs : (x == -1) = false ∨ ((x == -1) = true ∧ nn = false) := by
          by_cases e : x = -1
          · exact .inr ⟨by simpa using e, by cases nn <;> simp_all⟩
          · exact .inl (by simpa using e)
        by_cases h2 : x < 0 ∨ 64 ≤ x
        · rw [if_pos h2] at hK1
          have HK := Lib.hid hK1
          clear hK1 h1
          rcases hcs with e1 | ⟨e1, rfl⟩
          all_goals
            by_cases h3 : x < 0
            · clear h2
              go_wp2
              go_ret
              exact ⟨ret_bool HK.out.symm, hq.out⟩
            · have h4 : 64 ≤ x := by omega
              clear h2
              go_wp2
              go_ret
              exact ⟨ret_bool HK.out.symm, hq.out⟩
        · rw [if_neg h2] at hK1
          have h3 : ¬ x < 0 := by omega
          have h4 : ¬ 64 ≤ x := by omega
          have e1 : (x == -1) = false := by rw [beq_eq_false_iff_ne]; omega
          have HK := Lib.hid hK1
          clear hK1 h1 h2 hcs
          go_wp2
          go_loopw [7] (fun s7 wr => ∃ j : Nat, j ≤ k ∧ s7 = .int .i64 j ∧ Hid (Qt w wr) ∧ Hid (x ∉ l.take j)) (fun s7 _ => k - (intOf s7).toNat)
          case atStart => exact ⟨0, by omega, rfl, hq, by show x ∉ l.take 0; simp⟩
          case round =>
            clear u HRW
            obtain ⟨j, hj, rfl, hq, hN⟩ := hrel
            have hrw := HRD.out.kept (hq.out.below _)
            obtain ⟨b', o', he, u⟩ := hrw.cs.bi k hkl
            cases he
            rw [← HX.out] at u
            by_cases hjk : j < k
            · have hji : (j : Int) < (k : Int) := by omega
              have hjm : (j : Int) < (m : Int) := by omega
              have hjl : j < l.length := by omega
              obtain ⟨b', o', he, v⟩ := hrw.cs.bi j hjl
              cases he
              obtain ⟨y, hy⟩ : ∃ y, y = l[j] := ⟨_, rfl⟩
              rw [← hy] at v
              have HY := Lib.hid hy
              clear hy hrw
              by_cases hxy : y = x
              · have e2 : (y == x) = true := by simpa using hxy
                have hin : x ∈ l.take k := by
                  rw [← hxy, HY.out]
                  exact List.mem_of_getElem? (i := j) (by rw [List.getElem?_take, if_pos hjk, List.getElem?_eq_getElem hjl])
                have hR0 : R = false := by rw [HK.out, if_pos hin]
                have HR0 := Lib.hid hR0
                clear hxy hin hR0
                go_wp2
                go_quiet (fail)
                go_wp2
                go_ret
                exact ⟨ret_bool HR0.out.symm, Qt.drew hq.out _⟩
              · have e2 : (y == x) = false := by simpa using hxy
                have hnx : x ∉ l.take (j + 1) := by
                  rw [← List.take_append_getElem hjl, List.mem_append]
                  rintro (h | h)
                  · exact hN.out h
                  · rw [List.mem_singleton] at h
                    exact hxy (HY.out.trans h.symm)
                have HNX := Lib.hid hnx
                clear hxy hnx
                go_wp2
                go_quiet (fail)
                go_wp2
                go_roundw
                case rel => exact ⟨j + 1, by omega, by go_num, Qt.drew hq.out _, HNX⟩
                case measure => simp [intOf]; omega
            · have hji : ¬ (j : Int) < (k : Int) := by omega
              obtain rfl : j = k := by omega
              have hK2 := HK.out
              rw [if_neg hN.out] at hK2
              have HK2 := Lib.hid hK2
              clear hrw hK2
              go_wp2
              go_roundw
              case rel => exact ⟨j + 1, true, by omega, by go_num, rfl, hq, HK2⟩
              case measure => simp [intOf]; omega
    · have hki : ¬ (k : Int) < (m : Int) := by omega
      have hK1 : R = sm := by rw [hK.out, List.drop_of_length_le (by have := HM.out; omega)]; rfl
      have HK := Lib.hid hK1
      clear hK hK1
      go_wp2
      go_ret
      exact ⟨ret_bool HK.out.symm, hq.out⟩
end Go.Proofs.Yteenbobblbehoaa

namespace Go.Proofs.Yteenbobblbehoaa
open Go Go.RowKit

theorem strV : StrT Try.prog 37 6 := ⟨by
  have h : (Try.prog.info? 37).map (·.size) = some 6 := by kernel_rfl
  obtain ⟨i, h1, h3⟩ := Option.map_eq_some_iff.1 h
  exact ⟨i, h1, h3⟩, ⟨_, Try.underlying37⟩⟩

set_option maxRecDepth 100000 in
set_option maxHeartbeats 1000000 in
theorem applyNil_any (w : World) (v : Value) : Calls Try.prog 17 #[.pointer none, v] w fun e w' => e = .returned (.tuple #[.slice none 0 0, .int .i64 1]) ∧ w' = w := by
  go_enter Try.func17, Try.ntmps17
  go_wp2
  go_ret2
  exact ⟨rfl, rfl⟩
set_option maxRecDepth 100000 in
set_option maxHeartbeats 1000000 in
theorem volumesNil_any (w : World) : Calls Try.prog 12 #[.pointer none] w fun e w' => e = .returned (.slice none 0 0) ∧ w' = w := by
  go_enter Try.func12, Try.ntmps12
  go_wp2
  go_ret
  exact ⟨rfl, rfl⟩
set_option maxRecDepth 100000 in
set_option maxHeartbeats 1000000 in
theorem sumNil_any (w : World) : Calls Try.prog 14 #[.pointer none] w fun e w' => e = .returned (.int .u32 0) ∧ w' = w := by
  go_enter Try.func14, Try.ntmps14
  go_wp2
  go_ret
  exact ⟨rfl, rfl⟩
set_option maxRecDepth 100000 in
set_option maxHeartbeats 1000000 in
theorem volumeNil_any (w : World) (i : Int) : Calls Try.prog 13 #[.pointer none, .int .i64 i] w fun e w' => e = .returned (.tuple #[.agg #[.int .i64 0, .int .i64 0, .int .i64 0, .slice none 0 0, .bool false, .int .i64 0], .bool false]) ∧ Below w.heap.size w w' := by
  obtain ⟨W0, hW0⟩ : ∃ W0, W0 = w.alloc (.cells #[.int .i64 0, .int .i64 0, .int .i64 0, .slice none 0 0, .bool false, .int .i64 0] 37) := ⟨_, rfl⟩
  obtain ⟨K, hK⟩ : ∃ K, K = w.heap.size := ⟨_, rfl⟩
  have hb0 : Below w.heap.size w W0 := by rw [hW0]; exact (Below.refl _ _).alloc (Nat.le_refl _) _
  have hZ : BlkV W0 K 37 #[.int .i64 0, .int .i64 0, .int .i64 0, .slice none 0 0, .bool false, .int .i64 0] := by rw [hW0, hK]; exact BlkV.new w _ _
  have HW0 := Lib.hid hW0
  have HK := Lib.hid hK
  have HB := Lib.hid hb0
  clear hW0 hK hb0
  go_enter Try.func13, Try.ntmps13
  go_wp2_with fail
  rw [← HW0.out, ← HK.out]
  refine (of_nil _ _).mono ?_
  rintro e w1 ⟨rfl, hw1⟩
  have hw1 := hw1.symm
  subst hw1
  go_wp2_with (with_reducible refine At.store 37 (.tmp 4) (.tmp 12) ?_)
  refine At.out (wpList_storeV rfl _ rfl (.tmp 4) (.tmp 12) rfl strV K _ #[.int .i64 0, .int .i64 0, .int .i64 0, .slice none 0 0, .bool false, .int .i64 0] rfl rfl hZ rfl rfl (by simp [Value.oneCell']) ?_)
  intro w6 hB6 hbel6 _
  have hb6 := hbel6 w.heap.size w HB.out (by have := HK.out; omega)
  go_wp2_with fail
  exact bodyPost_ret (v := .tuple #[.agg #[.int .i64 0, .int .i64 0, .int .i64 0, .slice none 0 0, .bool false, .int .i64 0], .bool false]) (results_cell2 rfl strV rfl rfl hB6 rfl) rfl ⟨rfl, hb6⟩

set_option maxRecDepth 100000 in
set_option maxHeartbeats 2000000 in
theorem fsmOfNothing_any (a : Option Addr) (c : Nat) (b : List UInt8) (i : Int) (w : World) (hr : Rd w a c (B8 b)) (_hi : -9223372036854775808 ≤ i ∧ i ≤ 9223372036854775807) :
    Calls Try.prog 4 #[.slice a b.length c, .int .i64 i] w fun e w' => e = .returned (.bool true) ∧ Below w.heap.size w w' := by
  have hle := hr.le
  rw [B8_length] at hle
  obtain ⟨n, hn⟩ : ∃ n, n = b.length := ⟨_, rfl⟩
  rw [← hn] at hle ⊢
  clear hn hr
  by_cases h0 : 4000 < n
  · have h0i : (4000 : Int) < (n : Int) := by omega
    go_enter Try.func4, Try.ntmps4
    go_wp2
    go_ret
    exact ⟨rfl, Below.refl _ _⟩
  have h0i : ¬ (4000 : Int) < (n : Int) := by omega
  go_enter Try.func4, Try.ntmps4
  go_wp2_with fail
  refine (applyNil_any _ _).mono ?_
  rintro e w1 ⟨rfl, hw1⟩
  have hw1 := hw1.symm
  subst hw1
  go_wp2_with fail
  refine (volumeNil_any _ _).mono ?_
  rintro e w2 ⟨rfl, hb2⟩
  have hb2' : ∀ o, Below w.heap.size w (w2.alloc o) := fun o => hb2.alloc hb2.size o
  have HB2 := Lib.hid hb2'
  clear hb2 hb2'
  go_wp2_with fail
  refine (volumesNil_any _).mono ?_
  rintro e w3 ⟨rfl, hw3⟩
  subst hw3
  go_wp2_with fail
  refine (sumNil_any _).mono ?_
  rintro e w4 ⟨rfl, hw4⟩
  subst hw4
  go_wp2_with fail
  refine (fsmKnown_any _).mono ?_
  rintro e w5 ⟨rfl, hb5⟩
  have HB5 := Lib.hid ((HB2.out _).trans (hb5.mono (HB2.out _).size))
  clear hb5
  go_wp2
  go_ret
  exact ⟨rfl, HB5.out⟩
end Go.Proofs.Yteenbobblbehoaa

namespace Go.Proofs.Yteenbobblbehoaa
open Go Go.RowKit

/-- A volume as six values. -/
abbrev volC (i : Nat) (V : Vl) (a : Option Addr) (m c : Nat) : Array Value := #[.int .i64 ((i : Int) + 1), .int .i64 V.st, .int .i64 V.ep, .slice a m c, .bool V.fr, .int .i64 0]

set_option maxRecDepth 100000 in
set_option maxHeartbeats 4000000 in
theorem own_any (w : World) (p i m : Nat) (V : Vl) (an : Option Addr) (cn : Nat) (hB : BlkV w p 65 (rowC i V an m cn)) (hm : m = V.nodes.length) (hrn : Rd w an cn (BI V.nodes)) (hl : V.nodes.length ≤ 64) :
    Calls Try.prog 29 #[ptrV p] w fun e w' => ∃ a' c', e = .returned (.agg (volC i V a' m c')) ∧ w'.ownsRow w.heap.size 3 1 (.slice a' m c') m (BI V.nodes) ∧ Below w.heap.size w w' := by
  have c0 := hB.cell 0
  have c1 := hB.cell 1
  have c2 := hB.cell 2
  have c3 := hB.cell 3
  have c4 := hB.cell 4
  have c5 := hB.cell 5
  unfold rowC at c0 c1 c2 c3 c4 c5
  simp only [List.getElem?_toArray, List.getElem?_cons_succ, List.getElem?_cons_zero] at c0 c1 c2 c3 c4 c5
  have hpl : p < w.heap.size := hB.lt
  have HM := Lib.hid hm
  obtain ⟨K, hK⟩ : ∃ K, K = w.heap.size := ⟨_, rfl⟩
  have HK := Lib.hid hK
  obtain ⟨W2, hW2⟩ : ∃ W2, W2 = (w.alloc (.cells #[.int .i64 0, .int .i64 0, .int .i64 0, .slice none 0 0, .bool false, .int .i64 0] 37)).alloc (.cells (volC i V an m cn) 37) := ⟨_, rfl⟩
  have HW2 := Lib.hid hW2
  have hb2 : Below w.heap.size w W2 := by rw [hW2]; exact ((Below.refl _ _).alloc (Nat.le_refl _) _).alloc (by simp) _
  have hZ2 : BlkV W2 K 37 #[.int .i64 0, .int .i64 0, .int .i64 0, .slice none 0 0, .bool false, .int .i64 0] := by rw [hW2, hK]; exact (BlkV.new w _ _).alloc _
  have hM2 : BlkV W2 (K + 1) 37 (volC i V an m cn) := by
    rw [hW2, hK]
    have := BlkV.new (w.alloc (.cells #[.int .i64 0, .int .i64 0, .int .i64 0, .slice none 0 0, .bool false, .int .i64 0] 37)) 37 (volC i V an m cn)
    simpa using this
  have hcl := cloneN_any W2 an cn m V.nodes hm (hrn.kept hb2) (by omega)
  have HCL := Lib.hid hcl
  clear hB hW2 hK hm hcl hl hrn
  unfold ptrV
  go_enter Try.func29, Try.ntmps29
  go_wp2_with fail
  rw [← HW2.out, ← HK.out]
  refine HCL.out.mono ?_
  rintro e w3 ⟨a3, c3', rfl, ho3, hb3⟩
  have hM3 := hM2.below hb3
  have hZ3 := hZ2.below hb3
  have f3 := hM3.frozen 3
  have i3 := hM3.cell 3
  simp only [volC, List.getElem?_toArray, List.getElem?_cons_succ, List.getElem?_cons_zero] at i3
  have hM4 := hM3.set 3 (.slice a3 m c3')
  have hZ4 := hZ3.far (show K ≠ K + 1 by omega) 3 (.slice a3 m c3')
  simp only [volC, List.setIfInBounds_toArray, List.set_cons_zero, List.set_cons_succ] at hM4
  have hsz := hM2.lt
  have ho4 := own_setFar ho3 (show K + 1 < W2.heap.size by omega) 3 (.slice a3 m c3')
  have hb4 : Below w.heap.size w (w3.setCell ⟨K + 1, 3, none⟩ (.slice a3 m c3')) := (hb2.trans (hb3.mono hb2.size)).setCell (p := ⟨K + 1, 3, none⟩) (by have := HK.out; simp; omega) _
  obtain ⟨W4, hW4⟩ : ∃ W4, W4 = w3.setCell ⟨K + 1, 3, none⟩ (.slice a3 m c3') := ⟨_, rfl⟩
  rw [← hW4] at hM4 hZ4 ho4 hb4
  have HW4 := Lib.hid hW4
  have HO4 := Lib.hid ho4
  have HB4 := Lib.hid hb4
  have HM4 := Lib.hid hM4
  have HZ4 := Lib.hid hZ4
  clear hM2 hZ2 hM3 hZ3 hM4 hZ4 ho3 hb3 ho4 hb4 hW4
  go_wp2_with (with_reducible refine At.slot 12 ?_)
  rw [← HW4.out]
  refine At.out (wpList_loadV rfl _ rfl (.tmp 3) rfl strV (K + 1) _ rfl HM4.out rfl ?_)
  go_wp2_with (with_reducible refine At.store 37 (.tmp 2) (.tmp 12) ?_)
  refine At.out (wpList_storeV rfl _ rfl (.tmp 2) (.tmp 12) rfl strV K _ (volC i V a3 m c3') rfl rfl HZ4.out rfl rfl (by simp [Value.oneCell']) ?_)
  intro w5 hB5 hbel hoth
  have hb5 := hbel w.heap.size w HB4.out (by have := HK.out; omega)
  have ho5 := own_same HO4.out (fun k hk => hoth k (by omega))
  go_wp2_with fail
  exact bodyPost_ret (v := .agg (volC i V a3 m c3')) (results_cell1 rfl strV rfl hB5 rfl) rfl ⟨a3, c3', rfl, own_base ho5 (by have := hb2.size; have := HK.out; omega), hb5⟩

/-- Volumes, one behind the other, each with nodes of its own. -/
def VsR (w : World) (B : Nat) : Nat → List Value → List Vl → Prop
  | _, xs, [] => xs = []
  | i, xs, V :: L => ∃ a c r, xs = (volC i V a V.nodes.length c).toList ++ r ∧ (TRd w 3 a c (BI V.nodes) ∧ ∀ b o, a = some ⟨b, o, none⟩ → B ≤ b) ∧ VsR w B (i + 1) r L
theorem VsR.len {w : World} {B : Nat} : ∀ {L : List Vl} {i : Nat} {xs : List Value}, VsR w B i xs L → xs.length = L.length * 6
  | [], _, xs, h => by rw [show xs = [] from h]; rfl
  | V :: L, i, xs, h => by
    obtain ⟨a, c, r, rfl, _, h2⟩ := h
    rw [List.length_append, h2.len, List.length_cons]
    simp
    omega
theorem VsR.map {w w' : World} {B : Nat} (hm : ∀ a c xs, TRd w 3 a c xs → TRd w' 3 a c xs) : ∀ {L : List Vl} {i : Nat} {xs : List Value}, VsR w B i xs L → VsR w' B i xs L
  | [], _, _, h => h
  | _ :: _, _, _, h => by
    obtain ⟨a, c, r, rfl, h1, h2⟩ := h
    exact ⟨a, c, r, rfl, ⟨hm _ _ _ h1.1, h1.2⟩, VsR.map hm h2⟩
theorem VsR.snoc {w : World} {B : Nat} {V : Vl} {a : Option Addr} {c : Nat} (hx : TRd w 3 a c (BI V.nodes)) (hB : ∀ b o, a = some ⟨b, o, none⟩ → B ≤ b) : ∀ {L : List Vl} {i : Nat} {xs : List Value}, VsR w B i xs L → VsR w B i (xs ++ (volC (i + L.length) V a V.nodes.length c).toList) (L ++ [V])
  | [], i, xs, h => by
    rw [show xs = [] from h]
    exact ⟨a, c, [], by simp, ⟨hx, hB⟩, rfl⟩
  | N :: L, i, xs, h => by
    obtain ⟨a', c', r, rfl, h1, h2⟩ := h
    have := VsR.snoc hx hB h2
    refine ⟨a', c', _, by rw [List.append_assoc], h1, ?_⟩
    rw [List.length_cons, show i + (L.length + 1) = i + 1 + L.length by omega]
    exact this
theorem VsR.get {w : World} {B : Nat} : ∀ {L : List Vl} {i : Nat} {xs : List Value} (k : Nat) {V : Vl} (_ : VsR w B i xs L) (_ : L[k]? = some V), ∃ a c, (∀ j, j < 6 → xs[k * 6 + j]? = (volC (i + k) V a V.nodes.length c)[j]?) ∧ TRd w 3 a c (BI V.nodes) ∧ ∀ b o, a = some ⟨b, o, none⟩ → B ≤ b
  | N :: L, i, xs, 0, V, h, hV => by
    obtain ⟨a, c, r, rfl, h1, _⟩ := h
    simp only [List.getElem?_cons_zero, Option.some.injEq] at hV
    subst hV
    refine ⟨a, c, fun j hj => ?_, h1.1, h1.2⟩
    rw [List.getElem?_append_left (by simp; omega)]
    simp
  | N :: L, i, xs, k + 1, V, h, hV => by
    obtain ⟨a, c, r, rfl, h1, h2⟩ := h
    rw [List.getElem?_cons_succ] at hV
    obtain ⟨a', c', g1, g2⟩ := VsR.get k h2 hV
    refine ⟨a', c', fun j hj => ?_, g2⟩
    rw [List.getElem?_append_right (by simp; omega), show i + (k + 1) = i + 1 + k by omega, ← g1 j hj]
    congr 1
    simp
    omega
/-- Volumes that read, the first of number i0 + 1, beside a table with blocks out of F. -/
def VlsB (w : World) (F : Nat → Prop) (a : Option Addr) (c i0 : Nat) (L : List Vl) : Prop := L.length ≤ c ∧ c ≤ maxLen ∧
  ∀ i V, L[i]? = some V → ∃ b o an cn, a = some ⟨b, o, none⟩ ∧ ¬ F b ∧ b < w.heap.size ∧ (∀ j, j < 6 → w.cell? ⟨b, o + i * 6 + j, none⟩ = (volC (i0 + i) V an V.nodes.length cn)[j]?) ∧ Beside w F an cn (BI V.nodes)
theorem VlsB.off {w w' : World} {F F' : Nat → Prop} {a : Option Addr} {c i0 : Nat} {L : List Vl} (h : VlsB w F a c i0 L) (ho : Off F w w') (hF : ∀ k, F' k → F k ∨ w.heap.size ≤ k) : VlsB w' F' a c i0 L := by
  refine ⟨h.1, h.2.1, fun i V hV => ?_⟩
  obtain ⟨b, o, an, cn, h1, h2, h3, h4, h5⟩ := h.2.2 i V hV
  refine ⟨b, o, an, cn, h1, fun hf => (hF b hf).elim h2 (by omega), by have := ho.size; omega, fun j hj => ?_, h5.off ho hF⟩
  rw [World.cell?_of_block (ho.block b h3 h2)]
  exact h4 j hj
theorem VlsB.kept {w w' : World} {F : Nat → Prop} {a : Option Addr} {c i0 : Nat} {L : List Vl} (h : VlsB w F a c i0 L) (hb : Below w.heap.size w w') : VlsB w' F a c i0 L := h.off (Off.ofBelow hb) fun _ h => .inl h
theorem VlsB.ofOwn {w W : World} {F : Nat → Prop} {L : List Vl} {v : Value} {xs : List Value} (ho : w.ownsRow W.heap.size 37 6 v L.length xs) (hr : VsR w W.heap.size 0 xs L) (hF : ∀ k, F k → k < W.heap.size) : ∃ a c, v = .slice a L.length c ∧ VlsB w F a c 0 L := by
  rcases ho.2 with ⟨rfl, h0⟩ | ⟨g, cap, cur, rfl, hg, hh, hnc, hcm, hcs, ht⟩
  · refine ⟨none, 0, by rw [h0], by omega, by unfold maxLen; omega, fun i V hV => ?_⟩
    have := (List.getElem?_eq_some_iff.1 hV).1
    omega
  · refine ⟨some ⟨g, 0, none⟩, cap, rfl, hnc, hcm, fun i V hV => ?_⟩
    have hi := (List.getElem?_eq_some_iff.1 hV).1
    have hgl : g < w.heap.size := (Array.getElem?_eq_some_iff.1 hh).1
    obtain ⟨an, cn, g1, g2, g3⟩ := VsR.get i hr hV
    refine ⟨g, 0, an, cn, rfl, fun hf => by have := hF g hf; omega, hgl, fun j hj => ?_, g2.1, fun b o hx ha => ⟨fun hf => by have := hF b hf; have := g3 b o ha; omega, ?_⟩⟩
    · rw [← g1 j hj, ← ht, cell_of_row w g (0 + i * 6 + j) cur _ _ hh, List.getElem?_take, if_pos (by omega)]
      simp
    · obtain ⟨cs, fr, hh'⟩ := g2.2 b o hx ha
      exact (Array.getElem?_eq_some_iff.1 hh').1
end Go.Proofs.Yteenbobblbehoaa

namespace Go.Proofs.Yteenbobblbehoaa
open Go Go.RowKit

theorem elemV : ElemT Try.prog 34 37 6 (.agg #[.int .i64 0, .int .i64 0, .int .i64 0, .slice none 0 0, .bool false, .int .i64 0]) 64 := ⟨Try.underlying34, info_parts (by kernel_rfl)⟩
/-- append of elements of some cells. -/
theorem wpList_appS {P : Program} {w : World} {ops : Array Oper} {rest : List Oper} {o : Oper} {a : Act} {Q : Exit → Act → World → Prop} {e : TypeId} {z : Value} {bytes sz : Nat}
    (hgd : o.guard = none) (s x : Operand) (t : TypeId)
    (ho : o.op = .call { callee := .builtin .append, args := #[s, x], argTypes := #[t, t] })
    (T : ElemT P t e sz z bytes) (hz1 : z.cells.size = sz) (hsz0 : 0 < sz)
    (base : Nat) (v : Value) (n : Nat) (xs : List Value) (hs : a.eval s = v) (hown : w.ownsRow base e sz v n xs)
    (ad : Addr) (m c : Nat) (news : List Value) (hx : a.eval x = .slice (some ad) m c) (hm : news.length = m * sz) (hr : ∀ j u, news[j]? = some u → w.cell? (ad.add j) = some u) (h1 : ∀ u ∈ news, u.oneCell' = true)
    (h63 : n + m ≤ maxLen) (hbytes : (n + m) * bytes ≤ 140737488355328) (hbase : base ≤ w.heap.size)
    (h : ∀ a' c' w', w'.ownsRow base e sz (.slice a' (n + m) c') (n + m) (xs ++ news) → Below base w w' → w.grownBy w' v.ownBlock → wpList P ops Q rest (a.put o.dst (.slice a' (n + m) c')) w') : wpList P ops Q (o :: rest) a w := by
  obtain ⟨i, hi, hz, hsz, hby⟩ := T.hi
  refine wpList_append_own w hgd s x t ho base e i z sz bytes T.ht hi hz hsz hby hz1 hsz0 v n xs hs hown ad m c news hx hm hr h1 h63 hbytes hbase ?_
  intro v' w' ho' hg _
  have hsl : ∃ a' c', v' = .slice a' (n + m) c' := by
    rcases ho'.2 with ⟨rfl, h0⟩ | ⟨k, cap, cur, rfl, _⟩
    · exact ⟨none, 0, by rw [h0]⟩
    · exact ⟨_, _, rfl⟩
  obtain ⟨a', c', rfl⟩ := hsl
  exact h a' c' w' ho' (below_grown hg hbase (fun k hk => (hown.lt k hk).1)) hg
theorem cells6 (w : World) (C : List Value) (t : TypeId) : ∀ j u, C[j]? = some u → (w.alloc (.cells C.toArray t)).cell? ((⟨w.heap.size, 0, none⟩ : Addr).add j) = some u := by
  intro j u h
  rw [Addr.add_lit, Nat.zero_add, (BlkV.new w t C.toArray).cell j]
  simpa using h

set_option maxRecDepth 100000 in
set_option maxHeartbeats 4000000 in
theorem volumes_any (w : World) (F : Nat → Prop) (t : Nat) (L : List Vl) (hT : TabI w F t L) (hok : OkL L) (hL : L.length ≤ 4096) :
    Calls Try.prog 12 #[ptrV t] w fun e w' => ∃ v xs, e = .returned v ∧ w'.ownsRow w.heap.size 37 6 v L.length xs ∧ VsR w' w.heap.size 0 xs L ∧ Below w.heap.size w w' := by
  obtain ⟨⟨ra, rc, ps, k1, k2, k3, k4, k5, k6⟩, k7⟩ := hT
  obtain ⟨N, hN⟩ : ∃ N, N = L.length := ⟨_, rfl⟩
  have c0 := k1.cell 0
  unfold tblC at c0
  simp only [List.getElem?_toArray, List.getElem?_cons_zero] at c0
  obtain ⟨a', c', hv', hrow⟩ := Rd.ofOwn k2
  cases hv'
  have hps : ∀ i V, L[i]? = some V → ∃ p, (∃ b o, ra = some ⟨b, o, none⟩ ∧ w.cell? ⟨b, o + i, none⟩ = some (ptrV p)) ∧ VlR w F p i V := by
    intro i V hV
    have hi := (List.getElem?_eq_some_iff.1 hV).1
    have hpi : ps[i]? = some ps[i] := List.getElem?_eq_getElem (by omega)
    obtain ⟨b, o, e1, e2⟩ := hrow.cs i (ptrV ps[i]) (by simp [hpi])
    exact ⟨ps[i], ⟨b, o, e1, e2⟩, (k6 i _ V hpi hV).2⟩
  have htl : t < w.heap.size := k1.lt
  have HPS := Lib.hid hps
  rw [← hN] at c0 hL ⊢
  have HN := Lib.hid hN
  clear hrow hps k1 k2 k3 k4 k5 k6 k7 hN
  unfold ptrV
  go_enter Try.func12, Try.ntmps12
  go_wp2
  go_loopw [3, 13] (fun s3 s13 wr => ∃ (k : Nat) (xs : List Value) (sa : Option Addr) (sc : Nat), k ≤ N ∧ s13 = .int .i64 k ∧ s3 = .slice sa k sc ∧ wr.ownsRow w.heap.size 37 6 (.slice sa k sc) k xs ∧ Hid (VsR wr w.heap.size 0 xs (L.take k)) ∧ Below w.heap.size w wr) (fun _ s13 _ => N - (intOf s13).toNat)
  case atStart => exact ⟨0, [], none, 0, by omega, rfl, rfl, World.ownsRow_nil _ _ _ _, rfl, Below.refl _ _⟩
  case round =>
    obtain ⟨k, xs, sa, sc, hk, rfl, rfl, ho, hR, hb⟩ := hrel
    by_cases hlt : k < N
    · have hkl : k < L.length := by have := HN.out; omega
      obtain ⟨V, hV⟩ : ∃ V, L[k]? = some V := ⟨_, List.getElem?_eq_getElem hkl⟩
      obtain ⟨p, ⟨b, o, rfl, hc⟩, an, cn, hB, hTr, _⟩ := HPS.out k V hV
      have hki : (k : Int) < (N : Int) := by omega
      have hcr : wr.cell? ⟨b, o + k, none⟩ = some (.pointer (some ⟨p, 0, none⟩)) := by
        have hbl : b < w.heap.size := by
          unfold World.cell? at hc
          by_cases hb' : b < w.heap.size
          · exact hb'
          · rw [Array.getElem?_eq_none (by simpa using hb')] at hc
            simp at hc
        exact (hb.cell (p := ⟨b, o + k, none⟩) hbl).trans hc
      have hvl : V.nodes.length ≤ 64 := by have := hok V (List.mem_of_getElem? hV); unfold OkV at this; omega
      have hown := own_any wr p k V.nodes.length V an cn (hB.at hb hB.lt) rfl (hTr.1.kept hb) hvl
      have HOW := Lib.hid hown
      have HV := Lib.hid hV
      have HO := Lib.hid ho
      unfold ptrV at HOW
      clear hown hB hTr hc hV ho
      go_wp2_with fail
      refine HOW.out.mono ?_
      rintro e w2 ⟨a2, c2, rfl, ho2, hb2⟩
      have hO2 := own_below HO.out hb2
      have hwr : w.heap.size ≤ wr.heap.size := hb.size
      have hw2 := hb2.size
      have hvol : VsR w2 w.heap.size 0 xs (L.take k) := hR.out.map fun a c xs h => h.kept hb2
      obtain ⟨a2', c2', hv2, hT2⟩ := TRd.ofOwn ho2
      simp only [Value.slice.injEq, true_and] at hv2
      obtain ⟨rfl, rfl⟩ := hv2
      have hB2 : ∀ b o, a2 = some ⟨b, o, none⟩ → w.heap.size ≤ b := by
        intro b o e
        subst e
        rcases ho2.2 with ⟨e, _⟩ | ⟨g, cap, cur, hv, hb, _⟩
        · simp at e
        · simp only [Value.slice.injEq, Option.some.injEq, Addr.mk.injEq] at hv
          omega
      have HT2 := Lib.hid hT2
      have HVOL := Lib.hid hvol
      have HO2 := Lib.hid hO2
      have HB2 := Lib.hid hB2
      have HBB := Lib.hid (hb.trans (hb2.mono hwr))
      clear hT2 hvol hO2 hB2 ho2 hb2
      go_wp2_with (with_reducible refine At.slot 21 ?_)
      have hbl := below_lit w2 (volC k V a2 V.nodes.length c2) 37
      refine At.out (wpList_appS rfl (.tmp 17) (.tmp 20) 34 rfl elemV rfl (by decide) w.heap.size (.slice sa k sc) k xs rfl (HO2.out.alloc _) ⟨w2.heap.size, 0, none⟩ 1 1 (volC k V a2 V.nodes.length c2).toList rfl rfl (cells6 w2 (volC k V a2 V.nodes.length c2).toList _) (by simp [Value.oneCell']) (by unfold maxLen; omega) (by omega) (by simp; omega) ?_)
      intro a4 c4 w4 ho4 hb4 hg4
      have hvt := fun (a : Option Addr) (c : Nat) (ys : List Value) (h : TRd w2 3 a c ys) => TRd.off (F := fun q => (Value.slice sa k sc).ownBlock = some q) (h.kept hbl) (Off.ofGrown hg4 fun _ h => h) (by
        intro q cs fr hq hh
        obtain ⟨cs', fr', hh'⟩ := own_ty (HO2.out.alloc (.cells (volC k V a2 V.nodes.length c2) 37)) q hq
        rw [hh'] at hh
        cases hh)
      have hsn := (HVOL.out.map hvt).snoc (hvt _ _ _ HT2.out) HB2.out
      have htk : L.take (k + 1) = L.take k ++ [V] := by rw [List.take_succ_eq_append_getElem hkl, ← Option.some.inj (HV.out.symm.trans (List.getElem?_eq_getElem hkl))]
      have hlen : 0 + (L.take k).length = k := by rw [List.length_take]; omega
      rw [hlen, ← htk] at hsn
      have hbf := HBB.out.trans ((hbl.mono (by omega)).trans hb4)
      have HSN := Lib.hid hsn
      have HO4 := Lib.hid ho4
      have HBF := Lib.hid hbf
      clear hsn ho4 hbf hb4 hg4 hvt htk hlen hbl
      go_wp2
      go_roundw
      case rel => exact ⟨k + 1, _, _, _, by omega, by go_num, rfl, HO4.out, HSN, HBF.out⟩
      case measure => simp [intOf]; omega
    · have hkN : k = N := by omega
      have hLk : L.take k = L := List.take_of_length_le (by have := HN.out; omega)
      rw [hLk] at hR
      subst hkN
      have HO := Lib.hid ho
      have HB := Lib.hid hb
      clear ho hb hLk
      go_wp2
      go_ret
      exact ⟨_, _, rfl, HO.out, hR.out, HB.out⟩
end Go.Proofs.Yteenbobblbehoaa

namespace Go.Proofs.Yteenbobblbehoaa
open Go Go.RowKit

/-- What Volume gives. -/
def VolP (w : World) (id : Int) (o : Option Vl) (e : Ending) (w' : World) : Prop := Below w.heap.size w w' ∧
  match o with
  | none => e = .returned (.tuple #[.agg #[.int .i64 0, .int .i64 0, .int .i64 0, .slice none 0 0, .bool false, .int .i64 0], .bool false])
  | some V => ∃ a c, e = .returned (.tuple #[.agg (volC (id - 1).toNat V a V.nodes.length c), .bool true]) ∧ w'.ownsRow w.heap.size 3 1 (.slice a V.nodes.length c) V.nodes.length (BI V.nodes)

set_option maxRecDepth 100000 in
set_option maxHeartbeats 2000000 in
theorem volume_any (w : World) (F : Nat → Prop) (t : Nat) (L : List Vl) (hT : TabI w F t L) (hok : OkL L) (id : Int) :
    Calls Try.prog 13 #[ptrV t, .int .i64 id] w (VolP w id (ofL L id)) := by
  obtain ⟨W0, hW0⟩ : ∃ W0, W0 = w.alloc (.cells #[.int .i64 0, .int .i64 0, .int .i64 0, .slice none 0 0, .bool false, .int .i64 0] 37) := ⟨_, rfl⟩
  obtain ⟨K, hK⟩ : ∃ K, K = w.heap.size := ⟨_, rfl⟩
  have hb0 : Below w.heap.size w W0 := by rw [hW0]; exact (Below.refl _ _).alloc (Nat.le_refl _) _
  have hZ : BlkV W0 K 37 #[.int .i64 0, .int .i64 0, .int .i64 0, .slice none 0 0, .bool false, .int .i64 0] := by rw [hW0, hK]; exact BlkV.new w _ _
  have hT0 := hT.kept hb0
  have HW0 := Lib.hid hW0
  have HK := Lib.hid hK
  have HB := Lib.hid hb0
  have hz0 : W0.heap.size = K + 1 := by rw [hW0, hK]; simp
  clear hW0 hK
  cases hof : ofL L id with
  | none =>
    have HO := Lib.hid (of_none W0 F t L hT0 id hof)
    unfold ptrV at HO ⊢
    clear hof hT hT0 hok hb0
    go_enter Try.func13, Try.ntmps13
    go_wp2_with fail
    rw [← HW0.out, ← HK.out]
    refine HO.out.mono ?_
    rintro e w1 ⟨rfl, hw1⟩
    have hw1 := hw1.symm
    subst hw1
    go_wp2_with (with_reducible refine At.store 37 (.tmp 4) (.tmp 12) ?_)
    refine At.out (wpList_storeV rfl _ rfl (.tmp 4) (.tmp 12) rfl strV K _ #[.int .i64 0, .int .i64 0, .int .i64 0, .slice none 0 0, .bool false, .int .i64 0] rfl rfl hZ rfl rfl (by simp [Value.oneCell']) ?_)
    intro w6 hB6 hbel6 _
    have hb6 := hbel6 w.heap.size w HB.out (by have := HK.out; omega)
    go_wp2_with fail
    exact bodyPost_ret (v := .tuple #[.agg #[.int .i64 0, .int .i64 0, .int .i64 0, .slice none 0 0, .bool false, .int .i64 0], .bool false]) (results_cell2 rfl strV rfl rfl hB6 rfl) rfl ⟨hb6, rfl⟩
  | some V =>
    obtain ⟨i, rfl, hV, hi⟩ := ofL_some hof
    obtain ⟨ra, rc, p, r1, ⟨rb, ro, rfl, r2⟩, r3, r4, r5, r6⟩ := hT0.row hV
    have hlt : i < L.length := (List.getElem?_eq_some_iff.1 hV).1
    obtain ⟨_, _, _, hLm⟩ := hT.head
    have HO := Lib.hid (of_some W0 t rb ro L.length rc p i r1 r2 hlt hLm)
    obtain ⟨an, cn, v1, v2, v3⟩ := r5
    have hvl : V.nodes.length ≤ 64 := by have := hok V (List.mem_of_getElem? hV); unfold OkV at this; omega
    have HOW := Lib.hid (own_any W0 p i V.nodes.length V an cn v1 rfl v2.1 hvl)
    unfold ptrV at HO HOW ⊢
    have HZ := Lib.hid hZ
    have HI := Lib.hid hi
    clear hof hT hT0 hok hb0 r1 r2 r3 r4 r6 v1 v2 v3 hV hvl hLm hlt hZ hi
    go_enter Try.func13, Try.ntmps13
    go_wp2_with fail
    rw [← HW0.out, ← HK.out]
    refine HO.out.mono ?_
    rintro e w1 ⟨rfl, hw1⟩
    have hw1 := hw1.symm
    subst hw1
    go_wp2_with fail
    refine HOW.out.mono ?_
    rintro e w2 ⟨a2, c2, rfl, ho2, hb2⟩
    have hZ2 := HZ.out.below hb2
    go_wp2_with (with_reducible refine At.store 37 (.tmp 4) (.tmp 14) ?_)
    refine At.out (wpList_storeV rfl _ rfl (.tmp 4) (.tmp 14) rfl strV K _ (volC i V a2 V.nodes.length c2) rfl rfl hZ2 rfl rfl (by simp [Value.oneCell']) ?_)
    intro w6 hB6 hbel6 hoth6
    have hb6 := hbel6 w.heap.size w (HB.out.trans (hb2.mono (by have := HB.out.size; omega))) (by have := HK.out; omega)
    have ho6 := own_same ho2 (fun k hk => hoth6 k (by have := HB.out.size; omega))
    go_wp2_with fail
    exact bodyPost_ret (v := .tuple #[.agg (volC i V a2 V.nodes.length c2), .bool true]) (results_cell2 rfl strV rfl rfl hB6 rfl) rfl ⟨hb6, a2, c2, by rw [HI.out], own_base ho6 (by have := HB.out.size; omega)⟩
end Go.Proofs.Yteenbobblbehoaa

namespace Go.Proofs.Yteenbobblbehoaa
open Go Go.RowKit

theorem keepR_drop {V : Vl} {st : Int} {l : List Int} {k : Nat} (hk : k < l.length) : keepR V st k (l.drop k) =
    if l[k] = -1 then keepR V st (k + 1) (l.drop (k + 1)) else if ixF l[k] 0 V.nodes < 0 ∨ (st = 2 ∧ ixF l[k] 0 V.nodes ≠ (k : Int)) then false else keepR V st (k + 1) (l.drop (k + 1)) := by
  rw [List.drop_eq_getElem_cons hk]
  rfl
set_option maxRecDepth 100000 in
set_option maxHeartbeats 4000000 in
theorem rKeeps_any (w : World) (i p : Nat) (V : Vl) (an : Option Addr) (cn : Nat) (hp : p = V.nodes.length) (hrn : Rd w an cn (BI V.nodes)) (st : Int) (a : Option Addr) (c m : Nat) (l : List Int) (hm : m = l.length) (hr : Rd w a c (BI l)) :
    Calls Try.prog 80 #[.agg (volC i V an p cn), .int .i64 st, .slice a m c] w fun e w' => e = .returned (.bool (keepsR V st l)) ∧ Below w.heap.size w w' := by
  obtain ⟨K, hK⟩ : ∃ K, K = w.heap.size := ⟨_, rfl⟩
  obtain ⟨W0, hW0⟩ : ∃ W0, W0 = w.alloc (.cells (volC i V an p cn) 37) := ⟨_, rfl⟩
  have hb0 : Below w.heap.size w W0 := by rw [hW0]; exact (Below.refl _ _).alloc (Nat.le_refl _) _
  have hP : BlkV W0 K 37 (volC i V an p cn) := by rw [hW0, hK]; exact BlkV.new w _ _
  have hl := hr.le
  rw [BI_length, ← hm] at hl
  have hhas := fun (W : World) (x : Int) (hb : Below w.heap.size w W) => has_any W an cn p V.nodes x hp (hrn.kept hb)
  obtain ⟨S, hS⟩ : ∃ S, S = V.st := ⟨_, rfl⟩
  unfold volC at hP hW0 ⊢
  rw [← hS] at hP hW0 ⊢
  have HB0 := Lib.hid hb0
  have HP := Lib.hid hP
  have HHAS := Lib.hid hhas
  have HRD := Lib.hid hr
  have HM := Lib.hid hm
  have HW0 := Lib.hid hW0
  have HK := Lib.hid hK
  have hkp : keepsR V st l = if st ≠ S ∧ ¬ (S = 0 ∧ st = 1) then false else keepR V st 0 l := by rw [hS]; rfl
  have HKP := Lib.hid hkp
  clear hb0 hP hhas hr hm hW0 hK hkp hS hrn hp
  have c1 := HP.out.cell 1
  have c3 := HP.out.cell 3
  simp only [List.getElem?_toArray, List.getElem?_cons_succ, List.getElem?_cons_zero] at c1 c3
  have hcs : ((st != S) = true ∧ (S == 0) = false ∧ st ≠ S ∧ ¬ (S = 0 ∧ st = 1)) ∨ ((st != S) = true ∧ (S == 0) = true ∧ (st == 1) = false ∧ st ≠ S ∧ ¬ (S = 0 ∧ st = 1)) ∨ (((st != S) = false ∨ ((st != S) = true ∧ (S == 0) = true ∧ (st == 1) = true)) ∧ ¬ (st ≠ S ∧ ¬ (S = 0 ∧ st = 1))) := by
    by_cases h1 : st = S
    · exact .inr (.inr ⟨.inl (by simpa using h1), fun h => h.1 h1⟩)
    · have b1 : (st != S) = true := by simpa using h1
      by_cases h2 : S = 0
      · have b2 : (S == 0) = true := by simpa using h2
        by_cases h3 : st = 1
        · exact .inr (.inr ⟨.inr ⟨b1, b2, by simpa using h3⟩, fun h => h.2 ⟨h2, h3⟩⟩)
        · exact .inr (.inl ⟨b1, b2, by simpa using h3, h1, fun h => h3 h.2⟩)
      · exact .inl ⟨b1, by simpa using h2, h1, fun h => h2 h.1⟩
  rcases hcs with ⟨b1, b2, h1, h2⟩ | ⟨b1, b2, b3, h1, h2⟩ | ⟨hpass, hno⟩
  · have hR : keepsR V st l = false := by rw [HKP.out, if_pos ⟨h1, h2⟩]
    rw [hR]
    clear h1 h2 hR
    go_enter Try.func80, Try.ntmps80
    go_upto_region 1 with (fail)
    rw [← HW0.out, ← HK.out]
    go_wp2
    go_ret
    exact ⟨rfl, HB0.out⟩
  · have hR : keepsR V st l = false := by rw [HKP.out, if_pos ⟨h1, h2⟩]
    rw [hR]
    clear h1 h2 hR
    go_enter Try.func80, Try.ntmps80
    go_upto_region 1 with (fail)
    rw [← HW0.out, ← HK.out]
    go_wp2
    go_ret
    exact ⟨rfl, HB0.out⟩
  obtain ⟨R, hR⟩ : ∃ R, R = keepR V st 0 l := ⟨_, rfl⟩
  have hRR : keepsR V st l = R := by rw [HKP.out, if_neg hno, hR]
  rw [hRR]
  have HR := Lib.hid hR
  clear hno hR hRR HKP
  rcases hpass with b1 | ⟨b1, b2, b3⟩
  all_goals
    go_enter Try.func80, Try.ntmps80
    go_upto_region 1 with (fail)
    rw [← HW0.out, ← HK.out]
    go_wp2
    go_loopw [7] (fun s7 wr => ∃ k : Nat, k ≤ m ∧ s7 = .int .i64 k ∧ Hid (Qt W0 wr) ∧ Hid (R = keepR V st k (l.drop k))) (fun s7 _ => m - (intOf s7).toNat)
    case atStart => exact ⟨0, by omega, rfl, Qt.refl _, by rw [List.drop_zero]; exact HR⟩
    case round =>
      obtain ⟨k, hk, rfl, hq, hK⟩ := hrel
      by_cases hlt : k < m
      · have hkl : k < l.length := by have := HM.out; omega
        have hki : (k : Int) < (m : Int) := by omega
        have hbw : Below w.heap.size w wr := HB0.out.trans (hq.out.below _)
        have hrw := HRD.out.kept hbw
        obtain ⟨b, o, rfl, u⟩ := hrw.cs.bi k hkl
        have hK1 := hK.out
        rw [keepR_drop hkl] at hK1
        obtain ⟨x, hx⟩ : ∃ x, x = l[k] := ⟨_, rfl⟩
        rw [← hx] at u hK1
        have hP2 := HP.out.below (hq.out.below W0.heap.size)
        have d1 := hP2.cell 1
        have d3 := hP2.cell 3
        have dz := hP2.lt
        simp only [List.getElem?_toArray, List.getElem?_cons_succ, List.getElem?_cons_zero] at d1 d3
        obtain ⟨ix, hix⟩ : ∃ ix, ix = ixF x 0 V.nodes := ⟨_, rfl⟩
        have hhq : ∀ q, Calls Try.prog 88 #[.slice an p cn, .int .i64 x] (wr.drewN q) fun e w' => e = .returned (.int .i64 ix) ∧ ∃ n, w' = wr.drewN n := fun q => by
          refine (HHAS.out (wr.drewN q) x (below_drewN hbw q)).mono ?_
          rintro e w' ⟨rfl, rfl⟩
          exact ⟨by rw [hix], q, rfl⟩
        rw [← hix] at hK1
        have HHQ := Lib.hid hhq
        clear hx hK hrw hbw hix hhq hP2
        by_cases h1 : x = -1
        · rw [if_pos h1] at hK1
          subst h1
          have HK1 := Lib.hid hK1
          clear hK1
          go_wp2
          go_roundw
          case rel => exact ⟨k + 1, by omega, by go_num, hq, HK1⟩
          case measure => simp [intOf]; omega
        · rw [if_neg h1] at hK1
          have e1 : (x == -1) = false := by simpa using h1
          clear h1
          by_cases h2 : ix < 0
          · rw [if_pos (.inl h2)] at hK1
            have HK1 := Lib.hid hK1
            clear hK1
            go_wp2
            go_quiet ((go_at_call 88; exact HHQ.out _))
            go_wp2
            go_ret
            exact ⟨ret_bool HK1.out.symm, HB0.out.trans ((Qt.drew hq.out _).below _)⟩
          · by_cases h3 : st = 2
            · have e3 : (st == 2) = true := by simpa using h3
              by_cases h4 : ix = (k : Int)
              · have e4 : (ix != (k : Int)) = false := by simpa using h4
                rw [if_neg (fun h => h.elim h2 fun h => h.2 h4)] at hK1
                have HK1 := Lib.hid hK1
                clear hK1 h4 h3
                go_wp2
                go_quiet ((go_at_call 88; exact HHQ.out _))
                go_wp2
                go_roundw
                case rel => exact ⟨k + 1, by omega, by go_num, Qt.drew hq.out _, HK1⟩
                case measure => simp [intOf]; omega
              · have e4 : (ix != (k : Int)) = true := by simpa using h4
                rw [if_pos (.inr ⟨h3, h4⟩)] at hK1
                have HK1 := Lib.hid hK1
                clear hK1 h4 h3
                go_wp2
                go_quiet ((go_at_call 88; exact HHQ.out _))
                go_wp2
                go_ret
                exact ⟨ret_bool HK1.out.symm, HB0.out.trans ((Qt.drew hq.out _).below _)⟩
            · have e3 : (st == 2) = false := by simpa using h3
              rw [if_neg (fun h => h.elim h2 fun h => h3 h.1)] at hK1
              have HK1 := Lib.hid hK1
              clear hK1 h3
              go_wp2
              go_quiet ((go_at_call 88; exact HHQ.out _))
              go_wp2
              go_roundw
              case rel => exact ⟨k + 1, by omega, by go_num, Qt.drew hq.out _, HK1⟩
              case measure => simp [intOf]; omega
      · have hki : ¬ (k : Int) < (m : Int) := by omega
        have hK1 : R = true := by rw [hK.out, List.drop_of_length_le (by have := HM.out; omega)]; rfl
        have HK1 := Lib.hid hK1
        clear hK hK1
        go_wp2
        go_ret
        exact ⟨ret_bool HK1.out.symm, HB0.out.trans (hq.out.below _)⟩
end Go.Proofs.Yteenbobblbehoaa

namespace Go.Proofs.Yteenbobblbehoaa
open Go Go.RowKit

/-- What a command of the document's table gives. -/
def RAns (w : World) (F : Nat → Prop) (g : Nat) (X : (List Int × Nat) × List Vl) (e : Ending) (w' : World) : Prop :=
  ∃ a c, e = .returned (.tuple #[.slice a X.1.1.length c, .int .i64 (X.1.2 : Int)]) ∧ Rd w' a c (BI X.1.1) ∧ RefT w' (grew F w w') g X.2 ∧ Off F w w'
theorem RAns.no {w w' : World} {F : Nat → Prop} {g : Nat} {L : List Vl} (k : Nat) (h : RefT w F g L) (hb : Below w.heap.size w w') : RAns w F g (([], k), L) (.returned (.tuple #[.slice none 0 0, .int .i64 (k : Int)])) w' :=
  ⟨none, 0, rfl, Rd.none _, (h.kept hb).grewn, Off.ofBelow hb⟩
theorem RAns.app {w w' : World} {F : Nat → Prop} {g m c' B : Nat} {a' : Option Addr} {L' : List Vl} {nodes hd : List Int} (hm : m = hd.length + nodes.length) (hT : RefT w' (grew F w w') g L')
    (ho : w'.ownsRow B 3 1 (.slice a' m c') m (BI hd ++ BI nodes)) (hO : Off F w w') : RAns w F g ((hd ++ nodes, 0), L') (.returned (.tuple #[.slice a' m c', .int .i64 0])) w' := by
  have hl : m = (hd ++ nodes).length := by rw [List.length_append]; exact hm
  subst hl
  refine ⟨a', c', rfl, ?_, hT, hO⟩
  rw [← BI_append] at ho
  obtain ⟨a1, c1, he, hr⟩ := Rd.ofOwn ho
  cases he
  exact hr
set_option maxRecDepth 100000 in
set_option maxHeartbeats 1000000 in
theorem row_none (w : World) (F : Nat → Prop) (g : Nat) (L : List Vl) (h : RefT w F g L) (id : Int) (hid : ofL L id = none) :
    Calls Try.prog 43 #[.pointer (some ⟨g, 0, none⟩), .int .i64 id] w fun e w' => e = .returned (.pointer none) ∧ w' = w := by
  obtain ⟨a, c, xs, q, h⟩ := h
  obtain ⟨n, hn⟩ : ∃ n, n = L.length := ⟨_, rfl⟩
  have h1 := h.blk
  rw [← hn] at h1
  have c0 := h1.cell 0
  have z0 := h1.lt
  simp only [List.getElem?_toArray, List.getElem?_cons_zero] at c0
  have hcs : id < 1 ∨ (¬ id < 1 ∧ (n : Int) < id) := by
    unfold ofL at hid
    by_cases h0 : 1 ≤ id
    · rw [if_pos h0, List.getElem?_eq_none_iff] at hid
      right; omega
    · left; omega
  clear h h1 hn hid
  rcases hcs with h1 | ⟨h1, h2⟩
  all_goals
    go_enter Try.func43, Try.ntmps43
    go_wp2
    go_ret
    exact ⟨rfl, rfl⟩
set_option maxRecDepth 100000 in
set_option maxHeartbeats 1000000 in
theorem row_some (w : World) (F : Nat → Prop) (g G : Nat) (L : List Vl) (c : Nat) (xs : List Value) (q : Nat → Option Addr × Nat) (h : RefX w F g L (some ⟨G, 0, none⟩) c xs q) (i : Nat) (hi : i < L.length) (id : Int) (hid : id = (i : Int) + 1) :
    Calls Try.prog 43 #[.pointer (some ⟨g, 0, none⟩), .int .i64 id] w fun e w' => e = .returned (.pointer (some ⟨G, i * 7, none⟩)) ∧ w' = w := by
  subst hid
  obtain ⟨n, hn⟩ : ∃ n, n = L.length := ⟨_, rfl⟩
  have h1 := h.blk
  have hl : n ≤ 9223372036854775807 := by
    obtain ⟨_, _, _, _, _, _, hc1, hc2, _⟩ := h.at (List.getElem?_eq_getElem hi)
    unfold maxLen at hc2; omega
  rw [← hn] at h1 hi
  have c0 := h1.cell 0
  have z0 := h1.lt
  simp only [List.getElem?_toArray, List.getElem?_cons_zero] at c0
  have e1 : ¬ (i : Int) + 1 < 1 := by omega
  have e2 : ¬ (n : Int) < (i : Int) + 1 := by omega
  have e3 : IntKind.i64.wrap ((i : Int) + 1 - 1) = (i : Int) := by rw [show (i : Int) + 1 - 1 = (i : Int) by omega]; exact IntWalk.i64_in _ (by omega)
  have e4 : (i : Int) < (n : Int) := by omega
  clear h h1 hn
  go_enter Try.func43, Try.ntmps43
  go_wp2
  go_ret
  exact ⟨rfl, rfl⟩
/-- What a drawn region reads of a row. -/
theorem rrowS {w V : World} {G k : Nat} {x1 x2 x3 x4 : Value} (h : Below w.heap.size w V) (hG : G < w.heap.size) (c1 : w.cell? ⟨G, k + 1, none⟩ = some x1) (c2 : w.cell? ⟨G, k + 2, none⟩ = some x2) (c3 : w.cell? ⟨G, k + 3, none⟩ = some x3) (c4 : w.cell? ⟨G, k + 4, none⟩ = some x4) :
    V.cell? ⟨G, k + 1, none⟩ = some x1 ∧ V.cell? ⟨G, k + 2, none⟩ = some x2 ∧ V.cell? ⟨G, k + 3, none⟩ = some x3 ∧ V.cell? ⟨G, k + 4, none⟩ = some x4 ∧ Below w.heap.size w V :=
  ⟨(h.cell (p := ⟨G, k + 1, none⟩) hG).trans c1, (h.cell (p := ⟨G, k + 2, none⟩) hG).trans c2, (h.cell (p := ⟨G, k + 3, none⟩) hG).trans c3, (h.cell (p := ⟨G, k + 4, none⟩) hG).trans c4, h⟩

set_option maxRecDepth 100000 in
set_option maxHeartbeats 4000000 in
theorem rLook_any (w : World) (F : Nat → Prop) (g : Nat) (L : List Vl) (hT : RefT w F g L) (id : Int) (hok : OkL L) :
    Calls Try.prog 61 #[.pointer (some ⟨g, 0, none⟩), .int .i64 id] w (RAns w F g (lookL L id, L)) := by
  have HT := Lib.hid hT
  cases hof : ofL L id with
  | none =>
    have hX : lookL L id = ([], 7) := by unfold lookL; rw [hof]
    rw [hX]
    have HO := Lib.hid (row_none w F g L hT id hof)
    clear hX hof hT
    go_enter Try.func61, Try.ntmps61
    go_wp2_with fail
    refine HO.out.mono ?_
    rintro e w1 ⟨rfl, hw1⟩
    have hw1 := hw1.symm
    subst hw1
    go_wp2
    go_ret2
    exact RAns.no 7 HT.out (Below.refl _ _)
  | some V' =>
    obtain ⟨i, rfl, hV, hi⟩ := ofL_some hof
    obtain ⟨a, c, xs, q, hx⟩ := hT
    obtain ⟨G, rfl, hG, hFG, hcell, hfro, _, _, hty⟩ := hx.at hV
    have hlt : i < L.length := (List.getElem?_eq_some_iff.1 hV).1
    have HO := Lib.hid (row_some w F g G L c xs q hx i hlt _ rfl)
    have hXL : lookL L ((i : Int) + 1) = ([(i : Int) + 1, V'.st, V'.ep, oneI V'.fr] ++ V'.nodes, 0) := by unfold lookL; rw [hof]
    rw [hXL]
    have hml : V'.nodes.length ≤ 64 := by have := hok V' (List.mem_of_getElem? hV); unfold OkV at this; omega
    obtain ⟨m, hm⟩ : ∃ m, m = V'.nodes.length := ⟨_, rfl⟩
    obtain ⟨an, han⟩ : ∃ an, an = (q i).1 := ⟨_, rfl⟩
    obtain ⟨cn, hcn⟩ : ∃ cn, cn = (q i).2 := ⟨_, rfl⟩
    have hrn := (hx.rows i V' hV).2.1.1
    rw [← hm] at hml
    have c1 := hcell 1 (by omega)
    have c2 := hcell 2 (by omega)
    have c3 := hcell 3 (by omega)
    have c4 := hcell 4 (by omega)
    rw [← hm, ← han, ← hcn] at c1 c2 c3 c4
    rw [← han, ← hcn] at hrn
    simp only [rowC, List.getElem?_toArray, List.getElem?_cons_succ, List.getElem?_cons_zero] at c1 c2 c3 c4
    have HRN := Lib.hid hrn
    have HM := Lib.hid hm
    obtain ⟨f, hf⟩ : ∃ f, f = V'.fr := ⟨_, rfl⟩
    rw [← hf] at c4 ⊢
    clear hof hx hi hV hlt hXL hm hok hcell hfro hty han hcn hrn hf
    cases f with
    | false =>
      go_enter Try.func61, Try.ntmps61
      go_wp2_with fail
      refine HO.out.mono ?_
      rintro e w1 ⟨rfl, hw1⟩
      have hw1 := hw1.symm
      subst hw1
      obtain ⟨wr, hwr⟩ : ∃ wr : World, wr = w := ⟨_, rfl⟩
      subst hwr
      go_upto_region 7 with (fail)
      go_region_held3 (fun V => V.cell? ⟨G, i * 7 + 1, none⟩ = some (.int .i64 V'.st) ∧ V.cell? ⟨G, i * 7 + 2, none⟩ = some (.int .i64 V'.ep) ∧ V.cell? ⟨G, i * 7 + 3, none⟩ = some (.slice an m cn) ∧ V.cell? ⟨G, i * 7 + 4, none⟩ = some (.bool false) ∧ Below wr.heap.size wr V)
        (first
          | exact rrowS (Below.refl _ _).drew hG c1 c2 c3 c4
          | exact rrowS ((Below.refl _ _).drew.alloc (Nat.le_refl _) _) hG c1 c2 c3 c4
          | exact rrowS (((Below.refl wr.heap.size wr).drew.alloc (Nat.le_refl _) _).trans hb4) hG c1 c2 c3 c4)
        (first
          | ((with_reducible refine StepAt 36 ?_)
             (refine At.out (step_app (by rfl) (.tmp 30) (.tmp 35) 27 (by rfl) elemN rfl wr.heap.size _ 4 [.int .i64 ((i : Int) + 1), .int .i64 V'.st, .int .i64 V'.ep, .int .i64 0] (by rfl) (World.ownsRow_lit (e := 3) (size := 1) wr.drew #[.int .i64 ((i : Int) + 1), .int .i64 V'.st, .int .i64 V'.ep, .int .i64 0] 4 (Nat.le_refl _) (by unfold maxLen; omega) rfl) an m cn (BI V'.nodes) (by rfl) (by rw [BI_length]; exact HM.out) (Rd.kept (w := wr.drew) HRN.out ((Below.refl _ _).alloc (Nat.le_refl _) _)) (BI_one _) (by unfold maxLen; omega) (by omega) (by simp) ?_))
             (intro v4 w4 ho4 hb4)
             (obtain ⟨a4, c4', rfl, _⟩ := Rd.ofOwn ho4)))
      all_goals
        have hbf : Below wr.heap.size wr w4 := ((Below.refl wr.heap.size wr).drew.alloc (Nat.le_refl _) _).trans hb4
        have HBF := Lib.hid hbf
        have HO4 := Lib.hid ho4
        clear hbf ho4 hb4
        go_wp2
        go_ret2
        exact RAns.app (hd := [(i : Int) + 1, V'.st, V'.ep, oneI false]) (by have := HM.out; simp only [List.length_cons, List.length_nil]; omega) (HT.out.kept HBF.out).grewn HO4.out (Off.ofBelow HBF.out)
    | true =>
      go_enter Try.func61, Try.ntmps61
      go_wp2_with fail
      refine HO.out.mono ?_
      rintro e w1 ⟨rfl, hw1⟩
      have hw1 := hw1.symm
      subst hw1
      obtain ⟨wr, hwr⟩ : ∃ wr : World, wr = w := ⟨_, rfl⟩
      subst hwr
      go_upto_region 7 with (fail)
      go_region_held3 (fun V => V.cell? ⟨G, i * 7 + 1, none⟩ = some (.int .i64 V'.st) ∧ V.cell? ⟨G, i * 7 + 2, none⟩ = some (.int .i64 V'.ep) ∧ V.cell? ⟨G, i * 7 + 3, none⟩ = some (.slice an m cn) ∧ V.cell? ⟨G, i * 7 + 4, none⟩ = some (.bool true) ∧ Below wr.heap.size wr V)
        (first
          | exact rrowS (Below.refl _ _).drew hG c1 c2 c3 c4
          | exact rrowS ((Below.refl _ _).drew.alloc (Nat.le_refl _) _) hG c1 c2 c3 c4
          | exact rrowS (((Below.refl wr.heap.size wr).drew.alloc (Nat.le_refl _) _).trans hb4) hG c1 c2 c3 c4)
        (first
          | ((with_reducible refine StepAt 36 ?_)
             (refine At.out (step_app (by rfl) (.tmp 30) (.tmp 35) 27 (by rfl) elemN rfl wr.heap.size _ 4 [.int .i64 ((i : Int) + 1), .int .i64 V'.st, .int .i64 V'.ep, .int .i64 1] (by rfl) (World.ownsRow_lit (e := 3) (size := 1) wr.drew #[.int .i64 ((i : Int) + 1), .int .i64 V'.st, .int .i64 V'.ep, .int .i64 1] 4 (Nat.le_refl _) (by unfold maxLen; omega) rfl) an m cn (BI V'.nodes) (by rfl) (by rw [BI_length]; exact HM.out) (Rd.kept (w := wr.drew) HRN.out ((Below.refl _ _).alloc (Nat.le_refl _) _)) (BI_one _) (by unfold maxLen; omega) (by omega) (by simp) ?_))
             (intro v4 w4 ho4 hb4)
             (obtain ⟨a4, c4', rfl, _⟩ := Rd.ofOwn ho4)))
      all_goals
        have hbf : Below wr.heap.size wr w4 := ((Below.refl wr.heap.size wr).drew.alloc (Nat.le_refl _) _).trans hb4
        have HBF := Lib.hid hbf
        have HO4 := Lib.hid ho4
        clear hbf ho4 hb4
        go_wp2
        go_ret2
        exact RAns.app (hd := [(i : Int) + 1, V'.st, V'.ep, oneI true]) (by have := HM.out; simp only [List.length_cons, List.length_nil]; omega) (HT.out.kept HBF.out).grewn HO4.out (Off.ofBelow HBF.out)
end Go.Proofs.Yteenbobblbehoaa

namespace Go.Proofs.Yteenbobblbehoaa
open Go Go.RowKit

theorem elemQ : ElemT Try.prog 50 82 7 (.agg #[.int .i64 0, .int .i64 0, .int .i64 0, .slice none 0 0, .bool false, .int .i64 0, .int .i64 0]) 72 := ⟨Try.underlying50, info_parts (by kernel_rfl)⟩
theorem cells7 (w : World) (C : Array Value) (t : TypeId) : ∀ j u, C.toList[j]? = some u → (w.alloc (.cells C t)).cell? ((⟨w.heap.size, 0, none⟩ : Addr).add j) = some u := by
  intro j u h
  rw [Addr.add_lit, Nat.zero_add, (BlkV.new w t C).cell j]
  simpa using h
theorem own_ofTy {w w' : World} {base : Nat} {e t' : TypeId} {sz : Nat} {v : Value} {n : Nat} {xs : List Value} (h : w.ownsRow base e sz v n xs) {g : Nat} {cs : Array Value} (hB : BlkV w g t' cs) (hne : e ≠ t') (ho : Off (· = g) w w') : w'.ownsRow base e sz v n xs :=
  own_off h ho fun k hk e => by
    subst e
    obtain ⟨cs', fr', hh⟩ := own_ty h k hk
    rw [show w.heap[k]? = _ from hB] at hh
    cases hh
    exact hne rfl
/-- A row behind the others, and the table's slice stored. -/
theorem RefX.push_end {w w3 w4 : World} {F : Nat → Prop} {g n : Nat} {L : List Vl} {a : Option Addr} {c : Nat} {xs : List Value} {q : Nat → Option Addr × Nat} (h : RefX w F g L a c xs q) (hn : n = L.length) (V : Vl) {a3 a4 : Option Addr} {c3 c4 m : Nat} (hm : m = V.nodes.length)
    (hb3 : Below w.heap.size w w3) (ho3 : w3.ownsRow w.heap.size 3 1 (.slice a3 m c3) m (BI V.nodes))
    (ho4 : w4.ownsRow 0 82 7 (.slice a4 (n + 1) c4) (n + 1) (xs ++ (rowC n V a3 m c3).toList)) (hg4 : (w3.alloc (.cells (rowC n V a3 m c3) 82)).grownBy w4 (Value.slice a n c).ownBlock)
    (hat : (Value.slice a4 (n + 1) c4).ownBlock = (Value.slice a n c).ownBlock ∨ (Value.slice a4 (n + 1) c4).ownBlock = some (w3.alloc (.cells (rowC n V a3 m c3) 82)).heap.size) :
    RefT (w4.setCell ⟨g, 0, none⟩ (.slice a4 (n + 1) c4)) (grew F w (w4.setCell ⟨g, 0, none⟩ (.slice a4 (n + 1) c4))) g (L ++ [V]) ∧ Off F w (w4.setCell ⟨g, 0, none⟩ (.slice a4 (n + 1) c4)) := by
  subst hn hm
  obtain ⟨W3, hW3⟩ : ∃ W3, W3 = w3.alloc (.cells (rowC L.length V a3 V.nodes.length c3) 82) := ⟨_, rfl⟩
  have hbA : Below w3.heap.size w3 W3 := by rw [hW3]; exact (Below.refl _ _).alloc (Nat.le_refl _) _
  rw [← hW3] at hg4 hat
  have hbW : Below w.heap.size w W3 := hb3.trans (hbA.mono hb3.size)
  have hX := h.kept hbW
  have o2 : Off F w W3 := Off.ofBelow hbW
  have o3 : Off F w w4 := o2.then (Off.ofGrown hg4 h.blkF)
  have o4 : Off F w (w4.setCell ⟨g, 0, none⟩ (.slice a4 (L.length + 1) c4)) := o3.then (Off.setCell (p := ⟨g, 0, none⟩) h.ownF _)
  have hty := own_ty hX.own
  have m1 : BlkV w4 g 52 #[.slice a L.length c] := hX.blk.grown hg4 hty (by decide)
  have os : Off (· = g) w4 (w4.setCell ⟨g, 0, none⟩ (.slice a4 (L.length + 1) c4)) := Off.setCell (F := (· = g)) (p := ⟨g, 0, none⟩) rfl _
  have tr : ∀ {a : Option Addr} {c : Nat} {ys : List Value}, TRd W3 3 a c ys → TRd (w4.setCell ⟨g, 0, none⟩ (.slice a4 (L.length + 1) c4)) 3 a c ys := fun ht =>
    (ht.off (Off.ofGrown (F := fun k => (Value.slice a L.length c).ownBlock = some k) hg4 fun _ h => h) fun k cs fr hk hh => by
      obtain ⟨cs', fr', hh'⟩ := hty k hk
      rw [hh] at hh'
      cases hh').sameR ⟨_, _, m1⟩ (by decide) os
  have hsz : (w4.setCell ⟨g, 0, none⟩ (.slice a4 (L.length + 1) c4)).heap.size = w4.heap.size := by simp [World.setCell]
  have hs3 : w3.heap.size ≤ w4.heap.size := Nat.le_trans hbA.size hg4.size
  have hxl : xs.length = L.length * 7 := h.own.1
  obtain ⟨a5, c5, he5, t5⟩ := TRd.ofOwn ho3
  cases he5
  refine ⟨⟨a4, c4, xs ++ (rowC L.length V a3 V.nodes.length c3).toList, fun k => if k = L.length then (a3, c3) else q k, ?_, ?_, ?_, ?_, .inl h.ownF, ?_⟩, o4⟩
  · rw [List.length_append]; exact m1.set 0 _
  · rw [List.length_append]; exact own_ofTy ho4 m1 (by decide) os
  · rw [List.length_append]
    intro k hk
    rcases hat with e | e
    · have hk : (Value.slice a4 (L.length + 1) c4).ownBlock = some k := hk
      rw [e] at hk
      exact .inl (h.blkF k hk)
    · have h1 := (ho4.lt k hk).2
      have hk : (Value.slice a4 (L.length + 1) c4).ownBlock = some k := hk
      rw [e] at hk
      cases hk
      right
      rw [hsz]
      exact ⟨hbW.size, h1⟩
  · intro k U hU
    by_cases hk : k = L.length
    · subst hk
      rw [List.getElem?_append_right (Nat.le_refl _)] at hU
      simp at hU
      subst hU
      simp only [if_true]
      refine ⟨fun j hj => ?_, tr (t5.kept hbA), fun b o hx ha => ?_⟩
      · rw [List.getElem?_append_right (by omega), hxl, show L.length * 7 + j - L.length * 7 = j by omega]
        simp
      · right
        have hne : 0 < V.nodes.length := by
          rcases Nat.eq_zero_or_pos V.nodes.length with h0 | h0
          · exact absurd (by rw [List.length_eq_zero_iff.1 h0]; rfl) hx
          · exact h0
        obtain ⟨G, cap, he, q1, q2, _⟩ := own_pos ho3 hne
        cases he
        cases ha
        rw [hsz]
        exact ⟨q1, by omega⟩
    · have hkl : k < L.length := by
        have := (List.getElem?_eq_some_iff.1 hU).1
        rw [List.length_append] at this
        simp at this
        omega
      rw [List.getElem?_append_left hkl] at hU
      simp only [if_neg hk]
      obtain ⟨r1, r2, r3⟩ := hX.rows k U hU
      refine ⟨fun j hj => ?_, tr r2, fun b o hx ha => .inl (r3 b o hx ha)⟩
      rw [List.getElem?_append_left (by omega)]
      exact r1 j hj
  · intro k hk
    rcases hk with h' | h'
    · have := h.lt k h'
      have := o4.size
      omega
    · exact h'.2

set_option maxRecDepth 100000 in
set_option maxHeartbeats 4000000 in
theorem rGrow_any (w : World) (F : Nat → Prop) (g : Nat) (L : List Vl) (hT : RefT w F g L) (hLm : L.length ≤ 4096) (a : Option Addr) (c m : Nat) (nodes : List Int) (hm : m = nodes.length) (hr : Rd w a c (BI nodes)) (hml : m ≤ 100000000) :
    Calls Try.prog 59 #[.pointer (some ⟨g, 0, none⟩), .slice a m c] w (RAns w F g (growR L nodes)) := by
  obtain ⟨X, hX⟩ : ∃ X, X = growR L nodes := ⟨_, rfl⟩
  rw [← hX]
  unfold growR at hX
  have HT := Lib.hid hT
  have hap := apart_any w a c m nodes false hm hr
  obtain ⟨R, hR⟩ : ∃ R, R = apF false [] nodes false := ⟨_, rfl⟩
  rw [← hR] at hap hX
  have HAP := Lib.hid hap
  have HR := Lib.hid hr
  have HM := Lib.hid hm
  clear hap hR hr hm
  cases R with
  | false =>
    rw [if_pos rfl] at hX
    have HX := Lib.hid hX
    clear hX hT
    go_enter Try.func59, Try.ntmps59
    go_wp2_with fail
    refine HAP.out.mono ?_
    rintro e w1 ⟨rfl, hq⟩
    have hb1 := hq.below w.heap.size
    clear hq
    go_wp2
    go_ret2
    rw [HX.out]
    exact RAns.no 1 HT.out hb1
  | true =>
    rw [if_neg (by decide)] at hX
    obtain ⟨ta, tc, xs, q, hx⟩ := hT
    obtain ⟨n, hn⟩ : ∃ n, n = L.length := ⟨_, rfl⟩
    have HXX := Lib.hid hx
    have h1 := hx.blk
    have h2 := hx.own
    rw [← hn] at h1 h2 hLm hX
    have hxl : xs.length = n * 7 := h2.1
    have HXL := Lib.hid hxl
    have HN := Lib.hid hn
    have H1 := Lib.hid h1
    have H2 := Lib.hid h2
    clear hx h1 h2 hxl hn
    by_cases h4 : 4096 ≤ n
    · rw [if_pos h4] at hX
      have HX := Lib.hid hX
      have h4i : (4096 : Int) ≤ (n : Int) := by omega
      clear hX
      go_enter Try.func59, Try.ntmps59
      go_wp2_with fail
      refine HAP.out.mono ?_
      rintro e w1 ⟨rfl, hq⟩
      have hb1 := hq.below w.heap.size
      have c0 := (H1.out.below hb1).cell 0
      have z0 := (H1.out.below hb1).lt
      simp only [List.getElem?_toArray, List.getElem?_cons_zero] at c0
      have HB1 := Lib.hid hb1
      clear hq hb1
      go_wp2
      go_ret2
      rw [HX.out]
      exact RAns.no 17 HT.out HB1.out
    · rw [if_neg h4] at hX
      have HX := Lib.hid hX
      have h4i : ¬ (4096 : Int) ≤ (n : Int) := by omega
      have hwr : IntKind.i64.wrap ((n : Int) + 1) = (n : Int) + 1 := IntWalk.i64_in _ (by omega)
      clear hX
      go_enter Try.func59, Try.ntmps59
      go_wp2_with fail
      refine HAP.out.mono ?_
      rintro e wr ⟨rfl, hq⟩
      have hb1 := hq.below w.heap.size
      have h11 := H1.out.below hb1
      have c0 := h11.cell 0
      have z0 := h11.lt
      simp only [List.getElem?_toArray, List.getElem?_cons_zero] at c0
      have HB1 := Lib.hid hb1
      have hcl := rClone_any wr.drew a c m nodes HM.out ((HR.out.kept hb1).kept (Below.refl _ _).drew) hml
      have HCL := Lib.hid hcl
      clear hq hb1 hcl
      go_upto_region 6 with (fail)
      go_region_law (first
        | ((with_reducible refine StepAt 29 ?_); (refine At.out ?_); go_simp; go_at_call 44; refine (HCL.out).mono ?_; rintro e w3 ⟨a3, c3, rfl, ho3, hb3⟩
           (have h13 := BlkV.below (w := wr.drew) h11 hb3); (have z3 : g < w3.heap.size := h13.lt); (have k0 := h13.cell 0); (simp only [List.getElem?_toArray, List.getElem?_cons_zero] at k0))
        | ((with_reducible refine StepAt 33 ?_)
           (refine At.out (step_appH (by rfl) (.tmp 26) (.tmp 32) 50 (by rfl) elemQ rfl (by decide) 0 (.slice ta n tc) n xs (by rfl) ((own_below (own_below H2.out HB1.out) ((Below.refl wr.heap.size wr).drew.trans hb3)).alloc _) ⟨w3.heap.size, 0, none⟩ 1 1 (rowC n ⟨0, 1, nodes, false, 1⟩ a3 m c3).toList (by rfl) rfl (cells7 w3 (rowC n ⟨0, 1, nodes, false, 1⟩ a3 m c3) _) (by simp [Value.oneCell']) (by unfold maxLen; omega) (by omega) (Nat.zero_le _) ?_))
           (intro a4 c4 w4 ho4 hb4 hg4 hat4)
           (have h14 := BlkV.grown (BlkV.alloc h13 (.cells (rowC n ⟨0, 1, nodes, false, 1⟩ a3 m c3) 82)) hg4 (own_ty ((own_below (own_below H2.out HB1.out) ((Below.refl wr.heap.size wr).drew.trans hb3)).alloc _)) (by decide))
           (have i0 := h14.cell 0); (have if0 := h14.frozen 0); (simp only [List.getElem?_toArray, List.getElem?_cons_zero] at i0)))
      all_goals
        have e2 : Below w.heap.size w w3 := HB1.out.trans (((Below.refl wr.heap.size wr).drew.trans hb3).mono HB1.out.size)
        obtain ⟨hfin, hbf⟩ := HXX.out.push_end HN.out ⟨0, 1, nodes, false, 1⟩ HM.out e2 (own_base ho3 (by simp; exact HB1.out.size)) ho4 hg4 hat4
        have HFIN := Lib.hid hfin
        have HBF := Lib.hid hbf
        clear hfin hbf ho4 hb4 hg4 hat4 h14 i0 if0 h13 k0 hb3 ho3 e2 h11
        go_wp2
        go_ret2
        rw [HX.out]
        refine ⟨_, _, rfl, ?_, ?_, ?_⟩
        · have h1 := Rd.one (w4.setCell ⟨g, 0, none⟩ (.slice a4 (n + 1) c4)) (.int .i64 ((n : Int) + 1)) 3
          rw [show (w4.setCell ⟨g, 0, none⟩ (.slice a4 (n + 1) c4)).heap.size = w4.heap.size by simp [World.setCell]] at h1
          exact h1
        · exact (HFIN.out.kept ((Below.refl _ _).alloc (Nat.le_refl _) _)).sub (fun k hk => hk.elim .inl fun h => .inr ⟨h.1, by have := h.2; simp at this ⊢; omega⟩) fun k hk => hk.elim (fun h => by have := HFIN.out.lt k (.inl h); simp at this ⊢; omega) (·.2)
        · exact HBF.out.below ((Below.refl _ _).alloc (Nat.le_refl _) _)
end Go.Proofs.Yteenbobblbehoaa

namespace Go.Proofs.Yteenbobblbehoaa
open Go Go.RowKit

set_option maxRecDepth 100000 in
set_option maxHeartbeats 4000000 in
theorem rAssign_any (w : World) (F : Nat → Prop) (g : Nat) (L : List Vl) (hT : RefT w F g L) (id salt : Int) (hok : OkL L) :
    Calls Try.prog 60 #[.pointer (some ⟨g, 0, none⟩), .int .i64 id, .int .i64 salt] w (RAns w F g (assignL L id salt)) := by
  obtain ⟨X, hX⟩ : ∃ X, X = assignL L id salt := ⟨_, rfl⟩
  rw [← hX]
  unfold assignL at hX
  have HT := Lib.hid hT
  cases hof : ofL L id with
  | none =>
    rw [hof] at hX
    have HX := Lib.hid hX
    have HO := Lib.hid (row_none w F g L hT id hof)
    clear hX hof hT
    go_enter Try.func60, Try.ntmps60
    go_wp2_with fail
    refine HO.out.mono ?_
    rintro e w1 ⟨rfl, hw1⟩
    have hw1 := hw1.symm
    subst hw1
    go_wp2
    go_ret2
    rw [HX.out]
    exact RAns.no 7 HT.out (Below.refl _ _)
  | some V' =>
    rw [hof] at hX
    simp only at hX
    obtain ⟨i, rfl, hV, hi⟩ := ofL_some hof
    obtain ⟨a, c, xs, q, hx⟩ := hT
    obtain ⟨G, rfl, hG, hFG, hcell, hfro, _, _, hty⟩ := hx.at hV
    have hlt : i < L.length := (List.getElem?_eq_some_iff.1 hV).1
    have HO := Lib.hid (row_some w F g G L c xs q hx i hlt _ rfl)
    have hokV := hok V' (List.mem_of_getElem? hV)
    have hml : V'.nodes.length ≤ 64 := by unfold OkV at hokV; omega
    have hkey : 1 ≤ V'.key ∧ V'.key ≤ 1099511627777 := by unfold OkV at hokV; omega
    obtain ⟨m, hm⟩ : ∃ m, m = V'.nodes.length := ⟨_, rfl⟩
    obtain ⟨an, han⟩ : ∃ an, an = (q i).1 := ⟨_, rfl⟩
    obtain ⟨cn, hcn⟩ : ∃ cn, cn = (q i).2 := ⟨_, rfl⟩
    obtain ⟨st, hst⟩ : ∃ st, st = V'.st := ⟨_, rfl⟩
    obtain ⟨ep, hep⟩ : ∃ ep, ep = V'.ep := ⟨_, rfl⟩
    obtain ⟨ky, hky⟩ : ∃ ky, ky = V'.key := ⟨_, rfl⟩
    obtain ⟨f, hf⟩ : ∃ f, f = V'.fr := ⟨_, rfl⟩
    have hrow := hx.rows i V' hV
    rw [← hm] at hml
    have c1 := hcell 1 (by omega)
    have c2 := hcell 2 (by omega)
    have c3 := hcell 3 (by omega)
    have c4 := hcell 4 (by omega)
    have c6 := hcell 6 (by omega)
    have f6 := hfro (i * 7 + 6)
    rw [← hm, ← han, ← hcn] at c1 c2 c3 c4 c6
    simp only [rowC, List.getElem?_toArray, List.getElem?_cons_succ, List.getElem?_cons_zero] at c1 c2 c3 c4 c6
    rw [← hst] at c1
    rw [← hep] at c2
    rw [← hf] at c4
    rw [← hky] at c6 hkey
    rw [← hst, ← hf, ← hky, ← hep] at hX
    have HXX := Lib.hid hx
    have HROW := Lib.hid hrow
    have HV := Lib.hid hV
    have HM := Lib.hid hm
    have HAN := Lib.hid han
    have HCN := Lib.hid hcn
    have HST := Lib.hid hst
    have HEP := Lib.hid hep
    have HKY := Lib.hid hky
    have HF := Lib.hid hf
    clear hof hx hi hV hm hok hcell hfro hty han hcn hrow hst hep hky hf hokV
    by_cases g1 : st = 0
    case neg =>
      have b1 : (st != 0) = true := by simpa using g1
      rw [if_pos g1] at hX
      have HX := Lib.hid hX
      clear hX g1
      go_enter Try.func60, Try.ntmps60
      go_wp2_with fail
      refine HO.out.mono ?_
      rintro e w1 ⟨rfl, hw1⟩
      have hw1 := hw1.symm
      subst hw1
      go_wp2
      go_ret2
      rw [HX.out]
      exact RAns.no 11 HT.out (Below.refl _ _)
    have b1 : (st != 0) = false := by simpa using g1
    rw [if_neg (fun h => h g1)] at hX
    clear g1
    cases f with
    | true =>
      rw [if_pos rfl] at hX
      have HX := Lib.hid hX
      clear hX
      go_enter Try.func60, Try.ntmps60
      go_wp2_with fail
      refine HO.out.mono ?_
      rintro e w1 ⟨rfl, hw1⟩
      have hw1 := hw1.symm
      subst hw1
      go_wp2
      go_ret2
      rw [HX.out]
      exact RAns.no 12 HT.out (Below.refl _ _)
    | false =>
    rw [if_neg (by decide)] at hX
    by_cases g3 : 1099511627776 < ky
    case pos =>
      rw [if_pos g3] at hX
      have HX := Lib.hid hX
      clear hX
      go_enter Try.func60, Try.ntmps60
      go_wp2_with fail
      refine HO.out.mono ?_
      rintro e w1 ⟨rfl, hw1⟩
      have hw1 := hw1.symm
      subst hw1
      go_wp2
      go_ret2
      rw [HX.out]
      exact RAns.no 17 HT.out (Below.refl _ _)
    rw [if_neg g3] at hX
    have hk1 : IntKind.i64.wrap (ky + 1) = ky + 1 := IntWalk.i64_in _ (by omega)
    obtain ⟨W1, hW1⟩ : ∃ W1, W1 = w.setCell ⟨G, i * 7 + 6, none⟩ (.int .i64 (ky + 1)) := ⟨_, rfl⟩
    have HW1 := Lib.hid hW1
    have hX1 : RefX W1 F g (L.set i ⟨st, ep, V'.nodes, false, ky + 1⟩) (some ⟨G, 0, none⟩) c (xs.set (i * 7 + 6) (.int .i64 (ky + 1))) (fun k => if k = i then q i else q k) := by
      rw [hW1]
      refine HXX.out.put HV.out 6 (by omega) (.int .i64 (ky + 1)) ⟨st, ep, V'.nodes, false, ky + 1⟩ (q i) (fun p hp => ?_) HROW.out.2.1 HROW.out.2.2
      match p, hp with
      | 0, _ => rfl
      | 1, _ => simp [rowC, HST.out]
      | 2, _ => simp [rowC, HEP.out]
      | 3, _ => rfl
      | 4, _ => simp [rowC, HF.out]
      | 5, _ => rfl
      | 6, _ => rfl
    have hV1 : (L.set i ⟨st, ep, V'.nodes, false, ky + 1⟩)[i]? = some ⟨st, ep, V'.nodes, false, ky + 1⟩ := List.getElem?_set_self hlt
    have hO1 : Off (· = G) w W1 := by rw [hW1]; exact Off.setCell (F := (· = G)) (p := ⟨G, i * 7 + 6, none⟩) rfl _
    obtain ⟨G2, he2, hG1, _, hcell1, _, _, _, _⟩ := hX1.at hV1
    cases he2
    have hrn1 := (hX1.rows i _ hV1).2.1.1
    simp only [if_true] at hrn1 hcell1
    rw [← HAN.out, ← HCN.out] at hrn1
    have d1 := hcell1 1 (by omega)
    have d2 := hcell1 2 (by omega)
    have d3 := hcell1 3 (by omega)
    have d4 := hcell1 4 (by omega)
    rw [← HM.out, ← HAN.out, ← HCN.out] at d1 d2 d3 d4
    simp only [rowC, List.getElem?_toArray, List.getElem?_cons_succ, List.getElem?_cons_zero] at d1 d2 d3 d4
    obtain ⟨ku, hku⟩ : ∃ ku, ku = UInt64.ofNat (ky % 18446744073709551616).toNat := ⟨_, rfl⟩
    obtain ⟨su, hsu⟩ : ∃ su, su = UInt32.ofNat (salt % 4294967296).toNat := ⟨_, rfl⟩
    have q1 : IntKind.u64.wrap ky = (ku.toNat : Int) := by rw [hku, UInt64.toNat_ofNat', IntKind.wrap_u64, Nat.mod_eq_of_lt (by omega)]; omega
    have q2 : IntKind.u32.wrap salt = (su.toNat : Int) := by rw [hsu, UInt32.toNat_ofNat', IntKind.wrap_u32, Nat.mod_eq_of_lt (by omega)]; omega
    have q3 : ky % 18446744073709551616 = (ku.toNat : Int) := by rw [← q1, IntKind.wrap_u64]
    have q4 : salt % 4294967296 = (su.toNat : Int) := by rw [← q2, IntKind.wrap_u32]
    have hck : ckI ((i : Int) + 1) ky salt = ((ck ((i : Int) + 1) ku su).toNat : Int) := by unfold ckI; rw [← hku, ← hsu]
    rw [hck] at hX
    have hcu : ((ck ((i : Int) + 1) ku su).toNat : Int) < 4294967296 := by have := UInt32.toNat_lt (ck ((i : Int) + 1) ku su); omega
    have hcw : IntKind.i64.wrap ((ck ((i : Int) + 1) ku su).toNat : Int) = ((ck ((i : Int) + 1) ku su).toNat : Int) := IntWalk.i64_in _ (by omega)
    obtain ⟨D, hD⟩ : ∃ D : Nat, D = (ck ((i : Int) + 1) ku su).toNat := ⟨_, rfl⟩
    have hcok := fun W => refCookie_any ((i : Int) + 1) ku su W
    rw [← hD] at hcw hX
    have hcok' : ∀ W, Calls Try.prog 79 #[.int .i64 ((i : Int) + 1), .int .u64 ku.toNat, .int .u32 su.toNat] W fun e w' => e = .returned (.int .u32 (D : Int)) ∧ w' = W := by
      intro W; rw [hD]; exact hcok W
    have HX := Lib.hid hX
    have HCO := Lib.hid hcok'
    have HRN := Lib.hid hrn1
    have HX1 := Lib.hid hX1
    have HO1 := Lib.hid hO1
    clear hX hW1 hX1 hO1 hku hsu hck hcu hD hcok' hcok hrn1 hcell1 hV1 hlt
    go_enter Try.func60, Try.ntmps60
    go_wp2_with fail
    refine HO.out.mono ?_
    rintro e w1 ⟨rfl, hw1⟩
    have hw1 := hw1.symm
    subst hw1
    go_upto_region 12 with (fail)
    rw [← HW1.out]
    go_wp2_with fail
    refine (HCO.out _).mono ?_
    rintro e w3 ⟨rfl, rfl⟩
    go_upto_region 13 with (fail)
    go_region_held3 (fun V => V.cell? ⟨G, i * 7 + 1, none⟩ = some (.int .i64 st) ∧ V.cell? ⟨G, i * 7 + 2, none⟩ = some (.int .i64 ep) ∧ V.cell? ⟨G, i * 7 + 3, none⟩ = some (.slice an m cn) ∧ V.cell? ⟨G, i * 7 + 4, none⟩ = some (.bool false) ∧ Below w3.heap.size w3 V)
      (first
        | exact rrowS (Below.refl _ _).drew hG1 d1 d2 d3 d4
        | exact rrowS ((Below.refl _ _).drew.alloc (Nat.le_refl _) _) hG1 d1 d2 d3 d4
        | exact rrowS (((Below.refl w3.heap.size w3).drew.alloc (Nat.le_refl _) _).trans hb4) hG1 d1 d2 d3 d4)
      (first
        | ((with_reducible refine StepAt 68 ?_)
           (refine At.out (step_app (by rfl) (.tmp 62) (.tmp 67) 27 (by rfl) elemN rfl w3.heap.size _ 4 [.int .i64 ((i : Int) + 1), .int .i64 ky, .int .i64 (D : Int), .int .i64 ep] (by rfl) (World.ownsRow_lit (e := 3) (size := 1) w3.drew #[.int .i64 ((i : Int) + 1), .int .i64 ky, .int .i64 (D : Int), .int .i64 ep] 4 (Nat.le_refl _) (by unfold maxLen; omega) rfl) an m cn (BI V'.nodes) (by rfl) (by rw [BI_length]; exact HM.out) (Rd.kept (w := w3.drew) HRN.out ((Below.refl _ _).alloc (Nat.le_refl _) _)) (BI_one _) (by unfold maxLen; omega) (by omega) (by simp) ?_))
           (intro v4 w4 ho4 hb4)
           (obtain ⟨a4, c4', rfl, _⟩ := Rd.ofOwn ho4)))
    all_goals
      have hbf : Below w3.heap.size w3 w4 := ((Below.refl w3.heap.size w3).drew.alloc (Nat.le_refl _) _).trans hb4
      have HBF := Lib.hid hbf
      have HO4 := Lib.hid ho4
      clear hbf ho4 hb4
      go_wp2
      go_ret2
      rw [HX.out]
      have hset : setL L ((i : Int) + 1) ⟨st, ep, V'.nodes, false, ky + 1⟩ = L.set i ⟨st, ep, V'.nodes, false, ky + 1⟩ := by
        unfold setL
        rw [show ((i : Int) + 1 - 1).toNat = i by omega]
      have hOf : Off F w w4 := (HO1.out.mono fun k h _ => h ▸ hFG).below HBF.out
      have hTf : RefT w4 F g (L.set i ⟨st, ep, V'.nodes, false, ky + 1⟩) := ⟨_, _, _, _, HX1.out.kept HBF.out⟩
      rw [← hset] at hTf
      exact RAns.app (hd := [(i : Int) + 1, ky, (D : Int), ep]) (by have := HM.out; simp only [List.length_cons, List.length_nil]; omega) hTf.grewn HO4.out hOf
end Go.Proofs.Yteenbobblbehoaa

namespace Go.Proofs.Yteenbobblbehoaa
open Go Go.RowKit

set_option maxRecDepth 100000 in
set_option maxHeartbeats 8000000 in
theorem rChange_any (w : World) (F : Nat → Prop) (g : Nat) (L : List Vl) (hT : RefT w F g L) (fr : Bool) (id ep st : Int) (a : Option Addr) (c n : Nat) (nodes : List Int) (hn : n = nodes.length) (hbe : Beside w F a c (BI nodes)) (hnl : n ≤ 100000000) (hok : OkL L) :
    Calls Try.prog 62 #[.pointer (some ⟨g, 0, none⟩), .bool fr, .int .i64 id, .int .i64 ep, .int .i64 st, .slice a n c] w (RAns w F g (changeR L id ep st nodes fr)) := by
  obtain ⟨X, hX⟩ : ∃ X, X = changeR L id ep st nodes fr := ⟨_, rfl⟩
  rw [← hX]
  unfold changeR at hX
  have HT := Lib.hid hT
  have HNN := Lib.hid hn
  have hr := hbe.1
  have HBE := Lib.hid hbe
  clear hbe
  cases hof : ofL L id with
  | none =>
    rw [hof] at hX
    have HX := Lib.hid hX
    have HO := Lib.hid (row_none w F g L hT id hof)
    clear hX hof hT hn hr
    go_enter Try.func62, Try.ntmps62
    go_wp2_with fail
    refine HO.out.mono ?_
    rintro e w1 ⟨rfl, hw1⟩
    have hw1 := hw1.symm
    subst hw1
    go_wp2
    go_ret2
    rw [HX.out]
    exact RAns.no 7 HT.out (Below.refl _ _)
  | some V' =>
    rw [hof] at hX
    simp only at hX
    obtain ⟨i, rfl, hV, hi⟩ := ofL_some hof
    obtain ⟨ta, tc, xs, q, hx⟩ := hT
    obtain ⟨G, rfl, hG, hFG, hcell, hfro, _, _, hty⟩ := hx.at hV
    have hlt : i < L.length := (List.getElem?_eq_some_iff.1 hV).1
    have HO := Lib.hid (row_some w F g G L tc xs q hx i hlt _ rfl)
    have hokV := hok V' (List.mem_of_getElem? hV)
    have hml : V'.nodes.length ≤ 64 := by unfold OkV at hokV; omega
    have hepb : 1 ≤ V'.ep ∧ V'.ep ≤ 2147483647 := by unfold OkV at hokV; omega
    obtain ⟨m, hm⟩ : ∃ m, m = V'.nodes.length := ⟨_, rfl⟩
    obtain ⟨an, han⟩ : ∃ an, an = (q i).1 := ⟨_, rfl⟩
    obtain ⟨cn, hcn⟩ : ∃ cn, cn = (q i).2 := ⟨_, rfl⟩
    obtain ⟨s0, hst⟩ : ∃ s0, s0 = V'.st := ⟨_, rfl⟩
    obtain ⟨e0, hep⟩ : ∃ e0, e0 = V'.ep := ⟨_, rfl⟩
    obtain ⟨ky, hky⟩ : ∃ ky, ky = V'.key := ⟨_, rfl⟩
    obtain ⟨f0, hf⟩ : ∃ f0, f0 = V'.fr := ⟨_, rfl⟩
    have hrow := hx.rows i V' hV
    have hap := apart_any w a c n nodes (st == 2) hn hr
    obtain ⟨R, hR⟩ : ∃ R, R = apF (st == 2) [] nodes false := ⟨_, rfl⟩
    have hkp := fun (W : World) (hb : Below w.heap.size w W) => rKeeps_any W i m V' an cn hm (by rw [han, hcn]; exact hrow.2.1.1.kept hb) st a c n nodes hn (hr.kept hb)
    obtain ⟨KP, hKP⟩ : ∃ KP, KP = keepsR V' st nodes := ⟨_, rfl⟩
    rw [← hR] at hap hX
    rw [← hKP] at hX
    simp only [← hKP] at hkp
    rw [← hm] at hml
    have c0 := hcell 0 (by omega)
    have c1 := hcell 1 (by omega)
    have c2 := hcell 2 (by omega)
    have c3 := hcell 3 (by omega)
    have c4 := hcell 4 (by omega)
    have c5 := hcell 5 (by omega)
    rw [← hm, ← han, ← hcn] at c0 c1 c2 c3 c4 c5
    simp only [rowC, List.getElem?_toArray, List.getElem?_cons_succ, List.getElem?_cons_zero, Nat.add_zero] at c0 c1 c2 c3 c4 c5
    rw [← hst] at c1
    rw [← hep] at c2 hepb
    rw [← hf] at c4
    rw [← hst, ← hf, ← hky, ← hep] at hX
    unfold volC at hkp
    simp only [← hst, ← hf, ← hep] at hkp
    have HXX := Lib.hid hx
    have HROW := Lib.hid hrow
    have HV := Lib.hid hV
    have HM := Lib.hid hm
    have HAN := Lib.hid han
    have HCN := Lib.hid hcn
    have HST := Lib.hid hst
    have HEP := Lib.hid hep
    have HKY := Lib.hid hky
    have HF := Lib.hid hf
    have HAP := Lib.hid hap
    have HKP := Lib.hid hkp
    have HLT := Lib.hid hlt
    have HXa := Lib.hid hX
    clear hX
    clear hof hx hi hV hm hok hcell hfro hty han hcn hrow hst hep hky hf hokV hap hkp hR hKP hn hr hlt
    go_enter Try.func62, Try.ntmps62
    go_wp2_with fail
    refine HO.out.mono ?_
    rintro e w1 ⟨rfl, hw1⟩
    have hw1 := hw1.symm
    subst hw1
    go_upto_region 4 with (fail)
    obtain ⟨B1, hB1⟩ : ∃ B1 : Bool, B1 = (decide (ep ≠ e0) || (!fr && !f0)) := ⟨_, rfl⟩
    have HB1 := Lib.hid hB1
    clear hB1
    go_cut [38] from 20 to 38 (fun s38 wx => s38 = .bool B1 ∧ w = wx)
    case first =>
      by_cases g1 : ep = e0
      · have b1 : (ep != e0) = false := by simpa using g1
        have hBf : B1 = (!fr && !f0) := by rw [HB1.out]; simp [g1]
        have HBF := Lib.hid hBf
        clear hBf g1
        cases fr with
        | true =>
          go_wp2_with fail
          go_meet
          exact ⟨congrArg Value.bool HBF.out.symm, rfl⟩
        | false =>
          cases f0 with
          | true =>
            go_wp2_with fail
            go_meet
            exact ⟨congrArg Value.bool HBF.out.symm, rfl⟩
          | false =>
            go_wp2_with fail
            go_meet
            exact ⟨congrArg Value.bool HBF.out.symm, rfl⟩
      · have b1 : (ep != e0) = true := by simpa using g1
        have hBf : B1 = true := by rw [HB1.out]; simp [g1]
        have HBF := Lib.hid hBf
        clear hBf g1
        go_wp2_with fail
        go_meet
        exact ⟨congrArg Value.bool HBF.out.symm, rfl⟩
    case rest =>
    obtain ⟨rfl, rfl⟩ := hcut
    have hX1 : X = if B1 = true then (([], 12), L) else if 2147483646 < e0 then (([], 17), L) else if st < 0 ∨ 2 < st ∨ st < s0 ∨ R = false then (([], 1), L) else if fr = true ∧ KP = false then (([], 1), L) else (([e0 + 1], 0), setL L ((i : Int) + 1) ⟨st, e0 + 1, nodes, fr, ky⟩) := by
      have he : (B1 = true) = (ep ≠ e0 ∨ (fr = false ∧ f0 = false)) := by rw [HB1.out]; simp
      simp only [he]
      exact HXa.out
    have HX1 := Lib.hid hX1
    clear hX1 HXa
    cases B1 with
    | true =>
      have hX1 := HX1.out
      rw [if_pos rfl] at hX1
      have HX := Lib.hid hX1
      clear hX1
      go_wp2
      go_ret2
      rw [HX.out]
      exact RAns.no 12 HT.out (Below.refl _ _)
    | false =>
    have hX1 := HX1.out
    rw [if_neg (by decide)] at hX1
    by_cases g2 : 2147483646 < e0
    · rw [if_pos g2] at hX1
      have HX := Lib.hid hX1
      clear hX1
      go_wp2
      go_ret2
      rw [HX.out]
      exact RAns.no 17 HT.out (Below.refl _ _)
    rw [if_neg g2] at hX1
    have HX1' := Lib.hid hX1
    clear hX1 HX1
    go_upto_region 8 with (fail)
    obtain ⟨B2, hB2⟩ : ∃ B2 : Bool, B2 = (decide (st < 0) || decide (2 < st) || decide (st < s0) || !R) := ⟨_, rfl⟩
    have hX2 : X = if B2 = true then (([], 1), L) else if fr = true ∧ KP = false then (([], 1), L) else (([e0 + 1], 0), setL L ((i : Int) + 1) ⟨st, e0 + 1, nodes, fr, ky⟩) := by
      have he : (B2 = true) = (st < 0 ∨ 2 < st ∨ st < s0 ∨ R = false) := by rw [hB2]; simp [or_assoc]
      simp only [he]
      exact HX1'.out
    have HB2 := Lib.hid hB2
    have HX2 := Lib.hid hX2
    clear HX1' hB2 hX2
    go_cut [66] from 45 to 66 (fun s66 wx => s66 = .bool B2 ∧ Hid (Qt w wx))
    case first =>
      by_cases k1 : st < 0
      · have hBf : B2 = true := by rw [HB2.out]; simp [k1]
        have HBF := Lib.hid hBf
        clear hBf
        go_wp2_with fail
        go_meet
        exact ⟨congrArg Value.bool HBF.out.symm, Qt.refl _⟩
      · by_cases k2 : 2 < st
        · have hBf : B2 = true := by rw [HB2.out]; simp [k2]
          have HBF := Lib.hid hBf
          clear hBf
          go_wp2_with fail
          go_meet
          exact ⟨congrArg Value.bool HBF.out.symm, Qt.refl _⟩
        · by_cases k3 : st < s0
          · have hBf : B2 = true := by rw [HB2.out]; simp [k3]
            have HBF := Lib.hid hBf
            clear hBf
            go_wp2_with fail
            go_meet
            exact ⟨congrArg Value.bool HBF.out.symm, Qt.refl _⟩
          · have hBf : B2 = !R := by rw [HB2.out]; simp [k1, k2, k3]
            have HBF := Lib.hid hBf
            clear hBf
            go_wp2_with fail
            refine HAP.out.mono ?_
            rintro e w2 ⟨rfl, hq⟩
            have HQ := Lib.hid hq
            clear hq
            go_wp2_with fail
            go_meet
            exact ⟨congrArg Value.bool HBF.out.symm, HQ.out⟩
    case rest =>
    obtain ⟨rfl, hq2⟩ := hcut
    obtain ⟨w2, hw2⟩ : ∃ w2, w2 = wc := ⟨_, rfl⟩
    subst hw2
    have hb2 := hq2.out.below w.heap.size
    have HBL2 := Lib.hid hb2
    cases B2 with
    | true =>
      have hX := HX2.out
      rw [if_pos rfl] at hX
      have HX := Lib.hid hX
      clear hX hb2 hq2
      go_wp2
      go_ret2
      rw [HX.out]
      exact RAns.no 1 HT.out HBL2.out
    | false =>
    have hX3 := HX2.out
    rw [if_neg (by decide)] at hX3
    obtain ⟨B3, hB3⟩ : ∃ B3 : Bool, B3 = (fr && !KP) := ⟨_, rfl⟩
    have hX4 : X = if B3 = true then (([], 1), L) else (([e0 + 1], 0), setL L ((i : Int) + 1) ⟨st, e0 + 1, nodes, fr, ky⟩) := by
      have he : (B3 = true) = (fr = true ∧ KP = false) := by rw [hB3]; simp
      simp only [he]
      exact hX3
    have HB3 := Lib.hid hB3
    have HX4 := Lib.hid hX4
    have d0 := (hb2.cell (p := ⟨G, i * 7, none⟩) hG).trans c0
    have d1 := (hb2.cell (p := ⟨G, i * 7 + 1, none⟩) hG).trans c1
    have d2 := (hb2.cell (p := ⟨G, i * 7 + 2, none⟩) hG).trans c2
    have d3 := (hb2.cell (p := ⟨G, i * 7 + 3, none⟩) hG).trans c3
    have d4 := (hb2.cell (p := ⟨G, i * 7 + 4, none⟩) hG).trans c4
    have d5 := (hb2.cell (p := ⟨G, i * 7 + 5, none⟩) hG).trans c5
    have hG2 : G < w2.heap.size := Nat.lt_of_lt_of_le hG hb2.size
    clear hX3 hX4 hB3 hq2 hb2 HX2 HB2 HB1
    go_upto_region 10 with (fail)
    go_cut [77] from 67 to 77 (fun s77 wx => s77 = .bool B3 ∧ Hid (Below w.heap.size w wx))
    case first =>
      cases fr with
      | false =>
        have hBf : B3 = false := by rw [HB3.out]; rfl
        have HBF := Lib.hid hBf
        clear hBf
        go_wp2_with fail
        go_meet
        exact ⟨congrArg Value.bool HBF.out.symm, HBL2.out⟩
      | true =>
        have hBf : B3 = !KP := by rw [HB3.out]; rfl
        have HBF := Lib.hid hBf
        clear hBf
        go_wp2_with fail
        refine (HKP.out w2 HBL2.out).mono ?_
        rintro e w3 ⟨rfl, hb3⟩
        have HB3' := Lib.hid (HBL2.out.trans (hb3.mono HBL2.out.size))
        clear hb3
        go_wp2_with fail
        go_meet
        exact ⟨congrArg Value.bool HBF.out.symm, HB3'.out⟩
    case rest =>
    obtain ⟨rfl, hb3⟩ := hcut
    obtain ⟨w3, hw3⟩ : ∃ w3, w3 = wc := ⟨_, rfl⟩
    subst hw3
    cases B3 with
    | true =>
      have hX := HX4.out
      rw [if_pos rfl] at hX
      have HX := Lib.hid hX
      clear hX
      go_wp2
      go_ret2
      rw [HX.out]
      exact RAns.no 1 HT.out hb3.out
    | false =>
    have hX := HX4.out
    rw [if_neg (by decide)] at hX
    have HX := Lib.hid hX
    clear hX d0 d1 d2 d3 d4 d5 hG2 c0 c1 c2 c3 c4 c5 HX4 HB3
    have hX3 := HXX.out.kept hb3.out
    obtain ⟨G', he', hG3, _, hcell3, hfro3, _, _, _⟩ := hX3.at HV.out
    cases he'
    have c2 := hcell3 2 (by omega)
    simp only [rowC, List.getElem?_toArray, List.getElem?_cons_succ, List.getElem?_cons_zero] at c2
    rw [← HEP.out] at c2
    have f2 := hfro3 (i * 7 + 2)
    have hwe : IntKind.i64.wrap (e0 + 1) = e0 + 1 := IntWalk.i64_in _ (by omega)
    have HX3 := Lib.hid hX3
    clear hX3 hcell3 hfro3
    go_upto_region 12 with (fail)
    go_upto_region 13 with (fail)
    obtain ⟨W4, hW4⟩ : ∃ W4, W4 = w3.setCell ⟨G, i * 7 + 2, none⟩ (.int .i64 (e0 + 1)) := ⟨_, rfl⟩
    have hX4 : RefX W4 F g (L.set i ⟨V'.st, e0 + 1, V'.nodes, V'.fr, V'.key⟩) (some ⟨G, 0, none⟩) tc (xs.set (i * 7 + 2) (.int .i64 (e0 + 1))) (fun k => if k = i then q i else q k) := by
      rw [hW4]
      refine HX3.out.put HV.out 2 (by omega) (.int .i64 (e0 + 1)) ⟨V'.st, e0 + 1, V'.nodes, V'.fr, V'.key⟩ (q i) (fun p hp => ?_) (HX3.out.rows i V' HV.out).2.1 (HX3.out.rows i V' HV.out).2.2
      match p, hp with
      | 0, _ => rfl
      | 1, _ => rfl
      | 2, _ => rfl
      | 3, _ => rfl
      | 4, _ => rfl
      | 5, _ => rfl
      | 6, _ => rfl
    have hV4 : (L.set i ⟨V'.st, e0 + 1, V'.nodes, V'.fr, V'.key⟩)[i]? = some ⟨V'.st, e0 + 1, V'.nodes, V'.fr, V'.key⟩ := List.getElem?_set_self HLT.out
    have ho4 : Off (· = G) w3 W4 := by rw [hW4]; exact Off.setCell (F := (· = G)) (p := ⟨G, i * 7 + 2, none⟩) rfl _
    obtain ⟨G', he', hG4, _, hcell4, hfro4, _, _, _⟩ := hX4.at hV4
    cases he'
    have c4 := hcell4 4 (by omega)
    simp only [rowC, List.getElem?_toArray, List.getElem?_cons_succ, List.getElem?_cons_zero] at c4
    have f4 := hfro4 (i * 7 + 4)
    rw [← hW4]
    have HX4 := Lib.hid hX4
    have HV4 := Lib.hid hV4
    have HO4 := Lib.hid ho4
    clear hX4 hV4 ho4 hcell4 hfro4 hW4 c2 f2
    go_upto_region 14 with (fail)
    obtain ⟨W5, hW5⟩ : ∃ W5, W5 = W4.setCell ⟨G, i * 7 + 4, none⟩ (.bool fr) := ⟨_, rfl⟩
    have hX5 := HX4.out.put HV4.out 4 (by omega) (.bool fr) ⟨V'.st, e0 + 1, V'.nodes, fr, V'.key⟩ (q i) (fun p hp => by
      simp only [if_true]
      match p, hp with
      | 0, _ => rfl
      | 1, _ => rfl
      | 2, _ => rfl
      | 3, _ => rfl
      | 4, _ => rfl
      | 5, _ => rfl
      | 6, _ => rfl) (by have := (HX4.out.rows i _ HV4.out).2.1; simpa using this) (by have := (HX4.out.rows i _ HV4.out).2.2; simpa using this)
    rw [← hW5, List.set_set] at hX5
    have hV5 : (L.set i ⟨V'.st, e0 + 1, V'.nodes, fr, V'.key⟩)[i]? = some ⟨V'.st, e0 + 1, V'.nodes, fr, V'.key⟩ := List.getElem?_set_self HLT.out
    have ho5 : Off (· = G) w3 W5 := HO4.out.then (by rw [hW5]; exact Off.setCell (F := (· = G)) (p := ⟨G, i * 7 + 4, none⟩) rfl _)
    obtain ⟨G', he', hG5, _, hcell5, hfro5, _, _, _⟩ := hX5.at hV5
    cases he'
    have c1 := hcell5 1 (by omega)
    simp only [rowC, List.getElem?_toArray, List.getElem?_cons_succ, List.getElem?_cons_zero] at c1
    have f1 := hfro5 (i * 7 + 1)
    rw [← hW5]
    have HX5 := Lib.hid hX5
    have HV5 := Lib.hid hV5
    have HO5 := Lib.hid ho5
    clear hX5 hV5 ho5 hcell5 hfro5 hW5 c4 f4 HX4 HV4 HO4
    go_upto_region 15 with (fail)
    obtain ⟨W6, hW6⟩ : ∃ W6, W6 = W5.setCell ⟨G, i * 7 + 1, none⟩ (.int .i64 st) := ⟨_, rfl⟩
    have hX6 := HX5.out.put HV5.out 1 (by omega) (.int .i64 st) ⟨st, e0 + 1, V'.nodes, fr, V'.key⟩ (q i) (fun p hp => by
      simp only [if_true]
      match p, hp with
      | 0, _ => rfl
      | 1, _ => rfl
      | 2, _ => rfl
      | 3, _ => rfl
      | 4, _ => rfl
      | 5, _ => rfl
      | 6, _ => rfl) (by have := (HX5.out.rows i _ HV5.out).2.1; simpa using this) (by have := (HX5.out.rows i _ HV5.out).2.2; simpa using this)
    rw [← hW6, List.set_set] at hX6
    have hV6 : (L.set i ⟨st, e0 + 1, V'.nodes, fr, V'.key⟩)[i]? = some ⟨st, e0 + 1, V'.nodes, fr, V'.key⟩ := List.getElem?_set_self HLT.out
    have ho6 : Off (· = G) w3 W6 := HO5.out.then (by rw [hW6]; exact Off.setCell (F := (· = G)) (p := ⟨G, i * 7 + 1, none⟩) rfl _)
    have hoF : Off F w W6 := (Off.ofBelow hb3.out).then (ho6.mono fun k h _ => h ▸ hFG)
    rw [← hW6]
    have HX6 := Lib.hid hX6
    have HV6 := Lib.hid hV6
    have HOF := Lib.hid hoF
    clear hX6 hV6 hoF ho6 hW6 c1 f1 HX5 HV5 HO5 HX3
    have hbe6 := HBE.out.off HOF.out (F' := F) fun k h => .inl h
    have hcl := rClone_any W6 a c n nodes HNN.out hbe6.1 hnl
    have HCL := Lib.hid hcl
    clear hcl hbe6
    go_wp2_with fail
    refine HCL.out.mono ?_
    rintro e w7 ⟨a7, c7, rfl, ho7, hb7⟩
    have hoF7 : Off F w w7 := HOF.out.below hb7
    have hX7 := (HX6.out.kept hb7).sub (G := grew F w w7) (fun _ h => .inl h) (fun k hk => hk.elim (fun h => by have := HT.out.lt k h; have := hoF7.size; omega) (·.2))
    obtain ⟨G', he', hG7, _, hcell7, hfro7, _, _, _⟩ := hX7.at HV6.out
    cases he'
    have c3 := hcell7 3 (by omega)
    simp only [rowC, List.getElem?_toArray, List.getElem?_cons_succ, List.getElem?_cons_zero] at c3
    have f3 := hfro7 (i * 7 + 3)
    obtain ⟨W8, hW8⟩ : ∃ W8, W8 = w7.setCell ⟨G, i * 7 + 3, none⟩ (.slice a7 n c7) := ⟨_, rfl⟩
    obtain ⟨a7', c7', he7, t7⟩ := TRd.ofOwn ho7
    cases he7
    have hX8 := hX7.put HV6.out 3 (by omega) (.slice a7 n c7) ⟨st, e0 + 1, nodes, fr, V'.key⟩ (a7, c7) (fun p hp => by
      simp only [if_true]
      match p, hp with
      | 0, _ => rfl
      | 1, _ => rfl
      | 2, _ => rfl
      | 3, _ => simp [rowC, HNN.out]
      | 4, _ => rfl
      | 5, _ => rfl
      | 6, _ => rfl) t7 (fun b o hx ha => by
        right
        have hne : 0 < n := by
          rcases Nat.eq_zero_or_pos n with h0 | h0
          · exact absurd (by rw [List.length_eq_zero_iff.1 (HNN.out.symm.trans h0)]; rfl) hx
          · exact h0
        obtain ⟨G9, cap, he, q1, q2, _⟩ := own_pos ho7 hne
        cases he
        cases ha
        exact ⟨Nat.le_trans HOF.out.size q1, q2⟩)
    rw [← hW8, List.set_set] at hX8
    have hV8 : (L.set i ⟨st, e0 + 1, nodes, fr, V'.key⟩)[i]? = some ⟨st, e0 + 1, nodes, fr, V'.key⟩ := List.getElem?_set_self HLT.out
    have ho8 : Off F w W8 := hoF7.then (by rw [hW8]; exact Off.setCell (p := ⟨G, i * 7 + 3, none⟩) hFG _)
    have hz8 : W8.heap.size = w7.heap.size := by rw [hW8]; simp [World.setCell]
    obtain ⟨G', he', hG8, _, hcell8, _, _, _, _⟩ := hX8.at hV8
    cases he'
    have d2 := hcell8 2 (by omega)
    simp only [rowC, List.getElem?_toArray, List.getElem?_cons_succ, List.getElem?_cons_zero] at d2
    have HX8 := Lib.hid hX8
    have HO8 := Lib.hid ho8
    have HW8 := Lib.hid hW8
    have HZ8 := Lib.hid hz8
    clear hX7 hcell7 hfro7 ho7 hb7 hoF7 hX8 hV8 ho8 hz8 hcell8 hW8 t7 HCL HX6 HV6
    go_upto_region 16 with (fail)
    rw [← HW8.out]
    go_wp2
    go_ret2
    rw [HX.out]
    have hset : setL L ((i : Int) + 1) ⟨st, e0 + 1, nodes, fr, ky⟩ = L.set i ⟨st, e0 + 1, nodes, fr, V'.key⟩ := by
      unfold setL
      rw [show ((i : Int) + 1 - 1).toNat = i by omega, HKY.out]
    rw [hset]
    have hbz : Below W8.heap.size W8 (W8.alloc (.cells #[.int .i64 (e0 + 1)] 3)) := (Below.refl _ _).alloc (Nat.le_refl _) _
    refine ⟨_, _, rfl, Rd.one W8 _ _, ⟨_, _, _, _, (HX8.out.kept hbz).sub (fun k hk => hk.elim .inl fun h => .inr ⟨h.1, ?_⟩) fun k hk => hk.elim (fun h => ?_) (·.2)⟩, HO8.out.below hbz⟩
    · have := h.2
      have := HZ8.out
      have := hbz.size
      omega
    · have := HX8.out.lt k (.inl h)
      have := hbz.size
      omega
end Go.Proofs.Yteenbobblbehoaa
