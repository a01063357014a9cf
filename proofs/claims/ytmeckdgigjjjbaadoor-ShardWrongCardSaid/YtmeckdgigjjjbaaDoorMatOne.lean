/- matrix's One: the contract. Conditions: each contract's own premises. -/
import Derived.Test.YtmeckdgigjjjbaaDoorMxP
namespace Go.Proofs.YtmeckdgigjjjbaaDoor
open Go Go.RowKit

/-- make([]byte, n), owned. -/
theorem wpList_make8 {P : Program} {w : World} {ops : Array Oper} {rest : List Oper} {o : Oper} {a : Act} {Q : Exit → Act → World → Prop} (hgd : o.guard = none) (l c : Operand) (t : TypeId) (hop : o.op = Op.makeSlice t l c) {e : TypeId} (T : ElemT P t e 1 (.int .u8 0) 1)
    (kl kc : IntKind) (L C : Int) (n : Nat) (hl : a.eval l = .int kl L) (hc : a.eval c = .int kc C) (hL : L = (n : Int)) (hC : C = (n : Int)) (hn : n ≤ 1000000000)
    (h : ∀ w', w'.ownsRow w.heap.size e 1 (.slice (some ⟨w.heap.size, 0, none⟩) n n) n (B8 (List.replicate n 0)) → Below w.heap.size w w' → wpList P ops Q rest (a.put o.dst (.slice (some ⟨w.heap.size, 0, none⟩) n n)) w') : wpList P ops Q (o :: rest) a w := by
  obtain ⟨i, hi, hz, hs, hb⟩ := T.hi
  refine wpList_make_full w hgd l c t hop w.heap.size e i (.int .u8 0) 1 T.ht hi hz hs kl kc L C n hl hc hL hC (by rw [hb]; omega) (by unfold maxLen; omega) (Nat.le_refl _) ?_
  intro w' ho hg
  refine h w' ?_ (below_grown hg (Nat.le_refl _) (fun k h => by cases h))
  rw [made8] at ho
  exact ho

theorem unitL_eq (n i : Nat) : unitL n i = (List.replicate n 0).set i 1 := rfl
/-- One, when i rows are laid. -/
def oneK (n i : Nat) : Mx := (List.range n).map fun r => if r < i then unitL n r else []
theorem oneK_length (n i : Nat) : (oneK n i).length = n := by simp [oneK]
theorem oneK_start (n : Nat) : oneK n 0 = List.replicate n [] := by
  apply List.ext_getElem
  · simp [oneK]
  · intro r h1 h2; simp [oneK]
theorem oneK_get (n i r : Nat) (h : r < (oneK n i).length) : (oneK n i)[r] = if r < i then unitL n r else [] := by simp [oneK]
theorem oneK_set (n i : Nat) : (oneK n i).set i (unitL n i) = oneK n (i + 1) := by
  apply List.ext_getElem
  · rw [List.length_set, oneK_length, oneK_length]
  · intro r h1 h2
    rw [List.getElem_set, oneK_get]
    by_cases he : i = r
    · subst he
      rw [if_pos rfl, oneK_get, if_pos (by omega)]
    · rw [if_neg he, oneK_get]
      by_cases h3 : r < i
      · rw [if_pos h3, if_pos (by omega)]
      · rw [if_neg h3, if_neg (by omega)]
theorem oneK_done (n : Nat) : oneK n n = oneL n := by
  unfold oneK oneL
  apply List.map_congr_left
  intro r hr
  rw [if_pos (List.mem_range.1 hr)]

/-- A byte of a row is written. -/
theorem OwnM.byte {w : World} {B : Nat} {tS tE : TypeId} {g n cap : Nat} {vs : List Value} {L : List (List UInt8)} (h : OwnM w B tS tE g n cap vs L) (hne : tE ≠ tS) (i : Nat) (hi : i < n) (gb m c : Nat) (hu : vs[i]? = some (.slice (some ⟨gb, 0, none⟩) m c)) (l : List UInt8) (hl : L[i]? = some l) (j : Nat) (x : UInt8) :
    OwnM (w.setCell ⟨gb, j, none⟩ (.int .u8 (x.toNat : Int))) B tS tE g n cap vs (L.set i (l.set j x)) := by
  have hrow := h.row i _ l hu hl
  have hLl := h.len
  refine ⟨own_setT h.outer hrow rfl (fun e => hne e.symm) j _, by simp [h.len], ?_, h.apart⟩
  intro q u2 l2 hq hl2
  by_cases hqi : q = i
  · subst hqi
    rw [List.getElem?_set_self (by omega)] at hl2
    rw [hu] at hq
    cases hq; cases hl2
    have hm : m = l.length := by
      have := hrow.2
      rcases this with ⟨h1, _⟩ | ⟨g', cap', cur', h1, _⟩
      · cases h1
      · cases h1; rfl
    subst hm
    have := own_set8 hrow j x
    simpa using this
  · rw [List.getElem?_set_ne (fun h => hqi h.symm)] at hl2
    have h2 := h.row q u2 l2 hq hl2
    refine ⟨h2.1, ?_⟩
    rcases h2.2 with hx | ⟨g1, cap1, cur1, hv1, hb1, hh1, r1⟩
    · exact .inl hx
    · refine .inr ⟨g1, cap1, cur1, hv1, hb1, ?_, r1⟩
      have hne2 : g1 ≠ gb := by
        rcases h.apart q i _ _ hqi hq hu with e | e
        · rw [hv1] at e; cases e
        · rw [hv1] at e
          intro e2; subst e2; exact e rfl
      rw [Below.heap_setCell w ⟨gb, j, none⟩ _ g1 hne2]
      exact hh1

set_option maxRecDepth 100000 in
set_option maxHeartbeats 2000000 in
theorem one_any (w : World) (n : Int) : Calls Tryd.prog 36 #[.int .i64 n] w (MxP w (oneR n)) := by
  by_cases h1 : n < 1
  · rw [show oneR n = ([], 1) from if_pos (.inl h1)]
    go_enter Tryd.func36, Tryd.ntmps36
    go_wp2
    go_ret2
    exact MxP.no 1 (Below.refl _ _)
  by_cases h2 : 64 < n
  · rw [show oneR n = ([], 1) from if_pos (.inr h2)]
    go_enter Tryd.func36, Tryd.ntmps36
    go_wp2
    go_ret2
    exact MxP.no 1 (Below.refl _ _)
  obtain ⟨k, rfl⟩ : ∃ k : Nat, n = (k : Int) := ⟨n.toNat, by omega⟩
  have hres : oneR (k : Int) = (oneL k, 0) := by unfold oneR; rw [if_neg (by omega)]; rfl
  rw [hres]
  have hk1 : (1 : Int) ≤ (k : Int) := by omega
  have hk2 : (k : Int) ≤ 64 := by omega
  obtain ⟨G, hG⟩ : ∃ G, G = w.heap.size := ⟨_, rfl⟩
  have HG := Lib.hid hG
  clear hG hres h1 h2
  go_enter Tryd.func36, Tryd.ntmps36
  go_wp2_with (with_reducible refine At.slot 13 ?_)
  refine At.out (wpList_makeR rfl (.tmp 12) (.tmp 12) 22 rfl elemR .i64 .i64 (k : Int) (k : Int) k rfl rfl rfl rfl (by omega) 5 ?_)
  intro w1 hO1 hb1
  rw [← oneK_start] at hO1
  rw [← HG.out] at hO1 hb1 ⊢
  go_wp2
  go_loopw [16] (fun s16 wr => ∃ (i : Nat) (vs : List Value), i ≤ k ∧ s16 = .int .i64 i ∧ OwnM wr G 34 5 G k k vs (oneK k i) ∧ Below G w wr) (fun s16 _ => k - (intOf s16).toNat)
  case atStart => exact ⟨0, _, by omega, rfl, hO1, hb1⟩
  case round =>
    clear hO1 hb1
    obtain ⟨i, vs, hi, rfl, hO, hb⟩ := hrel
    have hGs : G ≤ wr.heap.size := by have := hb.size; have := HG.out; omega
    by_cases hlt : i < k
    · have hii : (i : Int) < (k : Int) := by omega
      go_wp2_with (with_reducible refine At.slot 22 ?_)
      refine At.out (wpList_make8 rfl (.tmp 21) (.tmp 21) 34 rfl elemB .i64 .i64 (k : Int) (k : Int) k rfl rfl rfl rfl (by omega) ?_)
      intro w2 ho2 hb2
      have hO2 := hO.kept hb2
      obtain ⟨gb, hgb⟩ : ∃ gb, gb = wr.heap.size := ⟨_, rfl⟩
      rw [← hgb] at ho2 hb2 hGs ⊢
      have hb2' : Below G w w2 := hb.trans (hb2.mono hGs)
      obtain ⟨u, hu, hcu, hfu, hou⟩ := hO2.at i hlt
      clear hou
      have hOlt : G < gb := by
        rcases own_block hO.outer with h | ⟨g, C, fr, h, _, hh⟩
        · cases h
        · cases h; rw [hgb]; exact (Array.getElem?_eq_some_iff.1 hh).1
      have hz2 : gb ≤ w2.heap.size := hgb ▸ hb2.size
      have hput := OwnM.put (g := G) (cap := k) (vs := vs) (L := oneK k i) (oneK_length k i) (show (5 : TypeId) ≠ 34 by decide) i hlt (.slice (some ⟨gb, 0, none⟩) k k) (List.replicate k 0) hO2.outer (fun j u l _ hj hl => hO2.row j u l hj hl) (own_len (own_base ho2 hGs) (by simp)) (fun j q u u2 _ _ hjq h1 h2 => hO2.apart j q u u2 hjq h1 h2) (fun j u _ hj => by
        by_cases h0 : u.ownBlock = none
        · exact .inl h0
        · right
          intro e
          have e' : u.ownBlock = some gb := e
          have := hO.lt hj e'
          omega)
      have HGB := Lib.hid hgb
      clear hb hO hO2 ho2 hb2 hgb
      go_wp2_with (with_reducible refine At.slot 27 ?_)
      obtain ⟨w3, hw3⟩ : ∃ w3, w3 = w2.setCell ⟨G, i, none⟩ (.slice (some ⟨gb, 0, none⟩) k k) := ⟨_, rfl⟩
      have hz3 : w3.heap.size = w2.heap.size := by rw [hw3]; simp
      have hb3 : Below G w w3 := by rw [hw3]; exact hb2'.setCell (p := ⟨G, i, none⟩) (Nat.le_refl _) _
      rw [← hw3] at hput ⊢
      obtain ⟨u3, hu3, hcu3, hfu3, ho3⟩ := hput.at i hlt
      have hvl := hput.vlen
      rw [List.getElem?_set_self (by rw [List.length_set] at hvl; omega)] at hu3
      cases hu3
      simp only [List.getElem_set_self, List.length_replicate] at ho3
      have hcb := own_cell8n ho3 i (by simpa using hlt)
      have hfb := ho3.frozenAt i
      simp only [List.getElem_replicate] at hcb
      have hL3 : ((oneK k i).set i (List.replicate k 0))[i]? = some (List.replicate k 0) := by rw [List.getElem?_set_self (by rw [oneK_length]; exact hlt)]
      have hbyte := hput.byte (by decide) i hlt gb k k (by rw [List.getElem?_set_self (by rw [List.length_set] at hvl; omega)]) (List.replicate k 0) hL3 i 1
      rw [List.set_set, ← unitL_eq, oneK_set] at hbyte
      have hb4 := hb3.setCell (p := ⟨gb, i, none⟩) (show G ≤ gb from hGs) (.int .u8 ((1 : UInt8).toNat : Int))
      clear hput ho3 hb2' hb3 hw3 hvl hL3 hcu hfu hu hz3
      refine At.out ?_
      go_wp2
      go_roundw
      case rel => exact ⟨i + 1, _, by omega, by go_num, hbyte, hb4⟩
      case measure => simp [intOf]; omega
    · obtain rfl : i = k := by omega
      rw [oneK_done] at hO
      go_wp2
      go_ret2
      exact MxP.mk HG.out hO.ownLL hb
end Go.Proofs.YtmeckdgigjjjbaaDoor
