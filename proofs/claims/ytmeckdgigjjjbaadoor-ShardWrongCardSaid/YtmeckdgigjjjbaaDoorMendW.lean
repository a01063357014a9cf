/- shard's mend: the contract. Conditions: its own premises. -/
import Derived.Test.YtmeckdgigjjjbaaDoorInverse
import Derived.Test.YtmeckdgigjjjbaaDoorTimes
import Derived.Deep.RegionHeld3
namespace Go.Proofs.YtmeckdgigjjjbaaDoor
open Go Go.RowKit

/-- Rows that read as they did in the world in which the call began. -/
theorem RdLL.row {W : World} {a : Option Addr} {c : Nat} {L : Mx} (h : RdLL W a c L) (r : Nat) (hr : r < L.length) :
    ∃ b o ad cd, a = some ⟨b, o, none⟩ ∧ W.cell? ⟨b, o + r, none⟩ = some (.slice ad (L.getD r []).length cd) ∧ Rd W ad cd (B8 (L.getD r [])) := by
  have hg : L.getD r [] = L[r] := by rw [List.getD_eq_getElem?_getD, List.getElem?_eq_getElem hr]; rfl
  rw [hg]
  exact h.cell r hr
/-- A list of rows that is laid out of rows that read. -/
theorem rdLL_of {W w : World} {B : Nat} {e : TypeId} {a : Option Addr} {c n : Nat} {vs : List Value} {L : Mx} (hn : L.length = n) (ho : W.ownsRow B e 1 (.slice a n c) n vs) (hb : Below w.heap.size w W)
    (h : ∀ (r : Nat) (l : List UInt8), L[r]? = some l → ∃ ad cd, vs[r]? = some (.slice ad l.length cd) ∧ Rd w ad cd (B8 l)) : RdLL W a c L := by
  obtain ⟨a', c', he, hr⟩ := Rd.ofOwn ho
  cases he
  refine ⟨vs, hr, by have := ho.1; omega, fun r l hl => ?_⟩
  obtain ⟨ad, cd, h1, h2⟩ := h r l hl
  exact ⟨ad, cd, h1, h2.kept hb⟩
theorem rowsOf_get {L : Mx} {R : List Nat} {i q : Nat} (h : R[i]? = some q) : (rowsOf L R)[i]? = some (L.getD q []) := by
  unfold rowsOf; rw [List.getElem?_map, h]; rfl

theorem WorkI.kept {W W' : World} {B g b k m : Nat} {ac : Option Addr} {cc : Nat} (h : WorkI W B g b k m ac cc) (hb : Below W.heap.size W W') : WorkI W' B g b k m ac cc :=
  ⟨h.blk.below hb, h.code.kept hb, h.map.kept hb, h.base, h.baseb⟩
/-- What a region holds. -/
def MK (wz : World) (g : Nat) (v : Value) (V : World) : Prop := V.cell? ⟨g, 2, none⟩ = some v ∧ Below wz.heap.size wz V
theorem MK.kept {wz V V' : World} {g : Nat} {v : Value} (h : MK wz g v V) (hg : g < wz.heap.size) (hb : Below V.heap.size V V') : MK wz g v V' :=
  ⟨(hb.cell (p := ⟨g, 2, none⟩) (by have := h.2.size; show g < _; omega)).trans h.1, h.2.trans (hb.mono h.2.size)⟩

set_option maxRecDepth 100000 in
set_option maxHeartbeats 4000000 in
theorem mend_any (w W : World) (g b k m : Nat) (ac : Option Addr) (cc : Nat) (hw : WorkI W w.heap.size g b k m ac cc) (hbW : Below w.heap.size w W) (hk : 1 ≤ k) (hkm : k + m ≤ 14) (T : Nat) (hT : T < 4294967296) (hcnt : k ≤ (setL T.testBit (k + m)).length)
    (hTab : TabAt 0 Lib.deBruijn64tab W) (a : Option Addr) (c : Nat) (L : Mx) (hr : RdLL w a c L) (hL : L.length = k + m) (s : Nat) (hs1 : s ≤ 1000000) (hs : ∀ r, r < k + m → T.testBit r = true → (L.getD r []).length = s) :
    Calls Tryd.prog 19 #[.pointer (some ⟨g, 0, none⟩), .slice a (k + m) c, .int .u32 T] W fun e W' => ∃ v, e = .returned v ∧ OwnLL W' w.heap.size 34 5 v (mendF k m L (firstK T.testBit k (k + m))) ∧ WorkI W' w.heap.size g b k m ac cc ∧ Below w.heap.size w W' := by
  have hinv := inverse_any W w.heap.size g b k m ac cc hw hk hkm T hT hcnt hTab
  obtain ⟨R, hR⟩ : ∃ R, R = firstK T.testBit k (k + m) := ⟨_, rfl⟩
  have hok : PickOk k m R := by rw [hR]; exact firstK_ok hcnt
  have hrs : ∀ r ∈ R, (L.getD r []).length = s := fun r h => by
    rw [hR] at h
    obtain ⟨h1, h2⟩ := firstK_mem h
    exact hs r h2 h1
  rw [← hR] at hinv ⊢
  have HINV := Lib.hid hinv
  have HOK := Lib.hid hok
  have HRS := Lib.hid hrs
  have HR := Lib.hid hr
  obtain ⟨B, hB⟩ : ∃ B, B = w.heap.size := ⟨_, rfl⟩
  rw [← hB] at hbW ⊢
  have HB := Lib.hid hB
  have hRl := hok.len
  clear hinv hok hrs hR hr hs hcnt hTab hw hB
  go_enter Tryd.func19, Tryd.ntmps19
  go_wp2_with fail
  refine HINV.out.mono ?_
  rintro e w1 ⟨a0, c0, a8, c8, rfl, hr0, hr8, hw1, hb1⟩
  rw [← HB.out] at hw1 hb1
  have hbw1 : Below B w w1 := hbW.trans hb1
  have hB1 : B ≤ w1.heap.size := by have := hbw1.size; have := HB.out; omega
  obtain ⟨K, hK⟩ : ∃ K, K = w1.heap.size := ⟨_, rfl⟩
  have HK := Lib.hid hK
  have HR0 := Lib.hid hr0
  clear hb1 hK hr0
  go_wp2
  go_loopw [9, 20] (fun s9 s20 wr => ∃ (i : Nat) (vs : List Value), i ≤ k ∧ s20 = .int .i64 i ∧ wr.ownsRow K 34 1 s9 i vs ∧
    Hid (∀ (r q : Nat), r < i → R[r]? = some q → ∃ ad cd, vs[r]? = some (.slice ad s cd) ∧ Rd w ad cd (B8 (L.getD q []))) ∧ Below K w1 wr) (fun _ s20 _ => k - (intOf s20).toNat)
  case atStart => exact ⟨0, [], by omega, rfl, World.ownsRow_nil _ _ _ _, Lib.hid (fun r q h => by omega), Below.refl _ _⟩
  case round =>
    obtain ⟨i, vs, hi, rfl, ho, HVS, hb⟩ := hrel
    have hbw : Below B w wr := hbw1.trans (hb.mono (by have := HK.out; omega))
    by_cases hlt : i < k
    · have hii : (i : Int) < (k : Int) := by omega
      obtain ⟨q, hq⟩ : ∃ q, R[i]? = some q := ⟨_, List.getElem?_eq_getElem (by omega)⟩
      have hqm := List.mem_of_getElem? hq
      have hqlt := HOK.out.lt q hqm
      have hql := HRS.out q hqm
      obtain ⟨b2, o2, rfl, hc2⟩ := (hr8.kept (HK.out ▸ hb : Below w1.heap.size w1 wr)).cs.bi i (by unfold NZ; simp; omega)
      rw [show (NZ R)[i]'(by unfold NZ; simp; omega) = (q : Int) by simp only [NZ, List.getElem_map]; rw [List.getElem?_eq_getElem (by omega)] at hq; rw [Option.some.inj hq]] at hc2
      obtain ⟨b3, o3, ad0, cd0, rfl, hc3, hr3⟩ := RdLL.row HR.out q (by omega)
      have hc3' := (hbw.cell (p := ⟨b3, o3 + q, none⟩) (by rw [HB.out]; exact World.block_lt_of_cell? w _ hc3)).trans hc3
      rw [hql] at hc3'
      have hqi : (q : Int) < (k : Int) + (m : Int) := by omega
      have hqi2 : q < k + m := hqlt
      obtain ⟨a9, c9, rfl, _⟩ := Rd.ofOwn ho
      have HR3 := Lib.hid hr3
      have HQ := Lib.hid hq
      have hKs : K ≤ wr.heap.size := by have := hb.size; have := HK.out; omega
      clear hq hqm hql hc3 hr3
      go_wp2_with (with_reducible refine At.slot 30 ?_)
      refine At.out (wpList_app rfl (.tmp 24) (.tmp 29) 22 rfl elemR rfl K _ i vs rfl (ho.alloc _) _ 1 1 [.slice ad0 s cd0] rfl rfl (Rd.one _ _ _) (by intro u hu; rw [List.mem_singleton.1 hu]; rfl) (by unfold maxLen; omega) (by omega) (by simp; omega) ?_)
      intro v4 w4 ho4 hb4 _
      have hb5 : Below K w1 w4 := (hb.alloc hKs _).trans hb4
      have HVS2 : Hid (∀ (r q : Nat), r < i + 1 → R[r]? = some q → ∃ ad cd, (vs ++ [.slice ad0 s cd0])[r]? = some (.slice ad s cd) ∧ Rd w ad cd (B8 (L.getD q []))) := Lib.hid (fun r q' hri hq' => by
        have hvl : vs.length = i := by simpa using ho.1
        by_cases e : r < i
        · obtain ⟨ad, cd, h1, h2⟩ := HVS.out r q' e hq'
          exact ⟨ad, cd, by rw [List.getElem?_append_left (by omega)]; exact h1, h2⟩
        · obtain rfl : r = i := by omega
          have hqq := HQ.out
          rw [hq'] at hqq
          obtain rfl := Option.some.inj hqq
          exact ⟨ad0, cd0, by rw [List.getElem?_append_right (by omega), hvl, Nat.sub_self]; rfl, HR3.out⟩)
      clear ho hb4 hb
      go_wp2
      go_roundw
      case rel => exact ⟨i + 1, _, by omega, by go_num, ho4, HVS2, hb5⟩
      case measure => simp [intOf]; omega
    · obtain rfl : k = i := by omega
      have hnl : ¬ (k : Int) < (k : Int) := by omega
      obtain ⟨hblk1, hcode1, hmap1, hbg, hbb⟩ := hw1
      have hKs : K ≤ wr.heap.size := by have := hb.size; have := HK.out; omega
      obtain ⟨a9, c9, rfl, _⟩ := Rd.ofOwn ho
      have hd9 : Dim (rowsOf L R) k s := ⟨by rw [rowsOf_length]; exact hRl, fun r hr => by
        obtain ⟨q, hq, rfl⟩ := List.mem_map.1 hr
        exact HRS.out q hq⟩
      have hLL : RdLL wr a9 c9 (rowsOf L R) := rdLL_of hd9.1 ho (HB.out ▸ hbw : Below w.heap.size w wr) (fun r l hl => by
        cases hq : R[r]? with
        | none => unfold rowsOf at hl; rw [List.getElem?_map, hq] at hl; cases hl
        | some q =>
          rw [rowsOf_get hq] at hl
          obtain rfl := Option.some.inj hl
          have hrk : r < k := by have := (List.getElem?_eq_some_iff.1 hq).1; omega
          rw [HRS.out q (List.mem_of_getElem? hq)]
          exact HVS.out r q hrk hq)
      have hu := undo_dim HOK.out.dim (HOK.out.undo hk hkm)
      have hd2 : Dim (timesL (invM (pickM k m R)) (rowsOf L R)) k s := hu.times hd9 hk
      have hcd := codeL_dim k m
      have hb1w : Below w1.heap.size w1 wr := HK.out ▸ hb
      have ht1 : ∀ V, Below wr.heap.size wr V → Calls Tryd.prog 26 #[.slice a0 k c0, .slice a9 k c9] V fun e w' => ∃ a1 c1, e = .returned (.slice a1 k c1) ∧ RdLL w' a1 c1 (timesL (invM (pickM k m R)) (rowsOf L R)) ∧ Below V.heap.size V w' := fun V hV => by
        have := times_any V a0 a9 c0 c9 (invM (pickM k m R)) (rowsOf L R) ((HR0.out.kept hb1w).kept hV) (hLL.kept hV) (by rw [hu.1]; omega) (fun r hr => by rw [hu.2 r hr, hd9.1]) (by rw [hd9.1]; exact hk) (by rw [hd9.1]; omega) (fun r hr => by rw [hd9.2 r hr, hd9.wid hk]) (by rw [hd9.wid hk]; exact hs1)
        rw [hu.1, hd9.1] at this
        refine this.mono fun e w' h => ?_
        obtain ⟨v, rfl, ho, hb⟩ := h
        obtain ⟨a1, c1, rfl, hr1⟩ := ho.rd
        exact ⟨a1, c1, by rw [hd2.1], hr1, hb⟩
      have ht2 : ∀ V a1 c1, Below wr.heap.size wr V → RdLL V a1 c1 (timesL (invM (pickM k m R)) (rowsOf L R)) → Calls Tryd.prog 26 #[.slice ac (k + m) cc, .slice a1 k c1] V fun e w' => ∃ v, e = .returned v ∧ OwnLL w' V.heap.size 34 5 v (mendF k m L R) ∧ Below V.heap.size V w' := fun V a1 c1 hV hr1 => by
        have := times_any V ac a1 cc c1 (codeL k m) (timesL (invM (pickM k m R)) (rowsOf L R)) ((hcode1.kept hb1w).kept hV) hr1 (by rw [hcd.1]; omega) (fun r hr => by rw [hcd.2 r hr, hd2.1]) (by rw [hd2.1]; exact hk) (by rw [hd2.1]; omega) (fun r hr => by rw [hd2.2 r hr, hd2.wid hk]) (by rw [hd2.wid hk]; exact hs1)
        rw [hcd.1, hd2.1] at this
        exact this
      have hbk := hblk1.below hb1w
      have k2 := hbk.cell 2
      simp only [List.getElem?_toArray, List.getElem?_cons_succ, List.getElem?_cons_zero] at k2
      have hglt := hbk.lt
      have HT1 := Lib.hid ht1
      have HT2 := Lib.hid ht2
      have HW1 := Lib.hid (show WorkI wr B g b k m ac cc from ⟨hbk, hcode1.kept hb1w, hmap1.kept hb1w, hbg, hbb⟩)
      have hP : MK wr g (.slice ac (k + m) cc) wr.drew := ⟨k2, (Below.refl _ _).drew⟩
      have hP1 : ∀ (V V' : World), MK wr g (.slice ac (k + m) cc) V → Below V.heap.size V V' → MK wr g (.slice ac (k + m) cc) V' := fun V V' h1 h2 => h1.kept hglt h2
      clear ht1 ht2 hLL hu hd2 hcd hb1w hbk hcode1 hmap1 hblk1 ho hr8 hd9
      go_wp2
      go_region_held3 (fun V => V.cell? ⟨g, 2, none⟩ = some (.slice ac (k + m) cc) ∧ Below wr.heap.size wr V)
        (first
          | exact hP
          | exact hP1 _ _ (by assumption) (by assumption))
        (first
          | (go_at_call 26; with_reducible refine (HT1.out _ (And.right (by assumption))).mono ?_; rintro e w3 ⟨a1, c1, rfl, hr1, hb3⟩; have hH3 : Below wr.heap.size wr w3 := Below.trans (And.right (by assumption)) (hb3.mono (Below.size (And.right (by assumption)))))
          | (go_at_call 26; with_reducible refine (HT2.out _ a1 c1 (And.right (by assumption)) (by assumption)).mono ?_; rintro e w4 ⟨v4, rfl, ho4, hb4⟩))
      rename_i hH
      have hz3 : wr.heap.size ≤ w3.heap.size := hH3.size
      have hz1 := hbw.size
      have HO4 := Lib.hid ho4
      have HH := Lib.hid hH.2
      clear ho4 hH hH3 hb4 hb3 hr1 hP hP1
      go_wp2
      go_ret
      refine ⟨_, rfl, HO4.out.base (by have := HB.out; omega), HW1.out.kept HH.out, hbw.trans (HH.out.mono (by have := HB.out; omega))⟩
end Go.Proofs.YtmeckdgigjjjbaaDoor
