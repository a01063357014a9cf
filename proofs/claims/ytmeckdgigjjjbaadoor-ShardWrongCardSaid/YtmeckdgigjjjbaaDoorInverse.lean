/- The inverse of the first rows of a set: the contract. Conditions: its own premises. -/
import Derived.Test.YtmeckdgigjjjbaaDoorBeginW
import Derived.Test.YtmeckdgigjjjbaaDoorSh0
import Derived.Test.YtmeckdgigjjjbaaDoorInv
import Derived.Test.YtmeckdgigjjjbaaDoorRefSc
import Derived.Deep.CutRange
import Derived.Deep.RegionLaw
namespace Go.Proofs.YtmeckdgigjjjbaaDoor
open Go Go.RowKit Go.WideMaps

/-- Numbers of rows as the model's numbers. -/
def NZ (L : List Nat) : List Int := L.map fun (q : Nat) => (q : Int)
theorem BI_NZ_length (L : List Nat) : (BI (NZ L)).length = L.length := by simp [BI, NZ]
theorem BI_NZ_snoc (L : List Nat) (q : Nat) : BI (NZ (L ++ [q])) = BI (NZ L) ++ [.int .i64 (q : Int)] := by simp [BI, NZ]
theorem firstK_zero (th : Nat → Bool) (k : Nat) : firstK th k 0 = [] := by simp [firstK]
theorem firstK_no {th : Nat → Bool} {k i : Nat} (h : th i = false ∨ k ≤ (firstK th k i).length) : firstK th k (i + 1) = firstK th k i := by
  unfold firstK at h ⊢
  rw [List.range_succ, List.filter_append, List.take_append]
  rcases h with h | h
  · rw [List.filter_cons_of_neg (by simp [h])]; simp
  · rw [List.length_take] at h
    rw [show k - ((List.range i).filter th).length = 0 by omega]; simp
theorem firstK_yes {th : Nat → Bool} {k i : Nat} (h : th i = true) (hl : (firstK th k i).length < k) : firstK th k (i + 1) = firstK th k i ++ [i] := by
  unfold firstK at hl ⊢
  rw [List.length_take] at hl
  rw [List.range_succ, List.filter_append, List.take_append, List.filter_cons_of_pos h, List.filter_nil]
  congr 1
  rw [List.take_of_length_le]
  simp; omega
theorem firstK_lt {th : Nat → Bool} {k i r : Nat} (h : r ∈ firstK th k i) : r < i := (firstK_mem h).2
/-- The key's truths. -/
def inL (L : List Nat) : Nat → Bool := fun r => decide (r ∈ L)
theorem inL_nil : inL [] = fun _ => false := by funext r; simp [inL]
/-- A set that is listed in order. -/
theorem setL_firstK (th : Nat → Bool) (k N : Nat) : setL (inL (firstK th k N)) N = firstK th k N := by
  unfold setL inL firstK
  have h : ∀ (l : List Nat) (hn : l.Nodup) (p : Nat → Bool), l.filter (fun r => decide (r ∈ (l.filter p).take k)) = (l.filter p).take k := by
    intro l hn p
    have hsub : ((l.filter p).take k).Sublist l := (List.take_sublist _ _).trans List.filter_sublist
    obtain ⟨M, hM⟩ : ∃ M, M = (l.filter p).take k := ⟨_, rfl⟩
    rw [← hM] at hsub ⊢
    clear hM
    induction hsub with
    | slnil => rfl
    | cons a h ih =>
      rename_i M' l'
      obtain ⟨h1, h2⟩ := List.nodup_cons.1 hn
      rw [List.filter_cons_of_neg (by simpa using fun hm => h1 (h.subset hm))]
      exact ih h2
    | cons_cons a h ih =>
      rename_i M' l'
      obtain ⟨h1, h2⟩ := List.nodup_cons.1 hn
      rw [List.filter_cons_of_pos (by simp)]
      congr 1
      rw [← ih h2]
      refine List.filter_congr fun r hr => ?_
      have : r ≠ a := fun e => h1 (e ▸ hr)
      simp [this, ih h2]
  exact h _ List.nodup_range th

def keyC (f : Nat → Bool) : Array Value := #[.bool (f 0), .bool (f 1), .bool (f 2), .bool (f 3), .bool (f 4), .bool (f 5), .bool (f 6), .bool (f 7), .bool (f 8), .bool (f 9), .bool (f 10), .bool (f 11), .bool (f 12), .bool (f 13)]
theorem keyC_set (L : List Nat) (i : Nat) (hi : i < 14) : (keyC (inL L)).setIfInBounds i (.bool true) = keyC (inL (L ++ [i])) := by
  have h : ∀ r, inL (L ++ [i]) r = (inL L r || decide (r = i)) := fun r => by simp [inL]
  unfold keyC
  simp only [h]
  match i, hi with
  | 0, _ => simp
  | 1, _ => simp
  | 2, _ => simp
  | 3, _ => simp
  | 4, _ => simp
  | 5, _ => simp
  | 6, _ => simp
  | 7, _ => simp
  | 8, _ => simp
  | 9, _ => simp
  | 10, _ => simp
  | 11, _ => simp
  | 12, _ => simp
  | 13, _ => simp

theorem pick_inv {k m : Nat} {R : List Nat} {Bm : Mx} {f : Nat} (h : PickOk k m R) (hk : 1 ≤ k) (hkm : k + m ≤ 14) (hi : InvOk (pickM k m R) Bm f) : f = 0 ∧ Bm = invM (pickM k m R) ∧ Bm.length = k := by
  have hd := h.dim
  rcases hi with ⟨h1, _⟩ | ⟨_, _, ⟨_, _, h3⟩ | ⟨h3, h4⟩⟩
  · exact absurd ⟨hd.isM hk (by omega) hk (by omega), by rw [hd.wid hk, hd.1]⟩ h1
  · rw [hd.1] at h3
    exact (code_reg h.nodup h.len h.lt hkm h3).elim
  · exact ⟨h3, invM_eq hd hk h4, (undo_dim hd h4).1⟩

set_option maxRecDepth 100000 in
set_option maxHeartbeats 4000000 in
theorem inverse_any (W : World) (B g b k m : Nat) (ac : Option Addr) (cc : Nat) (hw : WorkI W B g b k m ac cc) (hk : 1 ≤ k) (hkm : k + m ≤ 14) (T : Nat) (hT : T < 4294967296) (hcnt : k ≤ (setL T.testBit (k + m)).length)
    (hTab : TabAt 0 Lib.deBruijn64tab W) :
    Calls Tryd.prog 29 #[.pointer (some ⟨g, 0, none⟩), .int .u32 T] W fun e W' => ∃ a c al cl, e = .returned (.tuple #[.slice a k c, .slice al k cl]) ∧ RdLL W' a c (invM (pickM k m (firstK T.testBit k (k + m)))) ∧
      Rd W' al cl (BI (NZ (firstK T.testBit k (k + m)))) ∧ WorkI W' B g b k m ac cc ∧ Below B W W' := by
  obtain ⟨hblk, hcode, hmap, hbg, hbb⟩ := hw
  obtain ⟨W0, hW0⟩ : ∃ W0, W0 = W.alloc (.cells (keyC (inL [])) 76) := ⟨_, rfl⟩
  obtain ⟨K, hK⟩ : ∃ K, K = W.heap.size := ⟨_, rfl⟩
  have hB0 : Below K W W0 := by rw [hW0, hK]; exact (Below.refl _ _).alloc (Nat.le_refl _) _
  have hkey0 : BlkV W0 K 76 (keyC (inL [])) := by rw [hW0, hK]; exact BlkV.new W _ _
  have hgK : g < K := by rw [hK]; exact hblk.lt
  have hblk0 : BlkV W0 g 62 #[.int .i64 (k : Int), .int .i64 (m : Int), .slice ac (k + m) cc, .map (some b)] := hblk.at hB0 hgK
  have c2 := hblk0.cell 2
  simp only [List.getElem?_toArray, List.getElem?_cons_succ, List.getElem?_cons_zero] at c2
  have HW0 : Hid (W.alloc (.cells #[.bool false, .bool false, .bool false, .bool false, .bool false, .bool false, .bool false, .bool false, .bool false, .bool false, .bool false, .bool false, .bool false, .bool false] 76) = W0) := Lib.hid (by rw [hW0]; simp [keyC, inL])
  have HK := Lib.hid hK
  have hcl : (codeL k m).length = k + m := codeL_length k m
  have HCL := Lib.hid hcl
  have c2' := c2
  clear hW0 hcl
  go_enter Tryd.func29, Tryd.ntmps29
  go_upto_region 4 with (fail)
  rw [HW0.out, ← hK]
  clear hK HW0
  go_wp2_with fail
  go_loopw [7, 8, 18] (fun s7 s8 s18 wr => ∃ (i : Nat) (Lk : List Nat) (vs : List Value), i ≤ k + m ∧ s18 = .int .i64 i ∧ Hid (Lk = firstK T.testBit k i) ∧ Lk.length ≤ k ∧ wr.ownsRow (K + 1) 3 1 s7 Lk.length (BI (NZ Lk)) ∧ wr.ownsRow (K + 1) 34 1 s8 Lk.length vs ∧
    BlkV wr K 76 (keyC (inL Lk)) ∧ Hid (∀ (r q : Nat), Lk[r]? = some q → ∃ ad cd, vs[r]? = some (.slice ad k cd) ∧ Rd W ad cd (B8 ((codeL k m).getD q []))) ∧ Below K W wr) (fun _ _ s18 _ => k + m - (intOf s18).toNat)
  case atStart => exact ⟨0, [], [], by omega, rfl, Lib.hid (firstK_zero _ _).symm, by simp, World.ownsRow_nil _ _ _ _, World.ownsRow_nil _ _ _ _, hkey0, Lib.hid (fun r q h => by simp at h), hB0⟩
  case round =>
    clear hB0 hkey0 hblk0 c2 c2'
    obtain ⟨i, Lk, vs, hi, rfl, HLK, hLl, ho, hs, hkb, HVS, hb⟩ := hrel
    have hKz : K < wr.heap.size := hkb.lt
    by_cases hlt : i < k + m
    · have hii : (i : Int) < (k : Int) + (m : Int) := by omega
      obtain ⟨b0, o0, ad0, cd0, rfl, hc0, hr0⟩ := hcode.cell i (by rw [HCL.out]; exact hlt)
      have hcn : ((codeL k m)[i]'(by rw [HCL.out]; exact hlt)).length = k := (codeL_dim k m).2 _ (List.getElem_mem _)
      have hgd : (codeL k m).getD i [] = (codeL k m)[i]'(by rw [HCL.out]; exact hlt) := by rw [List.getD_eq_getElem?_getD, List.getElem?_eq_getElem]; rfl
      rw [hcn] at hc0
      rw [← hgd] at hr0
      have hm0 : b0 < K := by rw [HK.out]; exact World.block_lt_of_cell? W _ hc0
      have hc0' := (hb.cell (p := ⟨b0, o0 + i, none⟩) hm0).trans hc0
      have hbk := hblk.at hb hgK
      have k0 := hbk.cell 0
      simp only [List.getElem?_toArray, List.getElem?_cons_zero] at k0
      obtain ⟨a7, c7, rfl, _⟩ := Rd.ofOwn ho
      obtain ⟨a8, c8, rfl, _⟩ := Rd.ofOwn hs
      have hhas := has_any T i hT (by omega) wr
      have HR0 := Lib.hid hr0
      clear hc0 hgd hcn hr0 hbk
      cases hth : T.testBit i with
      | false =>
        rw [hth] at hhas
        have h2 := firstK_no (th := T.testBit) (k := k) (i := i) (.inl hth)
        have HL2 : Hid (Lk = firstK T.testBit k (i + 1)) := Lib.hid (by rw [h2]; exact HLK.out)
        have HH := Lib.hid hhas
        clear hth h2 hhas
        go_wp2_with fail
        refine HH.out.mono ?_
        rintro e w1 ⟨rfl, hw1⟩
        have hw1 := hw1.symm
        subst hw1
        go_wp2
        go_roundw
        case rel => exact ⟨i + 1, Lk, vs, by omega, by go_num, HL2, hLl, ho, hs, hkb, HVS, hb⟩
        case measure => simp [intOf]; omega
      | true =>
        rw [hth] at hhas
        have HH := Lib.hid hhas
        have HTH := Lib.hid hth
        clear hth hhas
        by_cases hful : k ≤ Lk.length
        · have hle : (k : Int) ≤ (Lk.length : Int) := by omega
          have h2 := firstK_no (th := T.testBit) (k := k) (i := i) (.inr (by rw [← HLK.out]; exact hful))
          have HL2 : Hid (Lk = firstK T.testBit k (i + 1)) := Lib.hid (by rw [h2]; exact HLK.out)
          clear h2
          go_wp2_with fail
          refine HH.out.mono ?_
          rintro e w1 ⟨rfl, hw1⟩
          have hw1 := hw1.symm
          subst hw1
          go_wp2
          go_roundw
          case rel => exact ⟨i + 1, Lk, vs, by omega, by go_num, HL2, hLl, ho, hs, hkb, HVS, hb⟩
          case measure => simp [intOf]; omega
        · have hle : (Lk.length : Int) < (k : Int) := by omega
          have h2 := firstK_yes (th := T.testBit) (k := k) (i := i) HTH.out (by rw [← HLK.out]; omega)
          have HL2 : Hid (Lk ++ [i] = firstK T.testBit k (i + 1)) := Lib.hid (by rw [h2, HLK.out])
          obtain ⟨u6, hu6⟩ : ∃ u, wr.cell? ⟨K, i, none⟩ = some u := by
            rw [hkb.cell]
            exact ⟨_, Array.getElem?_eq_getElem (by simp [keyC]; omega)⟩
          have hf6 := hkb.frozen i
          have hkb2 := hkb.set i (.bool true)
          rw [keyC_set Lk i (by omega)] at hkb2
          have ho2 := own_setFar ho (show K < K + 1 by omega) i (.bool true)
          have hs2 := own_setFar hs (show K < K + 1 by omega) i (.bool true)
          have hb2 := hb.setCell (p := ⟨K, i, none⟩) (Nat.le_refl _) (.bool true)
          have hi14 : (i : Int) < 14 := by omega
          clear h2 ho hs hkb hb
          go_wp2_with fail
          refine HH.out.mono ?_
          rintro e w1 ⟨rfl, hw1⟩
          have hw1 := hw1.symm
          subst hw1
          have hone := Rd.one (wr.setCell ⟨K, i, none⟩ (.bool true)) (.int .i64 (i : Int)) 3
          rw [show (wr.setCell ⟨K, i, none⟩ (.bool true)).heap.size = wr.heap.size by simp] at hone
          go_wp2_with (with_reducible refine At.slot 40 ?_)
          refine At.out (wpList_app rfl (.tmp 37) (.tmp 39) 32 rfl elemI rfl (K + 1) _ Lk.length _ rfl (ho2.alloc _) _ 1 1 [.int .i64 (i : Int)] rfl rfl hone (one_int _ _) (by unfold maxLen; omega) (by omega) (by simp; omega) ?_)
          intro v4 w4 ho4 hb4 hg4
          have hs4 := own_grown (hs2.alloc (.cells #[.int .i64 (i : Int)] 3)) (ho2.alloc (.cells #[.int .i64 (i : Int)] 3)) (by decide) hg4
          have hkb4 := (hkb2.alloc (.cells #[.int .i64 (i : Int)] 3)).at hb4 (by omega)
          have hb5 : Below K W w4 := (hb2.alloc (by simp; omega) _).trans (hb4.mono (by omega))
          rw [← BI_NZ_snoc] at ho4
          have hz4 := hb5.size
          have hKz4 : K < w4.heap.size := hkb4.lt
          clear ho2 hs2 hkb2 hb2 hb4 hg4 hone hu6 hf6
          go_wp2_with (with_reducible refine At.slot 44 ?_)
          refine At.out (wpList_app rfl (.tmp 41) (.tmp 43) 22 rfl elemR rfl (K + 1) _ Lk.length vs rfl (hs4.alloc _) _ 1 1 [.slice ad0 k cd0] rfl rfl (Rd.one _ _ _) (by intro u hu; rw [List.mem_singleton.1 hu]; rfl) (by unfold maxLen; omega) (by omega) (by simp; omega) ?_)
          intro v5 w5 hs5 hb6 hg5
          have ho5 := own_grown (ho4.alloc (.cells #[.slice ad0 k cd0] 34)) (hs4.alloc (.cells #[.slice ad0 k cd0] 34)) (by decide) hg5
          have hkb5 := (hkb4.alloc (.cells #[.slice ad0 k cd0] 34)).at hb6 (by omega)
          have hb7 : Below K W w5 := (hb5.alloc (by omega) _).trans (hb6.mono (by omega))
          have hll : (Lk ++ [i]).length = Lk.length + 1 := by simp
          have ho6 := own_len ho5 hll.symm
          have hs6 := own_len hs5 hll.symm
          have HVS2 : Hid (∀ (r q : Nat), (Lk ++ [i])[r]? = some q → ∃ ad cd, (vs ++ [.slice ad0 k cd0])[r]? = some (.slice ad k cd) ∧ Rd W ad cd (B8 ((codeL k m).getD q []))) := Lib.hid (fun r q hq => by
            have hvl : vs.length = Lk.length := by simpa using hs4.1
            by_cases e : r < Lk.length
            · rw [List.getElem?_append_left e] at hq
              obtain ⟨ad, cd, h1, h2⟩ := HVS.out r q hq
              exact ⟨ad, cd, by rw [List.getElem?_append_left (by omega)]; exact h1, h2⟩
            · have hre : r = Lk.length := by
                have := (List.getElem?_eq_some_iff.1 hq).1
                simp at this
                omega
              rw [List.getElem?_append_right (by omega), hre, Nat.sub_self] at hq
              have hpq : i = q := by simpa using hq
              subst hpq
              exact ⟨ad0, cd0, by rw [List.getElem?_append_right (by omega), hre, hvl, Nat.sub_self]; rfl, HR0.out⟩)
          have hll2 : (Lk ++ [i]).length ≤ k := by rw [hll]; omega
          clear ho4 hs4 hkb4 hb5 ho5 hs5 hb6 hg5 hll
          go_wp2
          go_roundw
          case rel => exact ⟨i + 1, Lk ++ [i], _, by omega, by go_num, HL2, hll2, ho6, hs6, hkb5, HVS2, hb7⟩
          case measure => simp [intOf]; omega
    · obtain rfl : i = k + m := by omega
      have hnl : ¬ (k : Int) + (m : Int) < (k : Int) + (m : Int) := by omega
      have hok : PickOk k m Lk := by rw [HLK.out]; exact firstK_ok hcnt
      have hset : setL (inL Lk) (k + m) = Lk := by
        have := setL_firstK T.testBit k (k + m)
        rw [← HLK.out] at this
        exact this
      obtain ⟨wd, hwd⟩ : ∃ wd, wd = wr.drew := ⟨_, rfl⟩
      have hbd : Below K W wd := by rw [hwd]; exact below_drewN hb 1
      have hmd : MapI wd b k m := hmap.kept (HK.out ▸ hbd)
      have q0 : wr.cell? ⟨K, 0, none⟩ = some (.bool (inL Lk 0)) := hkb.cell 0
      have q1 : wr.cell? ⟨K, 1, none⟩ = some (.bool (inL Lk 1)) := hkb.cell 1
      have q2 : wr.cell? ⟨K, 2, none⟩ = some (.bool (inL Lk 2)) := hkb.cell 2
      have q3 : wr.cell? ⟨K, 3, none⟩ = some (.bool (inL Lk 3)) := hkb.cell 3
      have q4 : wr.cell? ⟨K, 4, none⟩ = some (.bool (inL Lk 4)) := hkb.cell 4
      have q5 : wr.cell? ⟨K, 5, none⟩ = some (.bool (inL Lk 5)) := hkb.cell 5
      have q6 : wr.cell? ⟨K, 6, none⟩ = some (.bool (inL Lk 6)) := hkb.cell 6
      have q7 : wr.cell? ⟨K, 7, none⟩ = some (.bool (inL Lk 7)) := hkb.cell 7
      have q8 : wr.cell? ⟨K, 8, none⟩ = some (.bool (inL Lk 8)) := hkb.cell 8
      have q9 : wr.cell? ⟨K, 9, none⟩ = some (.bool (inL Lk 9)) := hkb.cell 9
      have q10 : wr.cell? ⟨K, 10, none⟩ = some (.bool (inL Lk 10)) := hkb.cell 10
      have q11 : wr.cell? ⟨K, 11, none⟩ = some (.bool (inL Lk 11)) := hkb.cell 11
      have q12 : wr.cell? ⟨K, 12, none⟩ = some (.bool (inL Lk 12)) := hkb.cell 12
      have q13 : wr.cell? ⟨K, 13, none⟩ = some (.bool (inL Lk 13)) := hkb.cell 13
      have hbk := hblk.at hb hgK
      have k3 := hbk.cell 3
      have k3raw := hblk.cell 3
      simp only [List.getElem?_toArray, List.getElem?_cons_succ, List.getElem?_cons_zero] at k3 k3raw
      have hlk := hmd.look hkm (inL Lk)
      rw [hset, hwd] at hlk
      unfold keyV at hlk
      have HOK := Lib.hid hok
      have HSET := Lib.hid hset
      have HWD := Lib.hid hwd
      have HMD := Lib.hid hmd
      clear hok hset hwd hmd
      have hlen : Lk.length = k := HOK.out.len
      obtain ⟨a7, c7, rfl, hr7⟩ := Rd.ofOwn ho
      obtain ⟨a8, c8, rfl, hr8⟩ := Rd.ofOwn hs
      rw [hlen] at ho hs ⊢
      have hvl : vs.length = k := by have := hs.1; omega
      rcases hlk with hlk | ⟨a0, c0, hlk, hr0⟩
      · have hLL : RdLL wd a8 c8 (pickM k m Lk) := by
          refine ⟨vs, hr8.kept (by rw [HWD.out]; exact below_drewN (Below.refl _ _) 1), by rw [hvl]; unfold pickM; rw [List.length_map]; exact hlen.symm, fun r l hl => ?_⟩
          unfold pickM at hl
          rw [List.getElem?_map] at hl
          cases hq : Lk[r]? with
          | none => rw [hq] at hl; cases hl
          | some q =>
            rw [hq] at hl
            obtain rfl := Option.some.inj hl
            obtain ⟨ad, cd, h1, h2⟩ := HVS.out r q hq
            have hdim : ((codeL k m).getD q []).length = k := HOK.out.dim.2 _ (by unfold pickM; exact List.mem_map.2 ⟨q, List.mem_of_getElem? hq, rfl⟩)
            exact ⟨ad, cd, by rw [hdim]; exact h1, h2.kept (HK.out ▸ hbd)⟩
        have hpl : (pickM k m Lk).length = k := by unfold pickM; rw [List.length_map]; exact hlen
        have hTd : TabAt 0 Lib.deBruijn64tab wd := fun j hj => (hbd.cell (p := ⟨0, j, none⟩) (World.block_lt_of_cell? W _ (hTab j hj) |> fun h => HK.out ▸ h)).trans (hTab j hj)
        have hinv := invert_any wd a8 c8 (pickM k m Lk) hLL hTd
        rw [hpl] at hinv
        rw [HWD.out] at hinv
        have HINV := Lib.hid hinv
        have HBD := Lib.hid hbd
        have HCODE := Lib.hid hcode
        have HR7 := Lib.hid hr7
        have K3 := Lib.hid k3raw
        clear hLL hpl hTd hinv hbd hcode hr7 hr8 k3raw
        go_wp2
        go_region
        go_wp2_with fail
        refine HINV.out.mono ?_
        rintro e w2 ⟨Bm, f, hio, hmx⟩
        obtain ⟨ax, cx, rfl, hrx, hb2⟩ := MxP.rd hmx
        obtain ⟨rfl, hBm, hBl⟩ := pick_inv HOK.out hk hkm hio
        rw [show ((Bm, 0) : Mx × Nat).1.length = k from hBl]
        have hrx2 : RdLL w2 ax cx (invM (pickM k m Lk)) := hBm ▸ hrx
        have hsz : K ≤ wr.drew.heap.size := by have := HBD.out.size; have := HK.out; rw [← HWD.out]; omega
        have hb3 : Below K W w2 := (HWD.out ▸ HBD.out : Below K W wr.drew).trans (hb2.mono hsz)
        have hb4 : Below K W w2.drew := hb3.drew
        obtain ⟨es', cl', es, cl, h1, h2, h3⟩ := (hmap.kept (HK.out ▸ hb4)).put (inL Lk) ax cx (by rw [HSET.out]; exact hrx2.kept (Below.refl _ _).drew)
        unfold keyV at h2
        obtain ⟨W3, hW3⟩ : ∃ W3, W3 = ChangeMaps.setBlock w2.drew b (.map es' cl') := ⟨_, rfl⟩
        rw [← hW3] at h2 h3
        have hBK : B ≤ K := by omega
        have hb5 : Below B W W3 := by rw [hW3]; exact below_setMap h1 (hb4.mono hBK) hbb
        have hgb : g ≠ b := by
          intro e
          have := h3
          obtain ⟨e1, e2, e3, _⟩ := this
          subst e
          have h5 := hb4.block g hgK
          rw [h1, show W.heap[g]? = _ from hblk] at h5
          cases h5
        have hblk3 : BlkV W3 g 62 #[.int .i64 (k : Int), .int .i64 (m : Int), .slice ac (k + m) cc, .map (some b)] := by
          unfold BlkV
          rw [hW3, ChangeMaps.heap_setBlock_other h1 _ hgb]
          exact hblk.at hb4 hgK
        have hcode3 : RdLL W3 ac cc (codeL k m) := by rw [hW3]; exact (HCODE.out.kept (HK.out ▸ hb4)).setMap h1
        have hrx3 : RdLL W3 ax cx (invM (pickM k m Lk)) := by rw [hW3]; exact (hrx2.kept (Below.refl _ _).drew).setMap h1
        have hr73 : Rd W3 a7 c7 (BI (NZ Lk)) := by rw [hW3]; exact ((HR7.out.kept (Below.refl _ _).drew |>.kept hb2).kept (Below.refl _ _).drew).setMap h1
        have k3' := (hb4.cell (p := ⟨g, 3, none⟩) (HK.out ▸ hgK)).trans K3.out
        have hkb4 := hkb.below ((below_drewN (Below.refl _ _) 1).trans (hb2.mono (by rw [show wr.drew.heap.size = wr.heap.size from rfl]; exact Nat.le_refl _)) : Below wr.heap.size wr w2)
        have r0 : w2.drew.cell? ⟨K, 0, none⟩ = some (.bool (inL Lk 0)) := hkb4.cell 0
        have r1 : w2.drew.cell? ⟨K, 1, none⟩ = some (.bool (inL Lk 1)) := hkb4.cell 1
        have r2 : w2.drew.cell? ⟨K, 2, none⟩ = some (.bool (inL Lk 2)) := hkb4.cell 2
        have r3 : w2.drew.cell? ⟨K, 3, none⟩ = some (.bool (inL Lk 3)) := hkb4.cell 3
        have r4 : w2.drew.cell? ⟨K, 4, none⟩ = some (.bool (inL Lk 4)) := hkb4.cell 4
        have r5 : w2.drew.cell? ⟨K, 5, none⟩ = some (.bool (inL Lk 5)) := hkb4.cell 5
        have r6 : w2.drew.cell? ⟨K, 6, none⟩ = some (.bool (inL Lk 6)) := hkb4.cell 6
        have r7 : w2.drew.cell? ⟨K, 7, none⟩ = some (.bool (inL Lk 7)) := hkb4.cell 7
        have r8 : w2.drew.cell? ⟨K, 8, none⟩ = some (.bool (inL Lk 8)) := hkb4.cell 8
        have r9 : w2.drew.cell? ⟨K, 9, none⟩ = some (.bool (inL Lk 9)) := hkb4.cell 9
        have r10 : w2.drew.cell? ⟨K, 10, none⟩ = some (.bool (inL Lk 10)) := hkb4.cell 10
        have r11 : w2.drew.cell? ⟨K, 11, none⟩ = some (.bool (inL Lk 11)) := hkb4.cell 11
        have r12 : w2.drew.cell? ⟨K, 12, none⟩ = some (.bool (inL Lk 12)) := hkb4.cell 12
        have r13 : w2.drew.cell? ⟨K, 13, none⟩ = some (.bool (inL Lk 13)) := hkb4.cell 13
        clear h1 hW3 hb2 hb3 hb4 hmx hrx hrx2 hio hsz hgb hkb4
        have H1 := Lib.hid hb5
        have H2 := Lib.hid hblk3
        have H3 := Lib.hid hcode3
        have H4 := Lib.hid hrx3
        have H5 := Lib.hid hr73
        have H6 : Hid (MapI W3 b k m) := Lib.hid h3
        have HL := Lib.hid hBl
        clear h3
        go_wp2
        go_region
        go_wp2
        go_ret2
        exact ⟨ax, cx, a7, c7, rfl, by rw [← HLK.out]; exact H4.out, by rw [← HLK.out]; exact H5.out, ⟨H2.out, H3.out, H6.out, hbg, hbb⟩, H1.out⟩
      · have hr73 : Rd wd a7 c7 (BI (NZ Lk)) := by rw [HWD.out]; exact hr7.kept (below_drewN (Below.refl _ _) 1)
        have hblk3 := hblk.at hbd hgK
        have hcode3 := hcode.kept (HK.out ▸ hbd : Below W.heap.size W wd)
        have hb5 : Below B W wd := hbd.mono (by omega)
        rw [HLK.out] at hr0 hr73
        rw [HWD.out] at hr73 hblk3 hcode3 hb5
        have H1 := Lib.hid hb5
        have H2 := Lib.hid hblk3
        have H3 := Lib.hid hcode3
        have H4 := Lib.hid hr0
        have H5 := Lib.hid hr73
        have H6 : Hid (MapI wr.drew b k m) := Lib.hid (HWD.out ▸ HMD.out)
        clear hr7 hr8 hr73 hblk3 hcode3 hb5 hr0
        go_wp2
        go_region
        go_wp2
        go_ret2
        exact ⟨a0, c0, a7, c7, rfl, H4.out, H5.out, ⟨H2.out, H3.out, H6.out, hbg, hbb⟩, H1.out⟩
end Go.Proofs.YtmeckdgigjjjbaaDoor
