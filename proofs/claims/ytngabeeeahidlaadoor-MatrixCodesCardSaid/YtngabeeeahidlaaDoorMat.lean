/- matrix's isMatrix, column, Mul: the contracts. Conditions: each contract's own premises. -/
import Derived.Test.YtngabeeeahidlaaDoorMxP
import Derived.Test.YtngabeeeahidlaaDoorGfDot
namespace Go.Proofs.YtngabeeeahidlaaDoor
open Go Go.RowKit

theorem isM_rows {A : Mx} (h1 : 1 ≤ A.length) (h2 : A.length ≤ 64) (h : ∀ j (hj : j < A.length), (A[j]).length = wid A ∧ 1 ≤ (A[j]).length ∧ (A[j]).length ≤ 64) : isMat A = true := by
  refine decide_eq_true ⟨h1, h2, fun r hr => ?_⟩
  obtain ⟨j, hj, rfl⟩ := List.mem_iff_getElem.1 hr
  exact h j hj
theorem isM_not {A : Mx} (h : ¬ IsM A) : isMat A = false := decide_eq_false h
theorem wid_get {A : Mx} (h : 0 < A.length) : wid A = (A[0]).length := by
  cases A with
  | nil => simp at h
  | cons r A => rfl

set_option maxRecDepth 100000 in
set_option maxHeartbeats 1000000 in
theorem isMatrix_any (w : World) (a : Option Addr) (c : Nat) (A : Mx) (hr : RdLL w a c A) :
    Calls Tryd.prog 18 #[.slice a A.length c] w fun e w' => e = .returned (.bool (isMat A)) ∧ w' = w := by
  have hl := hr.le
  obtain ⟨r, hres⟩ : ∃ r, r = isMat A := ⟨_, rfl⟩
  rw [← hres]
  have HR := Lib.hid hres
  clear hres
  by_cases h1 : A.length < 1
  · have hf : r = false := by rw [HR.out]; exact isM_not (fun h => by have := h.1; omega)
    have hi : (A.length : Int) < 1 := by omega
    subst hf
    clear HR
    go_enter Tryd.func18, Tryd.ntmps18
    go_wp2
    go_ret
    exact ⟨rfl, rfl⟩
  by_cases h2 : 64 < A.length
  · have hf : r = false := by rw [HR.out]; exact isM_not (fun h => by have := h.2.1; omega)
    have hi : (64 : Int) < (A.length : Int) := by omega
    have hi2 : (1 : Int) ≤ (A.length : Int) := by omega
    subst hf
    clear HR
    go_enter Tryd.func18, Tryd.ntmps18
    go_wp2
    go_ret
    exact ⟨rfl, rfl⟩
  have hi1 : (1 : Int) ≤ (A.length : Int) := by omega
  have hi2 : (A.length : Int) ≤ 64 := by omega
  have hw0 := wid_get (A := A) (by omega)
  obtain ⟨b0, o0, ad0, cd0, rfl, hc0, hr0⟩ := hr.cell 0 (by omega)
  obtain ⟨n0, hn0⟩ : ∃ n, n = (A[0]'(by omega)).length := ⟨_, rfl⟩
  have hle0 := hr0.le
  rw [B8_length] at hle0
  simp only [← hn0] at hc0 hle0 hw0
  simp only [Nat.add_zero] at hc0
  have HW := Lib.hid hw0
  have HN0 := Lib.hid hn0
  clear hw0 hn0 hr0
  go_enter Tryd.func18, Tryd.ntmps18
  go_wp2
  go_loop [4, 15] (fun _ i => ∃ k : Nat, k ≤ A.length ∧ i = .int .i64 k ∧ Hid (∀ j (hj : j < A.length), j < k → (A[j]).length = wid A ∧ 1 ≤ (A[j]).length ∧ (A[j]).length ≤ 64)) (fun _ i => A.length - (intOf i).toNat)
  case atStart => exact ⟨0, by omega, rfl, Lib.hid (fun j hj h => by omega)⟩
  case round =>
    obtain ⟨k, hk, rfl, HK⟩ := hrel
    by_cases hlt : k < A.length
    · obtain ⟨b1, o1, ad1, cd1, he, hc1, hr1⟩ := hr.cell k hlt
      simp only [Option.some.injEq, Addr.mk.injEq, and_true] at he
      obtain ⟨rfl, rfl⟩ := he
      obtain ⟨n, hn⟩ : ∃ n, n = (A[k]).length := ⟨_, rfl⟩
      have hle := hr1.le
      rw [B8_length] at hle
      rw [← hn] at hc1 hle
      have HN := Lib.hid hn
      have hki : (k : Int) < (A.length : Int) := by omega
      clear hn hr1
      by_cases e1 : n = n0
      · have g1 : ((n : Int) != (n0 : Int)) = false := by rw [e1]; simp
        have E1 := Lib.hid e1
        clear e1
        by_cases e2 : n < 1
        · have hf : Hid (r = false) := Lib.hid (by rw [HR.out]; exact isM_not (fun h => by have := h.2.2 (A[k]) (List.getElem_mem _); have := HN.out; omega))
          have g2 : (n : Int) < 1 := by omega
          go_wp2
          go_ret
          exact ⟨ret_bool hf.out.symm, rfl⟩
        · by_cases e3 : 64 < n
          · have hf : Hid (r = false) := Lib.hid (by rw [HR.out]; exact isM_not (fun h => by have := h.2.2 (A[k]) (List.getElem_mem _); have := HN.out; omega))
            have g2 : (1 : Int) ≤ (n : Int) := by omega
            have g3 : (64 : Int) < (n : Int) := by omega
            go_wp2
            go_ret
            exact ⟨ret_bool hf.out.symm, rfl⟩
          · have g2 : (1 : Int) ≤ (n : Int) := by omega
            have g3 : (n : Int) ≤ 64 := by omega
            have HK' : Hid (∀ j (hj : j < A.length), j < k + 1 → (A[j]).length = wid A ∧ 1 ≤ (A[j]).length ∧ (A[j]).length ≤ 64) := Lib.hid (fun j hj h => by
              by_cases hjk : j = k
              · subst hjk; have := HN.out; have := HW.out; have := E1.out; omega
              · exact HK.out j hj (by omega))
            go_wp2
            go_round
            case rel => exact ⟨k + 1, by omega, by go_num, HK'⟩
            case measure => simp [intOf]; omega
      · have hf : Hid (r = false) := Lib.hid (by rw [HR.out]; exact isM_not (fun h => by have := h.2.2 (A[k]) (List.getElem_mem _); have := HN.out; have := HW.out; omega))
        have g1 : ((n : Int) != (n0 : Int)) = true := by rw [bne_iff_ne]; omega
        clear e1
        go_wp2
        go_ret
        exact ⟨ret_bool hf.out.symm, rfl⟩
    · have hf : Hid (r = true) := Lib.hid (by rw [HR.out]; exact isM_rows (by omega) (by omega) (fun j hj => HK.out j hj (by omega)))
      go_wp2
      go_ret
      exact ⟨ret_bool hf.out.symm, rfl⟩

theorem colL_take (A : Mx) (j k : Nat) (hk : k < A.length) (x : UInt8) (hx : (A[k]).getD j 0 = x) : colL (A.take (k + 1)) j = colL (A.take k) j ++ [x] := by
  rw [List.take_succ_eq_append_getElem hk]
  unfold colL
  rw [List.map_append, List.map_singleton, hx]

set_option maxRecDepth 100000 in
set_option maxHeartbeats 1000000 in
theorem column_any (w : World) (a : Option Addr) (c : Nat) (A : Mx) (j : Nat) (hr : RdLL w a c A) (hA : A.length ≤ 1000000) (hj : ∀ r ∈ A, j < r.length) :
    Calls Tryd.prog 25 #[.slice a A.length c, .int .i64 (j : Int)] w fun e w' => ∃ v, e = .returned v ∧ w'.ownsRow w.heap.size 5 1 v A.length (B8 (colL A j)) ∧ Below w.heap.size w w' := by
  have HJ := Lib.hid hj
  clear hj
  go_enter Tryd.func25, Tryd.ntmps25
  go_wp2
  go_loopw [5, 7, 10] (fun s5 _ s10 wr => ∃ k : Nat, k ≤ A.length ∧ s10 = .int .i64 k ∧ wr.ownsRow w.heap.size 5 1 s5 k (B8 (colL (A.take k) j)) ∧ Below w.heap.size w wr) (fun _ _ s10 _ => A.length - (intOf s10).toNat)
  case atStart => exact ⟨0, by omega, rfl, World.ownsRow_nil _ _ _ _, Below.refl _ _⟩
  case round =>
    obtain ⟨k, hk, rfl, ho, hb⟩ := hrel
    have hz := hb.size
    by_cases hlt : k < A.length
    · obtain ⟨b1, o1, ad1, cd1, rfl, hc1, hr1⟩ := (hr.kept hb).cell k hlt
      have hjl := HJ.out (A[k]) (List.getElem_mem _)
      obtain ⟨b2, o2, rfl, hc2⟩ := hr1.cs.b8 j hjl
      obtain ⟨x, hx⟩ : ∃ x, x = (A[k])[j] := ⟨_, rfl⟩
      have hle := hr1.le
      rw [B8_length] at hle
      have hct := colL_take A j k hlt x (by rw [List.getD_eq_getElem?_getD, List.getElem?_eq_getElem hjl, hx]; rfl)
      rw [← hx] at hc2
      obtain ⟨n, hn⟩ : ∃ n, n = (A[k]).length := ⟨_, rfl⟩
      rw [← hn] at hc1 hjl hle
      have HC := Lib.hid hct
      have hki : (k : Int) < (A.length : Int) := by omega
      have hji : (j : Int) < (n : Int) := by omega
      clear hct hx hn hr1
      go_wp2_with (with_reducible refine At.slot 20 ?_)
      refine At.out (wpList_app rfl (.tmp 14) (.tmp 19) 31 rfl elemB rfl w.heap.size _ k _ rfl (ho.alloc _) _ 1 1 [.int .u8 (x.toNat : Int)] rfl rfl (Rd.one _ _ _) (one_int _ _) (by unfold maxLen; omega) (by omega) (by simp; omega) ?_)
      intro v2 w2 ho2 hb2 _
      have hb2' : Below w.heap.size w w2 := (hb.alloc hz _).trans hb2
      have ho3 : w2.ownsRow w.heap.size 5 1 v2 (k + 1) (B8 (colL (A.take (k + 1)) j)) := by
        rw [HC.out, B8_append]; exact ho2
      clear ho ho2 hb2
      go_wp2
      go_roundw
      case rel => exact ⟨k + 1, by omega, by go_num, ho3, hb2'⟩
      case measure => simp [intOf]; omega
    · obtain rfl : k = A.length := by omega
      rw [List.take_length] at ho
      go_wp2
      go_ret
      exact ⟨_, rfl, ho, hb⟩

/-- The product, when j columns are laid and of the next one i numbers. -/
def prodK (A B : Mx) (j i : Nat) : Mx := (List.range A.length).map fun r => (List.range (if r < i then j + 1 else j)).map fun q => gdot (A.getD r []) (colL B q)
theorem prodK_length (A B : Mx) (j i : Nat) : (prodK A B j i).length = A.length := by simp [prodK]
theorem prodK_next (A B : Mx) (j : Nat) : prodK A B j A.length = prodK A B (j + 1) 0 := by
  unfold prodK
  apply List.map_congr_left
  intro r hr
  have := List.mem_range.1 hr
  rw [if_pos this, if_neg (by omega)]
theorem prodK_start (A B : Mx) : prodK A B 0 0 = List.replicate A.length [] := by
  unfold prodK
  apply List.ext_getElem
  · simp
  · intro i h1 h2; simp
theorem prodK_done (A B : Mx) : prodK A B (wid B) 0 = mulL A B := by
  unfold prodK mulL
  apply List.ext_getElem
  · simp
  · intro i h1 h2
    simp only [List.getElem_map, List.getElem_range, Nat.not_lt_zero, if_false]
    have : i < A.length := by simpa using h2
    rw [List.getD_eq_getElem?_getD, List.getElem?_eq_getElem this]
    rfl
theorem prodK_get (A B : Mx) (j i r : Nat) (h : r < (prodK A B j i).length) : (prodK A B j i)[r] = (List.range (if r < i then j + 1 else j)).map fun q => gdot (A.getD r []) (colL B q) := by
  simp [prodK]
theorem prodK_set (A B : Mx) (j i : Nat) : (prodK A B j i).set i (((List.range j).map fun q => gdot (A.getD i []) (colL B q)) ++ [gdot (A.getD i []) (colL B j)]) = prodK A B j (i + 1) := by
  apply List.ext_getElem
  · rw [List.length_set, prodK_length, prodK_length]
  · intro r h1 h2
    rw [List.getElem_set, prodK_get]
    by_cases he : i = r
    · subst he
      rw [if_pos rfl, prodK_get, if_pos (by omega)]
      simp [List.range_succ]
    · rw [if_neg he, prodK_get]
      by_cases h3 : r < i
      · rw [if_pos h3, if_pos (by omega)]
      · rw [if_neg h3, if_neg (by omega)]

set_option maxRecDepth 100000 in
set_option maxHeartbeats 2000000 in
theorem mul_no (w : World) (a1 a2 : Option Addr) (c1 c2 : Nat) (A B : Mx) (h1 : RdLL w a1 c1 A) (h2 : RdLL w a2 c2 B) (hno : ¬ (IsM A ∧ IsM B ∧ wid A = B.length)) :
    Calls Tryd.prog 13 #[.slice a1 A.length c1, .slice a2 B.length c2] w (MxP w ([], 1)) := by
  have hA := isMatrix_any w a1 c1 A h1
  have hB := isMatrix_any w a2 c2 B h2
  by_cases iA : IsM A
  · rw [show isMat A = true from decide_eq_true iA] at hA
    by_cases iB : IsM B
    · rw [show isMat B = true from decide_eq_true iB] at hB
      have hne : wid A ≠ B.length := fun h => hno ⟨iA, iB, h⟩
      obtain ⟨b0, o0, ad0, cd0, rfl, hc0, hr0⟩ := h1.cell 0 (by have := iA.1; omega)
      rw [← wid_get (by have := iA.1; omega)] at hc0
      simp only [Nat.add_zero] at hc0
      have hi : ((wid A : Int) != (B.length : Int)) = true := by rw [bne_iff_ne]; omega
      have hAi : (1 : Int) ≤ (A.length : Int) := by have := iA.1; omega
      have HA := Lib.hid hA
      have HB := Lib.hid hB
      clear hA hB hne hno hr0 iA iB
      go_enter Tryd.func13, Tryd.ntmps13
      go_wp2_with fail
      refine HA.out.mono ?_
      rintro e w' ⟨rfl, rfl⟩
      go_wp2_with fail
      refine HB.out.mono ?_
      rintro e w' ⟨rfl, rfl⟩
      go_wp2
      go_ret2
      exact MxP.no 1 (Below.refl _ _)
    · rw [isM_not iB] at hB
      have HA := Lib.hid hA
      have HB := Lib.hid hB
      clear hA hB hno iA iB
      go_enter Tryd.func13, Tryd.ntmps13
      go_wp2_with fail
      refine HA.out.mono ?_
      rintro e w' ⟨rfl, rfl⟩
      go_wp2_with fail
      refine HB.out.mono ?_
      rintro e w' ⟨rfl, rfl⟩
      go_wp2
      go_ret2
      exact MxP.no 1 (Below.refl _ _)
  · rw [isM_not iA] at hA
    have HA := Lib.hid hA
    clear hA hB hno iA
    go_enter Tryd.func13, Tryd.ntmps13
    go_wp2_with fail
    refine HA.out.mono ?_
    rintro e w' ⟨rfl, rfl⟩
    go_wp2
    go_ret2
    exact MxP.no 1 (Below.refl _ _)

theorem Rd.ownS {w : World} {base : Nat} {e : TypeId} {a : Option Addr} {n c : Nat} {xs : List Value} (h : w.ownsRow base e 1 (.slice a n c) n xs) : Rd w a c xs := by
  obtain ⟨a', c', hv, hr⟩ := Rd.ofOwn h
  cases hv
  exact hr
/-- A slice of the call's own that lies apart from all rows. -/
def ApartV (vs : List Value) (v : Value) : Prop := ∀ (i : Nat) (u : Value), vs[i]? = some u → u.ownBlock = none ∨ u.ownBlock ≠ v.ownBlock

set_option maxRecDepth 100000 in
set_option maxHeartbeats 4000000 in
theorem mul_yes (w : World) (a1 a2 : Option Addr) (c1 c2 : Nat) (A B : Mx) (h1 : RdLL w a1 c1 A) (h2 : RdLL w a2 c2 B) (iA : IsM A) (iB : IsM B) (hd : wid A = B.length) :
    Calls Tryd.prog 13 #[.slice a1 A.length c1, .slice a2 B.length c2] w (MxP w (mulL A B, 0)) := by
  have hA := isMatrix_any w a1 c1 A h1
  have hB := isMatrix_any w a2 c2 B h2
  rw [show isMat A = true from decide_eq_true iA] at hA
  rw [show isMat B = true from decide_eq_true iB] at hB
  have hA1 := iA.1
  have hA2 := iA.2.1
  have hB1 := iB.1
  have hB2 := iB.2.1
  have hwB := iB.wid1
  have hrowA := iA.dim.2
  have hrowB := iB.dim.2
  have hw0 := wid_get (A := A) (by omega)
  have hw1 := wid_get (A := B) (by omega)
  obtain ⟨b0, o0, ad0, cd0, rfl, hc0, hr0⟩ := h1.cell 0 (by omega)
  obtain ⟨b1, o1, ad1, cd1, rfl, hc1, hr1⟩ := h2.cell 0 (by omega)
  rw [← hw0, hd] at hc0
  rw [← hw1] at hc1
  simp only [Nat.add_zero] at hc0 hc1
  clear hr0 hr1 hw0 hw1
  have hlt1 : b1 < w.heap.size := World.block_lt_of_cell? w _ hc1
  obtain ⟨m, hm⟩ : ∃ m, m = wid B := ⟨_, rfl⟩
  rw [← hm] at hc1 hwB hrowB
  rw [hd] at hrowA
  have hki0 : ((B.length : Int) != (B.length : Int)) = false := by simp
  have hn1 : (1 : Int) ≤ (A.length : Int) := by omega
  have hk1 : (1 : Int) ≤ (B.length : Int) := by omega
  have hn2 : (A.length : Int) ≤ 64 := by omega
  have hm2 : (m : Int) ≤ 64 := by omega
  have HA := Lib.hid hA
  have HB := Lib.hid hB
  have HM := Lib.hid hm
  have HRA := Lib.hid hrowA
  have HRB := Lib.hid hrowB
  clear hA hB iA iB hd hm hrowA hrowB
  obtain ⟨G, hG⟩ : ∃ G, G = w.heap.size := ⟨_, rfl⟩
  have HG := Lib.hid hG
  clear hG
  go_enter Tryd.func13, Tryd.ntmps13
  go_wp2_with fail
  refine HA.out.mono ?_
  rintro e w' ⟨rfl, hw⟩
  have hw := hw.symm
  subst hw
  go_wp2_with fail
  refine HB.out.mono ?_
  rintro e w' ⟨rfl, hw⟩
  have hw := hw.symm
  subst hw
  clear HA HB
  go_wp2_with (with_reducible refine At.slot 32 ?_)
  refine At.out (wpList_makeR rfl (.tmp 31) (.tmp 31) 23 rfl elemR .i64 .i64 (A.length : Int) (A.length : Int) A.length rfl rfl rfl rfl (by omega) 5 ?_)
  intro w1 hO1 hb1
  rw [← prodK_start A B] at hO1
  have hc1' := (hb1.cell (p := ⟨b1, o1, none⟩) hlt1).trans hc1
  rw [← HG.out] at hO1 hb1 hlt1 ⊢
  have hlt1' : b1 < w1.heap.size := by have := hb1.size; have := HG.out; omega
  clear hc0 hc1
  go_wp2_with fail
  go_loopw [37] (fun s37 wr => ∃ (j : Nat) (vs : List Value), j ≤ m ∧ s37 = .int .i64 j ∧ OwnM wr G 31 5 G A.length A.length vs (prodK A B j 0) ∧ Below G w wr) (fun s37 _ => m - (intOf s37).toNat)
  case atStart => exact ⟨0, _, by omega, rfl, hO1, hb1⟩
  case round =>
    clear hO1 hb1 hc1' hlt1'
    obtain ⟨j, vs, hj, rfl, hO, hb⟩ := hrel
    have hGs : G ≤ wr.heap.size := by have := hb.size; have := HG.out; omega
    by_cases hlt : j < m
    · have hcol := column_any wr (some ⟨b1, o1, none⟩) c2 B j (h2.kept (HG.out ▸ hb : Below w.heap.size w wr)) (by omega) (fun r hr => by have := HRB.out r hr; omega)
      have HC := Lib.hid hcol
      clear hcol
      have hji : (j : Int) < (m : Int) := by omega
      go_wp2_with fail
      refine HC.out.mono ?_
      clear HC
      rintro e w2 ⟨v2, rfl, ho2, hb2⟩
      have hO2 := hO.kept hb2
      have hap2 : ApartV vs v2 := by
        intro i u hu
        by_cases h0 : u.ownBlock = none
        · exact .inl h0
        · right
          intro e
          rcases own_block ho2 with h | ⟨g, C, fr, h, hg, _⟩
          · rw [h] at e; exact h0 e
          · rw [h] at e
            have := hO.lt hu e
            omega
      have ho2' := own_base ho2 hGs
      have hb2' : Below G w w2 := hb.trans (hb2.mono hGs)
      have hGs2 : G ≤ w2.heap.size := by have := hb2.size; omega
      obtain ⟨a2', c2', rfl, _⟩ := Rd.ofOwn ho2'
      have HP2 := Lib.hid hap2
      clear hO hb ho2 hb2 hGs hap2
      go_wp2_with fail
      go_loopw [45] (fun s45 wr => ∃ (i : Nat) (vs : List Value), i ≤ A.length ∧ s45 = .int .i64 i ∧ OwnM wr G 31 5 G A.length A.length vs (prodK A B j i) ∧ Hid (ApartV vs (.slice a2' B.length c2')) ∧ wr.ownsRow G 5 1 (.slice a2' B.length c2') B.length (B8 (colL B j)) ∧ Below G w wr) (fun s45 _ => A.length - (intOf s45).toNat)
      case atStart => exact ⟨0, vs, by omega, rfl, hO2, HP2, ho2', hb2'⟩
      case round =>
        clear hO2 HP2 ho2' hb2' hGs2
        obtain ⟨i, vs, hi, rfl, hO, HP, hoc, hb⟩ := hrel
        have hGs : G ≤ wr.heap.size := by have := hb.size; have := HG.out; omega
        by_cases hlti : i < A.length
        · obtain ⟨b3, o3, ad3, cd3, he, hc3, hr3⟩ := (h1.kept (HG.out ▸ hb : Below w.heap.size w wr)).cell i hlti
          simp only [Option.some.injEq, Addr.mk.injEq, and_true] at he
          obtain ⟨rfl, rfl⟩ := he
          have hrl := HRA.out (A[i]) (List.getElem_mem _)
          obtain ⟨x, hx⟩ : ∃ x, x = gdot (A.getD i []) (colL B j) := ⟨_, rfl⟩
          have hgd : A.getD i [] = A[i] := by rw [List.getD_eq_getElem?_getD, List.getElem?_eq_getElem hlti]; rfl
          have hdot : Calls Tryd.prog 26 #[.slice ad3 B.length cd3, .slice a2' B.length c2'] wr fun e w' => e = .returned (.tuple #[.int .u8 (x.toNat : Int), .int .i64 0]) ∧ Qt wr w' := by
            have := dot_any wr ad3 a2' cd3 c2' (A[i]) (colL B j) hr3 (Rd.ownS hoc)
            rw [colL_length, hrl] at this
            refine this.mono ?_
            rintro e w' ⟨rfl, hq⟩
            refine ⟨?_, hq⟩
            unfold dotV
            rw [if_pos (by rw [hrl, colL_length]), hx, hgd]
          rw [hrl] at hc3
          have hcol := prodK_set A B j i
          rw [← hx] at hcol
          have HD := Lib.hid hdot
          have HC := Lib.hid hcol
          have hii : (i : Int) < (A.length : Int) := by omega
          have hlt0 : b0 < wr.heap.size := World.block_lt_of_cell? wr _ hc3
          clear hrl hgd hdot hcol hx hr3
          go_wp2_with fail
          refine HD.out.mono ?_
          rintro e w3 ⟨rfl, hq3⟩
          have hO3 := hO.kept (hq3.below _)
          have hoc3 := own_below hoc (hq3.below _)
          have hb3 := hb.trans (hq3.below G)
          have hGs3 : G ≤ w3.heap.size := by have := hq3.size; omega
          obtain ⟨u, hu, hcu, hfu, hou⟩ := hO3.at i hlti
          have hpl : (prodK A B j i)[i]'(by rw [prodK_length]; exact hlti) = (List.range j).map fun q => gdot (A.getD i []) (colL B q) := by rw [prodK_get, if_neg (by omega)]
          obtain ⟨R, hR⟩ : ∃ R, R = (List.range j).map fun q => gdot (A.getD i []) (colL B q) := ⟨_, rfl⟩
          have hRl : R.length = j := by rw [hR]; simp
          rw [hpl, ← hR, hRl] at hou
          have hcol := HC.out
          rw [← hR] at hcol
          have HC2 := Lib.hid hcol
          have HRl := Lib.hid hRl
          obtain ⟨au, cu, rfl, _⟩ := Rd.ofOwn hou
          clear hO hoc hb hGs hq3 hpl hR hRl hcol HC
          have hGlt : G < w3.heap.size := by
            have := hO3.outer
            rcases own_block this with h | ⟨g, C, fr, h, _, hh⟩
            · cases h
            · cases h; exact (Array.getElem?_eq_some_iff.1 hh).1
          have hst : ∀ o, Below w3.heap.size w3 (w3.alloc o) := fun o => (Below.refl _ _).alloc (Nat.le_refl _) o
          go_wp2_with (with_reducible refine At.slot 64 ?_)
          refine At.out (wpList_appA rfl (.tmp 61) (.tmp 63) 31 rfl elemB rfl G (.slice au j cu) j (B8 R) rfl (own_below hou (hst _)) _ 1 1 [.int .u8 (x.toNat : Int)] rfl rfl (Rd.one _ _ _) (one_int _ _) (by unfold maxLen; omega) (by omega) (by simp; omega) ?_)
          intro v4 w4 ho4 hb4 hg4 hat4
          have hgrow := (hO3.kept (hst _)).grow (by decide) i hlti _ v4 hu (R ++ [x]) (j + 1) (by rw [List.length_append, HRl.out]; rfl) (by rw [B8_append]; exact ho4) hg4 hat4
          rw [HC2.out] at hgrow
          have hout4 := own_grown (own_below hO3.outer (hst _)) (own_below hou (hst (.cells #[.int .u8 (x.toNat : Int)] 5))) (by decide) hg4
          have hcell4 : ∃ y, w4.cell? ⟨G, i, none⟩ = some y := ⟨_, (hout4.cellAt i (by omega)).trans hu⟩
          obtain ⟨y, hcell4⟩ := hcell4
          have hfr4 := hout4.frozenAt i
          have hcc4 : w4.ownsRow G 5 1 (.slice a2' B.length c2') B.length (B8 (colL B j)) := by
            refine (own_below hoc3 (hst _)).kept hg4 ?_
            rcases HP.out i _ hu with h | h
            · by_cases h0 : (Value.slice a2' B.length c2').ownBlock = none
              · exact .inl h0
              · exact .inr (fun e => h0 (e.trans h))
            · exact .inr (fun e => h e.symm)
          have hap4 : Hid (ApartV (vs.set i v4) (.slice a2' B.length c2')) := Lib.hid (by
            intro q u2 hq
            by_cases hqi : q = i
            · subst hqi
              rw [List.getElem?_set_self (by have := hO3.vlen; omega)] at hq
              cases hq
              rcases hat4 with e | e
              · rw [e]; exact HP.out q _ hu
              · right
                rw [e]
                intro e2
                rcases own_block hoc3 with h | ⟨g, C, fr, h, _, hh⟩
                · rw [h] at e2; cases e2
                · rw [h] at e2
                  have := (Array.getElem?_eq_some_iff.1 hh).1
                  simp at e2
                  omega
            · rw [List.getElem?_set_ne (fun h => hqi h.symm)] at hq
              exact HP.out q u2 hq)
          have hcc5 := own_setT hcc4 hout4 rfl (by decide) i v4
          have hb5 : Below G w (w4.setCell ⟨G, i, none⟩ v4) := ((hb3.alloc hGs3 _).trans hb4).setCell (p := ⟨G, i, none⟩) (Nat.le_refl _) v4
          have hGlt4 : G < w4.heap.size := by have := hb4.size; simp at this; omega
          obtain ⟨a4, c4, rfl, _⟩ := Rd.ofOwn ho4
          clear hO3 hoc3 hou hcu hfu ho4 hg4 hat4 hout4 hcc4 hb4 hb3 HC2 HP
          go_wp2
          go_roundw
          case rel => exact ⟨i + 1, _, by omega, by go_num, hgrow, hap4, hcc5, hb5⟩
          case measure => simp [intOf]; omega
        · obtain rfl : i = A.length := by omega
          rw [prodK_next] at hO
          go_wp2
          go_roundw
          case rel => exact ⟨j + 1, vs, by omega, by go_num, hO, hb⟩
          case measure => simp [intOf]; omega
    · obtain rfl : j = m := by omega
      rw [HM.out, prodK_done] at hO
      go_wp2
      go_ret2
      exact MxP.mk HG.out hO.ownLL hb
/-- Mul. -/
theorem mul_mx (w : World) (a1 a2 : Option Addr) (c1 c2 : Nat) (A B : Mx) (h1 : RdLL w a1 c1 A) (h2 : RdLL w a2 c2 B) :
    Calls Tryd.prog 13 #[.slice a1 A.length c1, .slice a2 B.length c2] w (MxP w (mulR A B)) := by
  unfold mulR
  by_cases h : IsM A ∧ IsM B ∧ wid A = B.length
  · rw [if_pos h]; exact mul_yes w a1 a2 c1 c2 A B h1 h2 h.1 h.2.1 h.2.2
  · rw [if_neg h]; exact mul_no w a1 a2 c1 c2 A B h1 h2 h
end Go.Proofs.YtngabeeeahidlaaDoor
