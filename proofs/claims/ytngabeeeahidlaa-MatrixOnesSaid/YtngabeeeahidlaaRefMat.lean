/- The document's Is, column, Mul, One: the contracts. Conditions: each contract's own premises. -/
import Derived.Test.YtngabeeeahidlaaMatOne
import Derived.Deep.RegionHeld3
namespace Go.Proofs.Ytngabeeeahidlaa
open Go Go.RowKit

set_option maxRecDepth 100000 in
set_option maxHeartbeats 2000000 in
theorem refIs_any (w : World) (a : Option Addr) (c : Nat) (A : Mx) (hr : RdLL w a c A) :
    Calls Try.prog 13 #[.slice a A.length c] w fun e w' => e = .returned (.bool (isMat A)) ∧ Qt w w' := by
  have hl := hr.le
  obtain ⟨r, hres⟩ : ∃ r, r = isMat A := ⟨_, rfl⟩
  rw [← hres]
  have HR := Lib.hid hres
  clear hres
  by_cases h1 : A.length < 1
  · have hf : r = false := by rw [HR.out]; exact isM_not (fun h => by have := h.1; omega)
    have hi : (A.length : Int) < 1 := by omega
    subst hf
    clear HR
    go_enter Try.func13, Try.ntmps13
    go_wp2
    go_ret
    exact ⟨rfl, Qt.refl _⟩
  by_cases h2 : 64 < A.length
  · have hf : r = false := by rw [HR.out]; exact isM_not (fun h => by have := h.2.1; omega)
    have hi : (64 : Int) < (A.length : Int) := by omega
    have hi2 : (1 : Int) ≤ (A.length : Int) := by omega
    subst hf
    clear HR
    go_enter Try.func13, Try.ntmps13
    go_wp2
    go_ret
    exact ⟨rfl, Qt.refl _⟩
  have hi1 : (1 : Int) ≤ (A.length : Int) := by omega
  have hi0 : (0 : Int) < (A.length : Int) := by omega
  have hi2 : (A.length : Int) ≤ 64 := by omega
  have hw0 := wid_get (A := A) (by omega)
  obtain ⟨b0, o0, ad0, cd0, rfl, hc0, hr0⟩ := hr.cell 0 (by omega)
  obtain ⟨n0, hn0⟩ : ∃ n, n = (A[0]'(by omega)).length := ⟨_, rfl⟩
  have hle0 := hr0.le
  rw [B8_length] at hle0
  simp only [← hn0] at hc0 hle0 hw0
  simp only [Nat.add_zero] at hc0
  have HW := Lib.hid hw0
  have HN0 := Lib.hid hn0
  clear hw0 hn0 hr0
  by_cases e2 : n0 < 1
  · have hf : Hid (r = false) := Lib.hid (by rw [HR.out]; exact isM_not (fun h => by have := h.wid1; have := HW.out; omega))
    have g2 : (n0 : Int) < 1 := by omega
    go_enter Try.func13, Try.ntmps13
    go_wp2
    go_ret
    exact ⟨ret_bool hf.out.symm, Qt.refl _⟩
  by_cases e3 : 64 < n0
  · have hf : Hid (r = false) := Lib.hid (by rw [HR.out]; exact isM_not (fun h => by have := h.wid1; have := HW.out; omega))
    have g2 : (1 : Int) ≤ (n0 : Int) := by omega
    have g3 : (64 : Int) < (n0 : Int) := by omega
    go_enter Try.func13, Try.ntmps13
    go_wp2
    go_ret
    exact ⟨ret_bool hf.out.symm, Qt.refl _⟩
  have g2 : (1 : Int) ≤ (n0 : Int) := by omega
  have g3 : (n0 : Int) ≤ 64 := by omega
  go_enter Try.func13, Try.ntmps13
  go_wp2
  go_loopw [3] (fun i wr => ∃ k q : Nat, 1 ≤ k ∧ k ≤ A.length ∧ i = .int .i64 k ∧ wr = w.drewN q ∧ Hid (∀ j (hj : j < A.length), j < k → (A[j]).length = n0)) (fun i _ => A.length - (intOf i).toNat)
  case atStart => exact ⟨1, 0, by omega, by omega, rfl, rfl, Lib.hid (fun j hj h => by have h0 : j = 0 := (by omega); subst h0; exact HN0.out.symm)⟩
  case round =>
    obtain ⟨k, q, hk1, hk, rfl, rfl, HK⟩ := hrel
    by_cases hlt : k < A.length
    · obtain ⟨b1, o1, ad1, cd1, he, hc1, hr1⟩ := hr.cell k hlt
      simp only [Option.some.injEq, Addr.mk.injEq, and_true] at he
      obtain ⟨rfl, rfl⟩ := he
      obtain ⟨n, hn⟩ : ∃ n, n = (A[k]).length := ⟨_, rfl⟩
      have hle := hr1.le
      rw [B8_length] at hle
      rw [← hn] at hc1 hle
      have HN := Lib.hid hn
      have hki : (k : Int) < (A.length : Int) := by omega
      clear hn hr1
      by_cases e1 : n = n0
      · have g1 : ((n : Int) != (n0 : Int)) = false := by rw [e1]; simp
        have HK' : Hid (∀ j (hj : j < A.length), j < k + 1 → (A[j]).length = n0) := Lib.hid (fun j hj h => by
          by_cases hjk : j = k
          · subst hjk; have := HN.out; omega
          · exact HK.out j hj (by omega))
        clear e1
        go_wp2
        go_quiet (fail)
        go_wp2
        go_roundw
        case rel => exact ⟨k + 1, _, by omega, by omega, by go_num, rfl, HK'⟩
        case measure => simp [intOf]; omega
      · have hf : Hid (r = false) := Lib.hid (by rw [HR.out]; exact isM_not (fun h => by have := h.2.2 (A[k]) (List.getElem_mem _); have := HN.out; have := HW.out; omega))
        have g1 : ((n : Int) != (n0 : Int)) = true := by rw [bne_iff_ne]; omega
        clear e1
        go_wp2
        go_quiet (fail)
        go_wp2
        go_ret
        exact ⟨ret_bool hf.out.symm, _, World.drewN_drewN _ _ _⟩
    · have hf : Hid (r = true) := Lib.hid (by rw [HR.out]; exact isM_rows (by omega) (by omega) (fun j hj => by have := HK.out j hj (by omega); have := HW.out; omega))
      go_wp2
      go_ret
      exact ⟨ret_bool hf.out.symm, q, rfl⟩

set_option maxRecDepth 100000 in
set_option maxHeartbeats 1000000 in
theorem refColumn_any (w : World) (a : Option Addr) (c : Nat) (A : Mx) (j : Nat) (hr : RdLL w a c A) (hA : A.length ≤ 1000000) (hj : ∀ r ∈ A, j < r.length) :
    Calls Try.prog 18 #[.slice a A.length c, .int .i64 (j : Int)] w fun e w' => ∃ v, e = .returned v ∧ w'.ownsRow w.heap.size 5 1 v A.length (B8 (colL A j)) ∧ Below w.heap.size w w' := by
  have HJ := Lib.hid hj
  clear hj
  go_enter Try.func18, Try.ntmps18
  go_wp2
  go_loopw [5, 6] (fun s5 s10 wr => ∃ k : Nat, k ≤ A.length ∧ s10 = .int .i64 k ∧ wr.ownsRow w.heap.size 5 1 s5 k (B8 (colL (A.take k) j)) ∧ Below w.heap.size w wr) (fun _ s10 _ => A.length - (intOf s10).toNat)
  case atStart => exact ⟨0, by omega, rfl, World.ownsRow_nil _ _ _ _, Below.refl _ _⟩
  case round =>
    obtain ⟨k, hk, rfl, ho, hb⟩ := hrel
    have hz := hb.size
    by_cases hlt : k < A.length
    · obtain ⟨b1, o1, ad1, cd1, rfl, hc1, hr1⟩ := (hr.kept hb).cell k hlt
      have hjl := HJ.out (A[k]) (List.getElem_mem _)
      obtain ⟨b2, o2, rfl, hc2⟩ := hr1.cs.b8 j hjl
      obtain ⟨x, hx⟩ : ∃ x, x = (A[k])[j] := ⟨_, rfl⟩
      have hle := hr1.le
      rw [B8_length] at hle
      have hct := colL_take A j k hlt x (by rw [List.getD_eq_getElem?_getD, List.getElem?_eq_getElem hjl, hx]; rfl)
      rw [← hx] at hc2
      obtain ⟨n, hn⟩ : ∃ n, n = (A[k]).length := ⟨_, rfl⟩
      rw [← hn] at hc1 hjl hle
      have HC := Lib.hid hct
      have hki : (k : Int) < (A.length : Int) := by omega
      have hji : (j : Int) < (n : Int) := by omega
      clear hct hx hn hr1
      go_wp2_with (with_reducible refine At.slot 22 ?_)
      refine At.out (wpList_app rfl (.tmp 13) (.tmp 21) 35 rfl elemB rfl w.heap.size _ k _ rfl (ho.alloc _) _ 1 1 [.int .u8 (x.toNat : Int)] rfl rfl (Rd.one _ _ _) (one_int _ _) (by unfold maxLen; omega) (by omega) (by simp; omega) ?_)
      intro v2 w2 ho2 hb2 _
      have hb2' : Below w.heap.size w w2 := (hb.alloc hz _).trans hb2
      have ho3 : w2.ownsRow w.heap.size 5 1 v2 (k + 1) (B8 (colL (A.take (k + 1)) j)) := by
        rw [HC.out, B8_append]; exact ho2
      clear ho ho2 hb2
      go_wp2
      go_roundw
      case rel => exact ⟨k + 1, by omega, by go_num, ho3, hb2'⟩
      case measure => simp [intOf]; omega
    · obtain rfl : k = A.length := by omega
      rw [List.take_length] at ho
      go_wp2
      go_ret
      exact ⟨_, rfl, ho, hb⟩

set_option maxRecDepth 100000 in
set_option maxHeartbeats 2000000 in
theorem refOne_any (w : World) (n : Int) : Calls Try.prog 12 #[.int .i64 n] w (MxP w (oneR n)) := by
  by_cases h1 : n < 1
  · rw [show oneR n = ([], 1) from if_pos (.inl h1)]
    go_enter Try.func12, Try.ntmps12
    go_wp2
    go_ret2
    exact MxP.no 1 (Below.refl _ _)
  by_cases h2 : 64 < n
  · rw [show oneR n = ([], 1) from if_pos (.inr h2)]
    go_enter Try.func12, Try.ntmps12
    go_wp2
    go_ret2
    exact MxP.no 1 (Below.refl _ _)
  obtain ⟨k, rfl⟩ : ∃ k : Nat, n = (k : Int) := ⟨n.toNat, by omega⟩
  have hres : oneR (k : Int) = (oneL k, 0) := by unfold oneR; rw [if_neg (by omega)]; rfl
  rw [hres]
  have hk1 : (1 : Int) ≤ (k : Int) := by omega
  have hk2 : (k : Int) ≤ 64 := by omega
  obtain ⟨G, hG⟩ : ∃ G, G = w.heap.size := ⟨_, rfl⟩
  have HG := Lib.hid hG
  have hGs0 : G ≤ w.heap.size := by omega
  clear hG hres h1 h2
  go_enter Try.func12, Try.ntmps12
  go_wp2
  go_loopw [4, 5] (fun s4 s5 wr => ∃ (i : Nat) (L : Mx), i ≤ k ∧ s5 = .int .i64 i ∧ OwnLL wr G 35 5 s4 L ∧ Hid (L = (List.range i).map (unitL k)) ∧ Below G w wr) (fun _ s5 _ => k - (intOf s5).toNat)
  case atStart => exact ⟨0, [], by omega, rfl, OwnLL.nil _ _ _ _, Lib.hid rfl, Below.refl _ _⟩
  case round =>
    obtain ⟨i, L, hi, rfl, hO, HL, hb⟩ := hrel
    have hGs : G ≤ wr.heap.size := Nat.le_trans hGs0 hb.size
    have hLl : L.length = i := by rw [HL.out]; simp
    by_cases hlt : i < k
    · have hii : (i : Int) < (k : Int) := by omega
      have HLl := Lib.hid hLl
      clear hLl
      go_wp2_with (with_reducible refine At.slot 19 ?_)
      refine At.out (wpList_make8 rfl (.tmp 18) (.tmp 18) 35 rfl elemB .i64 .i64 (k : Int) (k : Int) k rfl rfl rfl rfl (by omega) ?_)
      intro w2 ho2 hb2
      have hO2 := hO.kept hb2
      obtain ⟨gb, hgb⟩ : ∃ gb, gb = wr.heap.size := ⟨_, rfl⟩
      rw [← hgb] at ho2 hb2 hGs ⊢
      have hb2' : Below G w w2 := hb.trans (hb2.mono hGs)
      have hcb := own_cell8n ho2 i (by simpa using hlt)
      have hfb := ho2.frozenAt i
      simp only [List.getElem_replicate] at hcb
      have hset := own_set8n ho2 i 1
      rw [← unitL_eq] at hset
      have hb3 := hb2'.setCell (p := ⟨gb, i, none⟩) (show G ≤ gb from hGs) (.int .u8 ((1 : UInt8).toNat : Int))
      have hb23 : Below gb wr (w2.setCell ⟨gb, i, none⟩ (.int .u8 ((1 : UInt8).toNat : Int))) := hb2.setCell (p := ⟨gb, i, none⟩) (Nat.le_refl _) _
      have hO3 := hO.kept (show Below wr.heap.size wr _ from by rw [← hgb]; exact hb23)
      clear hb23
      have HGB := Lib.hid hgb
      clear hO hO2 hb2 hgb ho2
      go_wp2_with (with_reducible refine At.slot 25 ?_)
      obtain ⟨w3, hw3⟩ : ∃ w3, w3 = w2.setCell ⟨gb, i, none⟩ (.int .u8 1) := ⟨_, rfl⟩
      have e1 : (Value.int .u8 ((1 : UInt8).toNat : Int)) = .int .u8 1 := rfl
      rw [e1, ← hw3] at hO3 hset hb3
      rw [← hw3]
      have hGs3 : G ≤ w3.heap.size := Nat.le_trans hGs0 hb3.size
      clear hw3 hb2' hcb hfb
      refine At.out ?_
      go_wp2_with (with_reducible refine At.slot 26 ?_)
      obtain ⟨vs, hv1, hv2⟩ := hO3.kept ((Below.refl w3.heap.size w3).alloc (Nat.le_refl _) (.cells #[.slice (some ⟨gb, 0, none⟩) k k] 35))
      rw [HLl.out] at hv1
      refine At.out (wpList_app rfl (.tmp 23) (.tmp 25) 22 rfl elemR rfl G _ i vs rfl hv1 _ 1 1 [.slice (some ⟨gb, 0, none⟩) k k] rfl rfl (Rd.one _ _ _) (by intro u hu; rw [List.mem_singleton.1 hu]; rfl) (by unfold maxLen; omega) (by omega) (by simp; omega) ?_)
      intro v4 w4 hv3 hb4 hg4
      have hO4 := own_app (l := unitL k i) (by rw [HLl.out]; exact hv1) hv2 (own_len (own_base (hset.alloc _) hGs) (unitL_length k i).symm) (by decide) (by rw [HLl.out]; exact hv3) hg4
      have hb5 : Below G w w4 := (hb3.alloc hGs3 _).trans hb4
      have HL' : Hid (L ++ [unitL k i] = (List.range (i + 1)).map (unitL k)) := Lib.hid (by rw [HL.out, List.range_succ]; simp)
      clear hv1 hv2 hv3 hO3 hset hg4
      go_wp2
      go_roundw
      case rel => exact ⟨i + 1, _, by omega, by go_num, hO4, HL', hb5⟩
      case measure => simp [intOf]; omega
    · obtain rfl : i = k := by omega
      have hml : L = oneL i := HL.out
      rw [hml] at hO
      clear hml hLl
      go_wp2
      go_ret2
      exact MxP.mk HG.out hO hb

set_option maxRecDepth 100000 in
set_option maxHeartbeats 2000000 in
theorem refMul_no (w : World) (a1 a2 : Option Addr) (c1 c2 : Nat) (A B : Mx) (h1 : RdLL w a1 c1 A) (h2 : RdLL w a2 c2 B) (hno : ¬ (IsM A ∧ IsM B ∧ wid A = B.length)) :
    Calls Try.prog 8 #[.slice a1 A.length c1, .slice a2 B.length c2] w (MxP w ([], 1)) := by
  have hA := refIs_any w a1 c1 A h1
  have hB := fun n => refIs_any (w.drewN n) a2 c2 B (h2.kept (below_drewN (Below.refl _ _) n))
  by_cases iA : IsM A
  · rw [show isMat A = true from decide_eq_true iA] at hA
    by_cases iB : IsM B
    · simp only [show isMat B = true from decide_eq_true iB] at hB
      have hne : wid A ≠ B.length := fun h => hno ⟨iA, iB, h⟩
      obtain ⟨b0, o0, ad0, cd0, rfl, hc0, hr0⟩ := h1.cell 0 (by have := iA.1; omega)
      rw [← wid_get (by have := iA.1; omega)] at hc0
      simp only [Nat.add_zero] at hc0
      have hi : ((wid A : Int) != (B.length : Int)) = true := by rw [bne_iff_ne]; omega
      have hAi : (1 : Int) ≤ (A.length : Int) := by have := iA.1; omega
      have HA := Lib.hid hA
      have HB := Lib.hid hB
      clear hA hB hne hno hr0 iA iB
      go_enter Try.func8, Try.ntmps8
      go_wp2_with fail
      refine HA.out.mono ?_
      rintro e w' ⟨rfl, n, rfl⟩
      go_wp2_with fail
      refine (HB.out n).mono ?_
      rintro e w' ⟨rfl, n', rfl⟩
      go_wp2
      go_ret2
      exact MxP.no 1 (below_drewN (Below.refl _ _) _)
    · simp only [isM_not iB] at hB
      have HA := Lib.hid hA
      have HB := Lib.hid hB
      clear hA hB hno iA iB
      go_enter Try.func8, Try.ntmps8
      go_wp2_with fail
      refine HA.out.mono ?_
      rintro e w' ⟨rfl, n, rfl⟩
      go_wp2_with fail
      refine (HB.out n).mono ?_
      rintro e w' ⟨rfl, n', rfl⟩
      go_wp2
      go_ret2
      exact MxP.no 1 (below_drewN (Below.refl _ _) _)
  · rw [isM_not iA] at hA
    have HA := Lib.hid hA
    clear hA hB hno iA
    go_enter Try.func8, Try.ntmps8
    go_wp2_with fail
    refine HA.out.mono ?_
    rintro e w' ⟨rfl, n, rfl⟩
    go_wp2
    go_ret2
    exact MxP.no 1 (below_drewN (Below.refl _ _) n)

/-- A row of a product, when j numbers are laid. -/
def rowK (r : List UInt8) (B : Mx) (j : Nat) : List UInt8 := (List.range j).map fun q => gdot r (colL B q)
theorem rowK_succ (r : List UInt8) (B : Mx) (j : Nat) : rowK r B (j + 1) = rowK r B j ++ [gdot r (colL B j)] := by unfold rowK; rw [List.range_succ, List.map_append]; rfl
theorem mulL_take (A B : Mx) (i : Nat) (hi : i < A.length) : mulL (A.take (i + 1)) B = mulL (A.take i) B ++ [rowK (A[i]) B (wid B)] := by
  rw [List.take_succ_eq_append_getElem hi]
  unfold mulL
  rw [List.map_append]
  rfl

set_option maxRecDepth 100000 in
set_option maxHeartbeats 4000000 in
theorem refMul_yes (w : World) (a1 a2 : Option Addr) (c1 c2 : Nat) (A B : Mx) (h1 : RdLL w a1 c1 A) (h2 : RdLL w a2 c2 B) (iA : IsM A) (iB : IsM B) (hd : wid A = B.length) :
    Calls Try.prog 8 #[.slice a1 A.length c1, .slice a2 B.length c2] w (MxP w (mulL A B, 0)) := by
  have hA := refIs_any w a1 c1 A h1
  have hB := fun n => refIs_any (w.drewN n) a2 c2 B (h2.kept (below_drewN (Below.refl _ _) n))
  rw [show isMat A = true from decide_eq_true iA] at hA
  simp only [show isMat B = true from decide_eq_true iB] at hB
  have hA1 := iA.1
  have hA2 := iA.2.1
  have hB1 := iB.1
  have hB2 := iB.2.1
  have hwB := iB.wid1
  have hrowA := iA.dim.2
  have hrowB := iB.dim.2
  have hw0 := wid_get (A := A) (by omega)
  have hw1 := wid_get (A := B) (by omega)
  obtain ⟨b0, o0, ad0, cd0, rfl, hc0, hr0⟩ := h1.cell 0 (by omega)
  obtain ⟨b1, o1, ad1, cd1, rfl, hc1, hr1⟩ := h2.cell 0 (by omega)
  rw [← hw0, hd] at hc0
  rw [← hw1] at hc1
  simp only [Nat.add_zero] at hc0 hc1
  clear hr0 hr1 hw0 hw1
  have hlt1 : b1 < w.heap.size := World.block_lt_of_cell? w _ hc1
  obtain ⟨m, hm⟩ : ∃ m, m = wid B := ⟨_, rfl⟩
  rw [← hm] at hc1 hwB hrowB
  rw [hd] at hrowA
  have hki0 : ((B.length : Int) != (B.length : Int)) = false := by simp
  have hn1 : (1 : Int) ≤ (A.length : Int) := by omega
  have hk1 : (1 : Int) ≤ (B.length : Int) := by omega
  have hn2 : (A.length : Int) ≤ 64 := by omega
  have hm2 : (m : Int) ≤ 64 := by omega
  have HA := Lib.hid hA
  have HB := Lib.hid hB
  have HM := Lib.hid hm
  have HRA := Lib.hid hrowA
  have HRB := Lib.hid hrowB
  have HC1 := Lib.hid hc1
  clear hA hB iA iB hd hm hrowA hrowB hc1
  obtain ⟨G, hG⟩ : ∃ G, G = w.heap.size := ⟨_, rfl⟩
  have hGs0 : G ≤ w.heap.size := by omega
  have HG := Lib.hid hG
  clear hG
  go_enter Try.func8, Try.ntmps8
  go_wp2_with fail
  refine HA.out.mono ?_
  rintro e w' ⟨rfl, n, rfl⟩
  go_wp2_with fail
  refine (HB.out n).mono ?_
  rintro e w' ⟨rfl, n', rfl⟩
  go_wp2_with fail
  obtain ⟨W, hW⟩ : ∃ W, W = (w.drewN n).drewN n' := ⟨_, rfl⟩
  have hbW : Below G w W := by rw [hW]; exact below_drewN (below_drewN (Below.refl _ _) n) n'
  first
    | rw [← hW]
    | (rw [World.drewN_drewN] at hW; rw [← hW])
  clear hW HA HB hc0
  go_loopw [6, 7] (fun s6 s7 wr => ∃ (i : Nat), i ≤ A.length ∧ s7 = .int .i64 i ∧ OwnLL wr G 35 5 s6 (mulL (A.take i) B) ∧ Below G w wr) (fun _ s7 _ => A.length - (intOf s7).toNat)
  case atStart => exact ⟨0, by omega, rfl, OwnLL.nil _ _ _ _, hbW⟩
  case round =>
    clear hbW
    obtain ⟨i, hi, rfl, hO, hb⟩ := hrel
    by_cases hlti : i < A.length
    · have hii : (i : Int) < (A.length : Int) := by omega
      obtain ⟨v6, hv6⟩ : ∃ v : Value, OwnLL wr G 35 5 v (mulL (A.take i) B) := ⟨_, hO⟩
      clear hv6
      go_wp2_with fail
      obtain ⟨wo, hwo⟩ : ∃ wo : World, wo = wr := ⟨_, rfl⟩
      rw [← hwo] at hO hb ⊢
      clear hwo
      go_loopw [8, 9] (fun s8 s9 wr => ∃ (j : Nat), j ≤ m ∧ s9 = .int .i64 j ∧ wr.ownsRow wo.heap.size 5 1 s8 j (B8 (rowK (A[i]) B j)) ∧ Below wo.heap.size wo wr) (fun _ s9 _ => m - (intOf s9).toNat)
      case atStart => exact ⟨0, by omega, rfl, World.ownsRow_nil _ _ _ _, Below.refl _ _⟩
      case round =>
        obtain ⟨j, hj, rfl, hor, hb2⟩ := hrel
        have hbw : Below G w wr := hb.trans (hb2.mono (Nat.le_trans hGs0 hb.size))
        have hGs : G ≤ wr.heap.size := Nat.le_trans hGs0 hbw.size
        have hc1 := (hbw.cell (p := ⟨b1, o1, none⟩) (by have := HG.out; simp; omega)).trans HC1.out
        by_cases hltj : j < m
        · have hji : (j : Int) < (m : Int) := by omega
          obtain ⟨b3, o3, ad3, cd3, he, hc3, hr3⟩ := (h1.kept (HG.out ▸ hbw : Below w.heap.size w wr)).cell i hlti
          simp only [Option.some.injEq, Addr.mk.injEq, and_true] at he
          obtain ⟨rfl, rfl⟩ := he
          have hrl := HRA.out (A[i]) (List.getElem_mem _)
          obtain ⟨x, hx⟩ : ∃ x, x = gdot (A[i]) (colL B j) := ⟨_, rfl⟩
          have hlt0 : b0 < wr.heap.size := World.block_lt_of_cell? wr _ hc3
          have hcol := refColumn_any wr.drew (some ⟨b1, o1, none⟩) c2 B j ((h2.kept (HG.out ▸ hbw : Below w.heap.size w wr)).kept (Below.refl _ _).drew) (by omega) (fun r hr => by have := HRB.out r hr; omega)
          have hdot : ∀ (W : World) (v : Value), Below wr.heap.size wr W → W.ownsRow wr.drew.heap.size 5 1 v B.length (B8 (colL B j)) → Calls Try.prog 17 #[.slice ad3 B.length cd3, v] W fun e w' => e = .returned (.tuple #[.int .u8 (x.toNat : Int), .int .i64 0]) ∧ Qt W w' := by
            intro W v hbW ho
            obtain ⟨av, cv, rfl, hrv⟩ := Rd.ofOwn ho
            have := refDot_any W ad3 av cd3 cv (A[i]) (colL B j) (hr3.kept hbW) hrv
            rw [colL_length, hrl] at this
            refine this.mono ?_
            rintro e w' ⟨rfl, hq⟩
            refine ⟨?_, hq⟩
            unfold dotV
            rw [if_pos (by rw [hrl, colL_length]), hx]
          rw [hrl] at hc3
          have hrs := rowK_succ (A[i]) B j
          rw [← hx] at hrs
          have HCol := Lib.hid hcol
          have HDot := Lib.hid hdot
          have HRS := Lib.hid hrs
          have hKE : ∀ V, Below wr.heap.size wr V → V.cell? ⟨b0, o0 + i, none⟩ = some (.slice ad3 B.length cd3) ∧ Below wr.heap.size wr V := fun V hb => ⟨(hb.cell (p := ⟨b0, o0 + i, none⟩) hlt0).trans hc3, hb⟩
          have KE := Lib.hid hKE
          have hS0 : Below wr.heap.size wr wr.drew := (Below.refl _ _).drew
          clear hrl hx hr3 hcol hdot hrs hKE
          go_wp2_with fail
          go_region_held3 (fun V => V.cell? ⟨b0, o0 + i, none⟩ = some (.slice ad3 B.length cd3) ∧ Below wr.heap.size wr V)
            (first
              | exact KE.out _ hS0
              | exact KE.out _ hbA
              | exact KE.out _ hbB)
            (first
              | (go_at_call 18; refine HCol.out.mono ?_; rintro e wA ⟨vA, rfl, hoA, hbA'⟩
                 have hbA : Below wr.heap.size wr wA := hS0.trans (hbA'.mono (by simp)))
              | (go_at_call 17; refine (HDot.out _ _ hbA hoA).mono ?_; rintro e wB ⟨rfl, hqB⟩
                 have hbB : Below wr.heap.size wr wB := hbA.trans (hqB.below _)))
          have hor2 := own_below hor hbB
          have hGsB : G ≤ wB.heap.size := Nat.le_trans hGs hbB.size
          have hb2B : Below wo.heap.size wo wB := hb2.trans (hbB.mono hb2.size)
          clear hor hbA' hoA hbA hc1 hc3 hqB hS0
          go_wp2_with (with_reducible refine At.slot 57 ?_)
          refine At.out (wpList_app rfl (.tmp 54) (.tmp 56) 35 rfl elemB rfl wo.heap.size _ j _ rfl (hor2.alloc _) _ 1 1 [.int .u8 (x.toNat : Int)] rfl rfl (Rd.one _ _ _) (one_int _ _) (by unfold maxLen; omega) (by omega) (by have := hb2B.size; simp; omega) ?_)
          intro v4 w4 ho4 hb4 _
          have hb24 : Below wo.heap.size wo w4 := (hb2B.alloc hb2B.size _).trans hb4
          have ho5 : w4.ownsRow wo.heap.size 5 1 v4 (j + 1) (B8 (rowK (A[i]) B (j + 1))) := by
            rw [HRS.out, B8_append]; exact ho4
          clear ho4 hb4 hor2 hb2B
          go_wp2
          go_roundw
          case rel => exact ⟨j + 1, by omega, by go_num, ho5, hb24⟩
          case measure => simp [intOf]; omega
        · obtain rfl : j = m := by omega
          have hlen : (mulL (A.take i) B).length = i := by simp [mulL]; omega
          have hrk : (rowK (A[i]) B j).length = j := by simp [rowK]
          have hnx := mulL_take A B i hlti
          rw [← HM.out] at hnx
          have hOr := hO.kept hb2
          have hor' := own_base hor (Nat.le_trans hGs0 hb.size)
          obtain ⟨ar, cr, rfl, _⟩ := Rd.ofOwn hor'
          have HLen := Lib.hid hlen
          have HRk := Lib.hid hrk
          have HNx := Lib.hid hnx
          clear hlen hrk hnx hO hor
          go_wp2_with (with_reducible refine At.slot 61 ?_)
          obtain ⟨vs, hv1, hv2⟩ := hOr.kept ((Below.refl wr.heap.size wr).alloc (Nat.le_refl _) (.cells #[.slice ar j cr] 35))
          refine At.out (wpList_app rfl (.tmp 58) (.tmp 60) 22 rfl elemR rfl G _ i vs rfl (own_len hv1 HLen.out) _ 1 1 [.slice ar j cr] rfl rfl (Rd.one _ _ _) (by intro u hu; rw [List.mem_singleton.1 hu]; exact own_one hor') (by unfold maxLen; omega) (by omega) (by simp; omega) ?_)
          intro v4 w4 hv3 hb4 hg4
          have hO4 := own_app (l := rowK (A[i]) B j) hv1 hv2 (own_len (hor'.alloc _) HRk.out.symm) (by decide) (by rw [HLen.out]; exact hv3) hg4
          rw [← HNx.out] at hO4
          have hb5 : Below G w w4 := (hbw.alloc hGs _).trans hb4
          clear hv1 hv2 hv3 hOr hor' hg4 hb4
          go_wp2
          go_roundw
          case rel => exact ⟨i + 1, by omega, by go_num, hO4, hb5⟩
          case measure => simp [intOf]; omega
    · obtain rfl : i = A.length := by omega
      rw [List.take_length] at hO
      go_wp2
      go_ret2
      exact MxP.mk HG.out hO hb
/-- The document's Mul. -/
theorem refMul_mx (w : World) (a1 a2 : Option Addr) (c1 c2 : Nat) (A B : Mx) (h1 : RdLL w a1 c1 A) (h2 : RdLL w a2 c2 B) :
    Calls Try.prog 8 #[.slice a1 A.length c1, .slice a2 B.length c2] w (MxP w (mulR A B)) := by
  unfold mulR
  by_cases h : IsM A ∧ IsM B ∧ wid A = B.length
  · rw [if_pos h]; exact refMul_yes w a1 a2 c1 c2 A B h1 h2 h.1 h.2.1 h.2.2
  · rw [if_neg h]; exact refMul_no w a1 a2 c1 c2 A B h1 h2 h
end Go.Proofs.Ytngabeeeahidlaa
