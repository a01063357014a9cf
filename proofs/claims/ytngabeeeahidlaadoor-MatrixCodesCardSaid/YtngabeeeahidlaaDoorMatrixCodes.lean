/- The law MatrixCodes: the walk. Conditions: the table of math/bits. -/
import Derived.Test.YtngabeeeahidlaaDoorMatLaw
import Derived.Test.YtngabeeeahidlaaDoorInv
import Derived.Test.YtngabeeeahidlaaDoorRefCode
import Derived.Test.YtngabeeeahidlaaDoorRefSc
import Derived.Test.YtngabeeeahidlaaDoorCauchy
import Derived.Test.YtngabeeeahidlaaDoorIdx
import Derived.Deep.RegionHeld3
import Derived.Deep.CutRange
namespace Go.Proofs.YtngabeeeahidlaaDoor
open Go Go.RowKit

/-- Numbers of rows as the model's numbers. -/
def NZ (L : List Nat) : List Int := L.map fun (q : Nat) => (q : Int)
theorem NZ_length (L : List Nat) : (NZ L).length = L.length := by simp [NZ]
theorem BI_NZ_length (L : List Nat) : (BI (NZ L)).length = L.length := by rw [BI_length, NZ_length]
theorem BI_NZ_get (L : List Nat) (j : Nat) (hj : j < L.length) : (BI (NZ L))[j]? = some (.int .i64 ((L[j] : Nat) : Int)) := by
  unfold BI NZ
  rw [List.getElem?_map, List.getElem?_map, List.getElem?_eq_getElem hj]
  rfl
/-- The rows that were picked, and those that are left. -/
structure Pk (k m : Nat) (R L : List Nat) : Prop where
  len : R.length + L.length = k + m
  nodup : (R ++ L).Nodup
  lt : ∀ q ∈ R ++ L, q < k + m
theorem Pk.start (k m : Nat) : Pk k m [] (List.range (k + m)) := ⟨by simp, by simpa using List.nodup_range, fun q hq => by simpa using hq⟩
theorem Pk.next {k m : Nat} {R L : List Nat} (h : Pk k m R L) (j : Nat) (hj : j < L.length) : Pk k m (R ++ [L[j]]) (L.eraseIdx j) := by
  have hp : (R ++ [L[j]] ++ L.eraseIdx j).Perm (R ++ L) := by
    rw [List.append_assoc]
    refine List.Perm.append_left R ?_
    have e : L = L.take j ++ L[j] :: L.drop (j + 1) := by rw [List.getElem_cons_drop, List.take_append_drop]
    rw [List.eraseIdx_eq_take_drop_succ]
    conv => rhs; rw [e]
    exact (List.perm_middle (l₁ := L.take j)).symm
  refine ⟨?_, hp.nodup_iff.2 h.nodup, fun q hq => h.lt q (hp.mem_iff.1 hq)⟩
  have := hp.length_eq
  simp only [List.length_append] at this
  have := h.len
  simp only [List.length_append]
  omega
theorem erase_parts (L : List Nat) (j : Nat) : BI (NZ (L.eraseIdx j)) = (BI (NZ L)).take j ++ (BI (NZ L)).drop (j + 1) := by
  rw [List.eraseIdx_eq_take_drop_succ]
  simp [BI, NZ]
theorem BI_NZ_take (L : List Nat) (j : Nat) : (BI (NZ L)).take j = BI (NZ (L.take j)) := by simp [BI, NZ]
theorem BI_NZ_drop (L : List Nat) (j : Nat) : (BI (NZ L)).drop j = BI (NZ (L.drop j)) := by simp [BI, NZ]
theorem NZ_range (n : Nat) : BI (NZ (List.range (n + 1))) = BI (NZ (List.range n)) ++ [.int .i64 (n : Int)] := by
  rw [List.range_succ]; simp [BI, NZ]
theorem rd_drop {w : World} {b o c : Nat} {xs : List Value} (h : Rd w (some ⟨b, o, none⟩) c xs) (k : Nat) (hk : k ≤ xs.length) : Rd w (some ⟨b, o + k, none⟩) (c - k) (xs.drop k) := by
  obtain ⟨h1, h2, _, h4⟩ := h
  refine ⟨by rw [List.length_drop]; omega, by omega, fun e => by simp at e, fun j u hu => ?_⟩
  rw [List.getElem?_drop] at hu
  obtain ⟨b', o', he, hc⟩ := h4 (k + j) u hu
  simp only [Option.some.injEq, Addr.mk.injEq, and_true] at he
  obtain ⟨rfl, rfl⟩ := he
  exact ⟨_, _, rfl, by rw [Nat.add_assoc]; exact hc⟩
/-- Any k rows of the code have an inverse. -/
theorem pick_inv {k m : Nat} {R L B} {f : Nat} (hk : 1 ≤ k) (hkm : k + m ≤ 14) (h : Pk k m R L) (hR : R.length = k) (hi : InvOk (pickM k m R) B f) : f = 0 := by
  have hlt : ∀ r ∈ R, r < k + m := fun r hr => h.lt r (by simp [hr])
  have hd := pickM_dim (k := k) (m := m) hlt
  rw [hR] at hd
  have hn : R.Nodup := (List.nodup_append.1 h.nodup).1
  rcases hi with ⟨hno, _⟩ | ⟨h1, h2, ⟨_, _, hf⟩ | ⟨h0, _⟩⟩
  · exact absurd ⟨hd.isM hk (by omega) hk (by omega), by rw [hd.wid hk, hd.1]⟩ hno
  · rw [hd.1] at hf
    exact (code_reg hn hR hlt hkm hf).elim
  · exact h0

set_option maxRecDepth 100000 in
set_option maxHeartbeats 4000000 in
theorem matrixCodes_no (k m : Int) (a2 : Option Addr) (c2 : Nat) (l : List Int) (w : World) (hk : -9223372036854775808 ≤ k ∧ k ≤ 9223372036854775807) (hm : -9223372036854775808 ≤ m ∧ m ≤ 9223372036854775807) (hl : l.length ≤ 9223372036854775807)
    (h : codeBad k m = true ∨ 100 < l.length) :
    Calls Tryd.prog 3 #[.int .i64 k, .int .i64 m, .slice a2 l.length c2] w fun e w' => e = .returned (.bool true) ∧ Below w.heap.size w w' := by
  have hC := code_any w k m hk hm
  have hD := fun W => refCode_any W k m
  obtain ⟨C, f, hcf⟩ : ∃ C f, codeR k m = (C, f) := ⟨_, _, rfl⟩
  rw [hcf] at hC
  simp only [hcf] at hD
  have hf : ((f : Int) != 0) = true ∨ ((f : Int) != 0) = false ∧ (100 : Int) < (l.length : Int) := by
    by_cases h0 : f = 0
    · right
      subst h0
      refine ⟨by simp, ?_⟩
      rcases h with h | h
      · unfold codeR at hcf; rw [if_pos h] at hcf; simp at hcf
      · omega
    · left; rw [bne_iff_ne]; omega
  have HC := Lib.hid hC
  have HD := Lib.hid hD
  clear hC hD hcf h hk hm
  rcases hf with hf | ⟨hf, hl2⟩
  all_goals
    go_enter Tryd.func3, Tryd.ntmps3
    go_wp2_with fail
    refine HC.out.mono ?_
    intro e w1 h
    obtain ⟨ac, cc, rfl, hrc, hb1⟩ := MxP.rd h
    clear h
    go_wp2_with fail
    refine (HD.out w1).mono ?_
    intro e w2 h
    obtain ⟨ad, cd, rfl, hrd, hb2⟩ := MxP.rd h
    clear h
    go_wp2_with fail
    refine (rows_true w2 ac ad cc cd C (hrc.kept hb2) hrd).mono ?_
    rintro e w3 ⟨rfl, hq3⟩
    have hb3 : Below w.heap.size w w3 := (hb1.trans (hb2.mono hb1.size)).trans (hq3.below _)
    clear hrc hrd hb2 hq3 hb1
    go_wp2_with fail
    refine (matKnown_any _).mono ?_
    rintro e w8 ⟨rfl, hb8⟩
    go_wp2
    go_ret
    exact ⟨rfl, hb3.trans (hb8.mono hb3.size)⟩

set_option maxRecDepth 100000 in
set_option maxHeartbeats 8000000 in
theorem matrixCodes_yes (k m : Nat) (a2 : Option Addr) (c2 : Nat) (l : List Int) (w : World) (hk : 1 ≤ k) (hkm : k + m ≤ 14) (hl : l.length ≤ 100) (hr : Rd w a2 c2 (BI l)) (hT : TabAt 0 Lib.deBruijn64tab w) :
    Calls Tryd.prog 3 #[.int .i64 k, .int .i64 m, .slice a2 l.length c2] w fun e w' => e = .returned (.bool true) ∧ Below w.heap.size w w' := by
  have hC := code_any w k m (by omega) (by omega)
  have hD := fun W => refCode_any W (k : Int) (m : Int)
  have hcode : codeR k m = (codeL k m, 0) := by
    unfold codeR
    rw [if_neg (by unfold codeBad; simp; omega)]; rfl
  rw [hcode] at hC
  simp only [hcode] at hD
  have hCl : (codeL k m).length = k + m := (codeL_dim k m).1
  obtain ⟨C, hCe⟩ : ∃ C, C = codeL k m := ⟨_, rfl⟩
  rw [← hCe] at hC hCl
  simp only [← hCe] at hD
  have HC := Lib.hid hC
  have HD := Lib.hid hD
  have HCE := Lib.hid hCe
  have HCL := Lib.hid hCl
  have HT := Lib.hid hT
  have hl2 : (l.length : Int) ≤ 100 := by omega
  have hbT : 0 < w.heap.size := World.block_lt_of_cell? w _ (hT 0 (by decide))
  clear hC hD hCe hCl hT hcode
  go_enter Tryd.func3, Tryd.ntmps3
  go_wp2_with fail
  refine HC.out.mono ?_
  intro e w1 h
  obtain ⟨ac, cc, rfl, hrc, hb1⟩ := MxP.rd h
  clear h
  go_wp2_with fail
  refine (HD.out w1).mono ?_
  intro e w2 h
  obtain ⟨ad, cd, rfl, hrd, hb2⟩ := MxP.rd h
  clear h
  go_wp2_with fail
  refine (rows_true w2 ac ad cc cd C (hrc.kept hb2) hrd).mono ?_
  rintro e w3 ⟨rfl, hq3⟩
  have hb3 : Below w.heap.size w w3 := (hb1.trans (hb2.mono hb1.size)).trans (hq3.below _)
  have hrc3 := (hrc.kept hb2).kept (hq3.below _)
  have hrC : RdLL w3 ac cc C := hrc3
  obtain ⟨B, hB⟩ : ∃ B, B = w3.heap.size := ⟨_, rfl⟩
  have hbs : Below B w3 w3 := Below.refl _ _
  have hsz : w.heap.size ≤ B := by rw [hB]; exact hb3.size
  have HB := Lib.hid hB
  clear hrc hrd hb2 hq3 hb1 hrc3 hB HC HD
  go_wp2_with fail
  go_loopw [11, 12] (fun s11 s12 wr => ∃ i : Nat, i ≤ k + m ∧ s12 = .int .i64 i ∧ wr.ownsRow B 3 1 s11 i (BI (NZ (List.range i))) ∧ Below B w3 wr) (fun _ s12 _ => k + m - (intOf s12).toNat)
  case atStart => exact ⟨0, by omega, rfl, World.ownsRow_nil _ _ _ _, hbs⟩
  case round =>
    clear hbs
    obtain ⟨i, hi, rfl, ho, hb⟩ := hrel
    have hz : B ≤ wr.heap.size := by have := hb.size; have := HB.out; omega
    by_cases hlt : i < k + m
    · have hii : (i : Int) < (k : Int) + (m : Int) := by omega
      go_wp2_with (with_reducible refine At.slot 57 ?_)
      refine At.out (wpList_app rfl (.tmp 54) (.tmp 56) 22 rfl elemI rfl B _ i _ rfl (ho.alloc _) _ 1 1 [.int .i64 (i : Int)] rfl rfl (Rd.one _ _ _) (one_int _ _) (by unfold maxLen; omega) (by omega) (by simp; omega) ?_)
      intro v4 w4 ho4 hb4 _
      have hb5 := (hb.alloc hz _).trans hb4
      rw [← NZ_range] at ho4
      clear ho hb hb4
      go_wp2
      go_roundw
      case rel => exact ⟨i + 1, by omega, by go_num, ho4, hb5⟩
      case measure => simp [intOf]; omega
    · obtain rfl : i = k + m := by omega
      have hnl : ¬ (k : Int) + (m : Int) < (k : Int) + (m : Int) := by omega
      have hpk := Pk.start k m
      have HPK := Lib.hid hpk
      have hvs : ∀ (r q : Nat), ([] : List Nat)[r]? = some q → ∃ ad cd, ([] : List Value)[r]? = some (.slice ad k cd) ∧ Rd w3 ad cd (B8 ((codeL k m).getD q [])) := fun r q h => by simp at h
      have HVS := Lib.hid hvs
      obtain ⟨lr, hlr⟩ : ∃ L, L = List.range (k + m) := ⟨_, rfl⟩
      have hlrl : k + m = lr.length := by rw [hlr]; simp
      rw [← hlr] at HPK ho
      have ho := own_len ho hlrl
      clear hpk hvs hlr hlrl
      go_wp2_with fail
      go_loopw [11, 13, 14] (fun s11 s13 s14 wr => ∃ (i : Nat) (R L : List Nat) (vs : List Value), i ≤ k ∧ s14 = .int .i64 i ∧ wr.ownsRow B 3 1 s11 L.length (BI (NZ L)) ∧ wr.ownsRow B 31 1 s13 i vs ∧ Hid (Pk k m R L) ∧ R.length = i ∧
        Hid (∀ (r q : Nat), R[r]? = some q → ∃ ad cd, vs[r]? = some (.slice ad k cd) ∧ Rd w3 ad cd (B8 ((codeL k m).getD q []))) ∧ Below B w3 wr) (fun _ _ s14 _ => k - (intOf s14).toNat)
      case atStart => exact ⟨0, [], lr, [], by omega, rfl, ho, World.ownsRow_nil _ _ _ _, HPK, rfl, HVS, hb⟩
      case round =>
        clear ho HPK HVS hb hz
        obtain ⟨i, R, L, vs, hi, rfl, ho, hs, HPK, hRl, HVS, hb⟩ := hrel
        have hz : B ≤ wr.heap.size := by have := hb.size; have := HB.out; omega
        by_cases hilt : i < k
        · have hii : (i : Int) < (k : Int) := by omega
          have hLl : L.length = k + m - i := by have := HPK.out.len; omega
          have HRL := Lib.hid hRl
          obtain ⟨a11, c11, rfl, hrL⟩ := Rd.ofOwn ho
          obtain ⟨a13, c13, rfl, _⟩ := Rd.ofOwn hs
          obtain ⟨n, hn⟩ : ∃ n, n = L.length := ⟨_, rfl⟩
          rw [← hn] at ho hLl ⊢
          have hn1 : 1 ≤ n := by omega
          have hn2 : n ≤ 14 := by omega
          have HN := Lib.hid hn
          clear hRl hLl hn
          go_upto_if 66 with (fail)
          go_cut [15] from 58 to 99 (fun s15 wx => ∃ t : Int, -(n : Int) < t ∧ t < (n : Int) ∧ s15 = .int .i64 t ∧ wx = wr)
          case first =>
            by_cases hil : i < l.length
            · have hili : (i : Int) < (l.length : Int) := by omega
              obtain ⟨t, ht⟩ : ∃ t, t = l[i] := ⟨_, rfl⟩
              obtain ⟨b5, o5, rfl, hc5⟩ := (hr.kept (hb3.trans (hb.mono hsz))).cs i (.int .i64 t) (by unfold BI; rw [List.getElem?_map, List.getElem?_eq_getElem hil, ht]; rfl)
              have hwr := place_wrap (at' := t) (show 0 < n by omega) (by omega)
              have hnz : ¬ (n : Int) = 0 := by omega
              have h1 := Int.lt_tmod_of_pos t (show (0 : Int) < n by omega)
              have h2 := Int.tmod_lt_of_pos t (show (0 : Int) < n by omega)
              have H1 := Lib.hid h1
              have H2 := Lib.hid h2
              clear ht h1 h2
              go_wp2_with fail
              go_meet
              exact ⟨_, H1.out, H2.out, rfl, rfl⟩
            · have hili : (l.length : Int) ≤ (i : Int) := by omega
              go_wp2_with fail
              go_meet
              exact ⟨0, by omega, by omega, rfl, rfl⟩
          case rest =>
            obtain ⟨t, ht1, ht2, rfl, rfl⟩ := hcut
            go_upto_if 75 with (fail)
            go_cut [15] from 58 to 99 (fun s15 wx => ∃ j : Nat, j < n ∧ s15 = .int .i64 j ∧ wx = wc)
            case first =>
              by_cases h0 : t < 0
              · go_wp2_with fail
                go_meet
                exact ⟨(t + n).toNat, by omega, by go_num, rfl⟩
              · have h0' : 0 ≤ t := by omega
                clear h0
                go_wp2_with fail
                go_meet
                exact ⟨t.toNat, by omega, by go_num, rfl⟩
            case rest =>
              obtain ⟨j, hj, rfl, rfl⟩ := hcut
              clear ht1 ht2
              have hji : (j : Int) < (n : Int) := by omega
              obtain ⟨q, hq⟩ : ∃ q, q = L[j]'(by have := HN.out; omega) := ⟨_, rfl⟩
              have hql : q < k + m := by
                refine HPK.out.lt q ?_
                rw [hq]
                exact List.mem_append_right _ (List.getElem_mem _)
              have hcj := hrL.cs j _ (BI_NZ_get L j (by have := HN.out; omega))
              rw [← hq] at hcj
              obtain ⟨b6, o6, he6, hc6⟩ := hcj
              subst he6
              obtain ⟨b7, o7, ad7, cd7, he7, hc7, hr7⟩ := hrC.cell q (by rw [HCL.out]; exact hql)
              subst he7
              have hlt7 : b7 < B := by rw [HB.out]; exact World.block_lt_of_cell? w3 _ hc7
              have hcc7 := (hb.cell (p := ⟨b7, o7 + q, none⟩) hlt7).trans hc7
              have hCq : C[q]'(by rw [HCL.out]; exact hql) = (codeL k m).getD q [] := by
                have hce := HCE.out
                subst hce
                rw [List.getD_eq_getElem?_getD, List.getElem?_eq_getElem]; rfl
              have hCqn : (C[q]'(by rw [HCL.out]; exact hql)).length = k := by
                refine (codeL_dim k m).2 _ ?_
                rw [← HCE.out]
                exact List.getElem_mem _
              rw [hCqn] at hcc7
              rw [hCq] at hr7
              have hpk2 := HPK.out.next j (by have := HN.out; omega)
              rw [← hq] at hpk2
              have HVS2 : Hid (∀ (r p : Nat), (R ++ [q])[r]? = some p → ∃ ad cd, (vs ++ [.slice ad7 k cd7])[r]? = some (.slice ad k cd) ∧ Rd w3 ad cd (B8 ((codeL k m).getD p []))) := Lib.hid (fun r p hp => by
                have hvl : vs.length = i := by simpa using hs.1
                by_cases e : r < i
                · rw [List.getElem?_append_left (by rw [HRL.out]; exact e)] at hp
                  obtain ⟨ad, cd, h1, h2⟩ := HVS.out r p hp
                  exact ⟨ad, cd, by rw [List.getElem?_append_left (by omega)]; exact h1, h2⟩
                · have hr : r = i := by
                    have := (List.getElem?_eq_some_iff.1 hp).1
                    rw [List.length_append, HRL.out] at this
                    simp at this
                    omega
                  subst hr
                  rw [List.getElem?_append_right (by rw [HRL.out]; exact Nat.le_refl _), HRL.out, Nat.sub_self] at hp
                  have hpq : q = p := by simpa using hp
                  subst hpq
                  exact ⟨ad7, cd7, by rw [List.getElem?_append_right (by omega), hvl, Nat.sub_self]; rfl, hr7⟩)
              have HPK2 := Lib.hid hpk2
              have HQL := Lib.hid hql
              have hqi : (q : Int) < (C.length : Int) := by rw [HCL.out]; omega
              clear hc7 hCq hCqn hpk2 hq hql
              go_wp2_with (with_reducible refine At.slot 89 ?_)
              refine At.out (wpList_app rfl (.tmp 80) (.tmp 88) 23 rfl elemR rfl B _ i vs rfl (hs.alloc _) _ 1 1 [.slice ad7 k cd7] rfl rfl (Rd.one _ _ _) (by intro u hu; rw [List.mem_singleton.1 hu]; rfl) (by unfold maxLen; omega) (by omega) (by simp; omega) ?_)
              intro v4 w4 ho4 hb4 hg4
              have hoL := own_grown (ho.alloc (.cells #[.slice ad7 k cd7] 31)) (hs.alloc (.cells #[.slice ad7 k cd7] 31)) (by decide) hg4
              have hb5 := (hb.alloc hz _).trans hb4
              have hz4 : B ≤ w4.heap.size := by have := hb5.size; have := HB.out; omega
              have hrL4 : Rd w4 (some ⟨b6, o6, none⟩) c11 (BI (NZ L)) := Rd.ownS hoL
              have hRt : Rd w4 (some ⟨b6, o6, none⟩) c11 (BI (NZ (L.take j))) := by rw [← BI_NZ_take]; exact hrL4.take j
              have hRd : Rd w4 (some ⟨b6, o6 + (j + 1), none⟩) (c11 - (j + 1)) (BI (NZ (L.drop (j + 1)))) := by rw [← BI_NZ_drop]; exact rd_drop hrL4 (j + 1) (by rw [BI_NZ_length]; have := HN.out; omega)
              have hcap : n ≤ c11 := by have := hrL4.1; rw [BI_NZ_length] at this; have := HN.out; omega
              have hcm : c11 ≤ 9223372036854775807 := by have := hrL4.2.1; unfold maxLen at this; exact this
              have htl : (L.take j).length = j := by rw [List.length_take]; have := HN.out; omega
              have hdl : (L.drop (j + 1)).length = n - (j + 1) := by rw [List.length_drop]; have := HN.out; omega
              have hep := erase_parts L j
              rw [BI_NZ_take, BI_NZ_drop] at hep
              have hel : (L.eraseIdx j).length = n - 1 := by rw [List.length_eraseIdx, if_pos (by have := HN.out; omega)]; have := HN.out; omega
              have hdz : wc.heap.size = wc.heap.size := rfl
              have hS0 : Below w4.heap.size w4.drew w4.drew := Below.refl _ _
              have hS0a : ∀ o, Below w4.heap.size w4.drew (w4.drew.alloc o) := fun o => hS0.alloc (by simp) o
              have hdz1 : w4.heap.size ≤ w4.drew.heap.size := by simp
              have hRt2 : ∀ o, Rd (w4.drew.alloc o) (some ⟨b6, o6, none⟩) c11 (BI (NZ (L.take j))) := fun o => (hRt.kept (Below.refl _ _).drew).kept (hS0a o)
              have hRd2 : ∀ V, Below w4.heap.size w4.drew V → Rd V (some ⟨b6, o6 + (j + 1), none⟩) (c11 - (j + 1)) (BI (NZ (L.drop (j + 1)))) := fun V hv => (hRd.kept (Below.refl _ _).drew).kept hv
              have HRT := Lib.hid hRt2
              have HRD := Lib.hid hRd2
              have HTL := Lib.hid htl
              have HDL := Lib.hid hdl
              have HEP := Lib.hid hep
              have HEL := Lib.hid hel
              have HOL := Lib.hid hoL
              have HO4 := Lib.hid ho4
              have HB5 := Lib.hid hb5
              clear hrL ho hs hb hb4 hg4 hc6 hcc7 hz hRt hRd hrL4 htl hdl hep hel hdz hRt2 hRd2 hoL ho4 hb5
              have s1 : IntKind.i64.wrap ((j : Int) + 1) = (j : Int) + 1 := IntWalk.i64_in _ (by omega)
              have s2 : (0 : Int) ≤ (j : Int) + 1 := by omega
              have s3 : ((j : Int) + 1).toNat = j + 1 := by omega
              have s4 : (j : Int) ≤ (c11 : Int) := by omega
              have s5 : (j : Int) + 1 ≤ (n : Int) := by omega
              by_cases hcj : c11 = j + 1
              · subst hcj
                have hdn : L.drop (j + 1) = [] := List.eq_nil_of_length_eq_zero (by rw [HDL.out]; omega)
                have hrz : ∀ V, Rd V (some ⟨b6, o6, none⟩) 0 (BI (NZ (L.drop (j + 1)))) := fun V => by
                  rw [hdn]
                  exact ⟨Nat.le_refl _, by unfold maxLen; omega, fun h => by simp at h, Cs.nil _ _⟩
                have HRZ := Lib.hid hrz
                have s6 : (j : Int) ≤ (j : Int) + 1 := by omega
                clear hdn hrz
                go_wp2_with fail
                go_region_held3 (fun V => Below w4.heap.size w4.drew V)
                  (first
                    | exact hS0
                    | exact hS0a _
                    | exact hb6'
                    | exact hb7')
                  (first
                    | ((with_reducible refine StepAt 94 ?_)
                       (refine At.out (step_app (by rfl) (.tmp 90) (.tmp 93) 22 (by rfl) elemI rfl w4.drew.heap.size _ 0 [] (by rfl) (own_empty w4.drew _) (some ⟨b6, o6, none⟩) j (j + 1) (BI (NZ (L.take j))) (by rfl) (by rw [BI_NZ_length, HTL.out]) (HRT.out _) (BI_one _) (by unfold maxLen; omega) (by omega) (by simp) ?_))
                       (intro v6 w6 ho6 hb6)
                       (simp only [Nat.zero_add, List.nil_append] at ho6)
                       (have hb6' : Below w4.heap.size w4.drew w6 := (hS0a _).trans (hb6.mono hdz1)))
                    | ((with_reducible refine StepAt 99 ?_)
                       (refine At.out (step_app (by rfl) (.tmp 94) (.tmp 98) 22 (by rfl) elemI rfl w4.drew.heap.size v6 j (BI (NZ (L.take j))) (by rfl) ho6 (some ⟨b6, o6, none⟩) 0 0 (BI (NZ (L.drop (j + 1)))) (by rfl) (by rw [BI_NZ_length, HDL.out]; omega) (HRZ.out _) (BI_one _) (by unfold maxLen; omega) (by omega) (by have := hb6'.size; omega) ?_))
                       (intro v7 w7 ho7 hb7)
                       (have hb7' : Below w4.heap.size w4.drew w7 := hb6'.trans (hb7.mono hdz1))))
                have hb8 : Below w4.heap.size w4 w7 := (Below.refl _ _).drew.trans hb7'
                have hB4 : B ≤ w4.drew.heap.size := Nat.le_trans hz4 hdz1
                have hoL7 : w7.ownsRow B 3 1 v7 (L.eraseIdx j).length (BI (NZ (L.eraseIdx j))) := by
                  rw [HEP.out, HEL.out]
                  exact own_len (own_base ho7 hB4) (by omega)
                have hsq7 : w7.ownsRow B 31 1 v4 (i + 1) (vs ++ [.slice ad7 k cd7]) := own_below HO4.out hb8
                have hb9 : Below B w3 w7 := HB5.out.trans (hb8.mono hz4)
                clear hS0 hS0a ho6 hb6 hb6' ho7 hb7 hb7' hb8 s1 s2 s3 s4 s5
                go_wp2
                go_roundw
                case rel => exact ⟨i + 1, R ++ [q], L.eraseIdx j, _, by omega, by go_num, hoL7, hsq7, HPK2, by rw [List.length_append, HRL.out]; rfl, HVS2, hb9⟩
                case measure => simp [intOf]; omega
              · go_wp2_with fail
                go_region_held3 (fun V => Below w4.heap.size w4.drew V)
                  (first
                    | exact hS0
                    | exact hS0a _
                    | exact hb6'
                    | exact hb7')
                  (first
                    | ((with_reducible refine StepAt 94 ?_)
                       (refine At.out (step_app (by rfl) (.tmp 90) (.tmp 93) 22 (by rfl) elemI rfl w4.drew.heap.size _ 0 [] (by rfl) (own_empty w4.drew _) (some ⟨b6, o6, none⟩) j c11 (BI (NZ (L.take j))) (by rfl) (by rw [BI_NZ_length, HTL.out]) (HRT.out _) (BI_one _) (by unfold maxLen; omega) (by omega) (by simp) ?_))
                       (intro v6 w6 ho6 hb6)
                       (simp only [Nat.zero_add, List.nil_append] at ho6)
                       (have hb6' : Below w4.heap.size w4.drew w6 := (hS0a _).trans (hb6.mono hdz1)))
                    | ((with_reducible refine StepAt 99 ?_)
                       (refine At.out (step_app (by rfl) (.tmp 94) (.tmp 98) 22 (by rfl) elemI rfl w4.drew.heap.size v6 j (BI (NZ (L.take j))) (by rfl) ho6 (some ⟨b6, o6 + (j + 1), none⟩) (n - (j + 1)) (c11 - (j + 1)) (BI (NZ (L.drop (j + 1)))) (by rfl) (by rw [BI_NZ_length, HDL.out]) (HRD.out _ hb6') (BI_one _) (by unfold maxLen; omega) (by omega) (by have := hb6'.size; omega) ?_))
                       (intro v7 w7 ho7 hb7)
                       (have hb7' : Below w4.heap.size w4.drew w7 := hb6'.trans (hb7.mono hdz1))))
                have hb8 : Below w4.heap.size w4 w7 := (Below.refl _ _).drew.trans hb7'
                have hB4 : B ≤ w4.drew.heap.size := Nat.le_trans hz4 hdz1
                have hoL7 : w7.ownsRow B 3 1 v7 (L.eraseIdx j).length (BI (NZ (L.eraseIdx j))) := by
                  rw [HEP.out, HEL.out]
                  exact own_len (own_base ho7 hB4) (by omega)
                have hsq7 : w7.ownsRow B 31 1 v4 (i + 1) (vs ++ [.slice ad7 k cd7]) := own_below HO4.out hb8
                have hb9 : Below B w3 w7 := HB5.out.trans (hb8.mono hz4)
                clear hS0 hS0a ho6 hb6 hb6' ho7 hb7 hb7' hb8 s1 s2 s3 s4 s5
                go_wp2
                go_roundw
                case rel => exact ⟨i + 1, R ++ [q], L.eraseIdx j, _, by omega, by go_num, hoL7, hsq7, HPK2, by rw [List.length_append, HRL.out]; rfl, HVS2, hb9⟩
                case measure => simp [intOf]; omega
        · obtain rfl : k = i := by omega
          have hnl2 : ¬ (k : Int) < (k : Int) := by omega
          obtain ⟨a13, c13, rfl, hrs⟩ := Rd.ofOwn hs
          have hpl : (pickM k m R).length = k := by rw [pickM, List.length_map]; exact hRl
          have hLL : RdLL wr a13 c13 (pickM k m R) := by
            refine ⟨vs, hrs, by rw [hpl]; simpa using hs.1, fun r x hx => ?_⟩
            unfold pickM at hx
            rw [List.getElem?_map] at hx
            obtain ⟨q, hq, rfl⟩ := Option.map_eq_some_iff.1 hx
            obtain ⟨ad, cd, h1, h2⟩ := HVS.out r q hq
            have hql : q < k + m := HPK.out.lt q (List.mem_append_left _ (List.mem_of_getElem? hq))
            have hqk : ((codeL k m).getD q []).length = k := by
              have h1 := (codeL_dim k m).1
              rw [List.getD_eq_getElem?_getD, List.getElem?_eq_getElem (by omega)]
              exact (codeL_dim k m).2 _ (List.getElem_mem _)
            exact ⟨ad, cd, by rw [hqk]; exact h1, h2.kept (HB.out ▸ hb : Below w3.heap.size w3 wr)⟩
          have hbw : Below w.heap.size w wr := hb3.trans (hb.mono hsz)
          have hinv := invert_any wr a13 c13 (pickM k m R) hLL (fun p hp => (hbw.cell (p := ⟨0, p, none⟩) hbT).trans (HT.out p hp))
          rw [hpl] at hinv
          have HINV := Lib.hid hinv
          have HRL := Lib.hid hRl
          clear hinv hLL hrs hs ho hb hpl hRl
          go_wp2_with fail
          refine HINV.out.mono ?_
          rintro e w5 ⟨X, f, hok, h⟩
          obtain rfl := pick_inv hk hkm HPK.out HRL.out hok
          obtain ⟨ax, cx, rfl, _, hb5⟩ := MxP.rd h
          have hb6 := hbw.trans (hb5.mono hbw.size)
          clear h hok hb5 hbw
          go_wp2_with fail
          refine (matKnown_any _).mono ?_
          rintro e w8 ⟨rfl, hb8⟩
          go_wp2
          go_ret
          exact ⟨rfl, hb6.trans (hb8.mono hb6.size)⟩

/-- MatrixCodes. -/
theorem matrixCodes_any (k m : Int) (a2 : Option Addr) (c2 : Nat) (l : List Int) (w : World) (hk : -9223372036854775808 ≤ k ∧ k ≤ 9223372036854775807) (hm : -9223372036854775808 ≤ m ∧ m ≤ 9223372036854775807)
    (hr : Rd w a2 c2 (BI l)) (_hb : ∀ n ∈ l, -9223372036854775808 ≤ n ∧ n ≤ 9223372036854775807) (_hz : c2 * 8 ≤ 140737488351232) (hT : TabAt 0 Lib.deBruijn64tab w) :
    Calls Tryd.prog 3 #[.int .i64 k, .int .i64 m, .slice a2 l.length c2] w fun e w' => e = .returned (.bool true) ∧ Below w.heap.size w w' := by
  have hl : l.length ≤ 9223372036854775807 := by have := hr.le; rwa [BI_length] at this
  by_cases h : codeBad k m = true ∨ 100 < l.length
  · exact matrixCodes_no k m a2 c2 l w hk hm hl h
  · have h1 : codeBad k m = false := by
      cases hc : codeBad k m with
      | true => exact absurd (.inl hc) h
      | false => rfl
    have h2 : l.length ≤ 100 := by omega
    unfold codeBad at h1
    have h3 := of_decide_eq_false h1
    obtain ⟨k', rfl⟩ : ∃ k' : Nat, k = k' := ⟨k.toNat, by omega⟩
    obtain ⟨m', rfl⟩ : ∃ m' : Nat, m = m' := ⟨m.toNat, by omega⟩
    exact matrixCodes_yes k' m' a2 c2 l w (by omega) (by omega) h2 hr hT
end Go.Proofs.YtngabeeeahidlaaDoor
