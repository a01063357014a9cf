/- garnerref8.same: the contract. The document's alike, Right, Wrong: the contracts. The document's Right and Wrong: the contracts. The document's Wrong: the contract. Conditions: each law's own premises. -/
import Derived.Test.YtmeckdgigjjjbaaDoorCom0
import Derived.Test.YtmeckdgigjjjbaaDoorRefMend
import Derived.Test.YtmeckdgigjjjbaaDoorShardW
import Derived.BigQuiet
namespace Go.Proofs.YtmeckdgigjjjbaaDoor
open Go Go.RowKit

set_option maxHeartbeats 400000 in
theorem ref8same_len (w : World) (a1 a2 : Option Addr) (n1 n2 c1 c2 : Nat) (hn : n1 ≠ n2) :
    Calls Tryd.prog 42 #[.slice a1 n1 c1, .slice a2 n2 c2] w fun e w' => e = .returned (.bool false) ∧ w' = w := by
  have hb : ((n1 : Int) != n2) = true := by rw [bne_iff_ne]; omega
  go_enter Tryd.func42, Tryd.ntmps42
  go_wp2
  go_ret
  exact ⟨rfl, rfl⟩

set_option maxHeartbeats 400000 in
theorem ref8same_eqlen (w : World) (a1 a2 : Option Addr) (c1 c2 : Nat) (l m : List UInt8) (hlen : l.length = m.length) (hl : l.length ≤ 9223372036854775807)
   (h1 : Cs w a1 (B8 l)) (h2 : Cs w a2 (B8 m)) :
    Calls Tryd.prog 42 #[.slice a1 l.length c1, .slice a2 m.length c2] w fun e w' => e = .returned (.bool (l == m)) ∧ Qt w w' := by
  have HL := Lib.hid hlen; clear hlen
  have hb : ((l.length : Int) != m.length) = false := by rw [HL.out]; simp
  go_enter Tryd.func42, Tryd.ntmps42
  go_wp2
  go_loopw [5] (fun i wr => ∃ k n : Nat, k ≤ l.length ∧ i = .int .i64 k ∧ wr = w.drewN n ∧ l.take k = m.take k) (fun i _ => l.length - (intOf i).toNat)
  case atStart => exact ⟨0, 0, by omega, rfl, rfl, rfl⟩
  case round =>
    obtain ⟨k, n, hk, rfl, rfl, ht⟩ := hrel
    have HT := Lib.hid ht; clear ht
    by_cases hlt : k < l.length
    · have hm : k < m.length := by rw [← HL.out]; exact hlt
      obtain ⟨b1, o1, rfl, hc1⟩ := h1.b8 k hlt
      obtain ⟨b2, o2, rfl, hc2⟩ := h2.b8 k hm
      have hi : (k : Int) < (l.length : Int) := by omega
      have hi2 : (k : Int) < (m.length : Int) := by omega
      go_wp2
      by_cases he : l[k] = m[k]
      · have hne : ((l[k].toNat : Int) != (m[k]).toNat) = false := by rw [he]; simp
        have HE := Lib.hid he; clear he
        go_quiet (fail)
        go_wp2
        go_roundw
        case rel =>
          refine ⟨k+1, _, by omega, by go_num, rfl, ?_⟩
          rw [List.take_succ_eq_append_getElem hlt, List.take_succ_eq_append_getElem hm, HT.out, HE.out]
        case measure => simp [intOf]; omega
      · have hne : ((l[k].toNat : Int) != (m[k]).toNat) = true := by
          rw [bne_iff_ne]; intro hx; exact he (UInt8.toNat_inj.1 (by omega))
        have HE := Lib.hid he; clear he
        go_quiet (fail)
        go_wp2
        go_ret
        refine ⟨?_, _, World.drewN_drewN _ _ _⟩
        have : (l == m) = false := by
          rw [beq_eq_false_iff_ne]; rintro rfl; exact HE.out rfl
        exact congrArg (fun b => Ending.returned (Value.bool b)) this.symm
    · go_wp2
      go_ret
      refine ⟨?_, n, rfl⟩
      have : (l == m) = true := by
        rw [beq_iff_eq]
        have := HT.out
        rw [List.take_of_length_le (by omega), List.take_of_length_le (by have := HL.out; omega)] at this
        exact this
      exact congrArg (fun b => Ending.returned (Value.bool b)) this.symm

/-- same: are two rows of bytes alike? -/
theorem ref8same_any (w : World) (a1 a2 : Option Addr) (c1 c2 : Nat) (l m : List UInt8) (h1 : Rd w a1 c1 (B8 l)) (h2 : Rd w a2 c2 (B8 m)) :
    Calls Tryd.prog 42 #[.slice a1 l.length c1, .slice a2 m.length c2] w fun e w' => e = .returned (.bool (l == m)) ∧ Qt w w' := by
  by_cases hlen : l.length = m.length
  · exact ref8same_eqlen w a1 a2 c1 c2 l m hlen (by have := h1.le; rwa [B8_length] at this) h1.cs h2.cs
  · refine (ref8same_len w a1 a2 _ _ c1 c2 hlen).mono ?_
    rintro e w' ⟨rfl, rfl⟩
    refine ⟨ret_bool ?_, Qt.refl _⟩
    symm; rw [beq_eq_false_iff_ne]; rintro rfl; exact hlen rfl

/-- .. two that are alike. -/
theorem ref8same_true (w : World) (a1 a2 : Option Addr) (c1 c2 : Nat) (l : List UInt8) (h1 : Rd w a1 c1 (B8 l)) (h2 : Rd w a2 c2 (B8 l)) :
    Calls Tryd.prog 42 #[.slice a1 l.length c1, .slice a2 l.length c2] w fun e w' => e = .returned (.bool true) ∧ Qt w w' := by
  refine (ref8same_any w a1 a2 c1 c2 l l h1 h2).mono ?_
  rintro e w' ⟨rfl, h⟩
  exact ⟨ret_bool (by simp), h⟩
end Go.Proofs.YtmeckdgigjjjbaaDoor

namespace Go.Proofs.YtmeckdgigjjjbaaDoor
open Go Go.RowKit

open Classical in
noncomputable def alikeB (L : Mx) (k m : Int) : Bool := if noRows L k m then false else if presC L L.length < k.toNat then false else fitB k.toNat m.toNat L (presT L)

set_option maxRecDepth 100000 in
set_option maxHeartbeats 2000000 in
theorem alike_any (w : World) (a : Option Addr) (c : Nat) (L : Mx) (k m : Int) (hr : RdLL w a c L) (hk : -9223372036854775808 ≤ k ∧ k ≤ 9223372036854775807) (hm : -9223372036854775808 ≤ m ∧ m ≤ 9223372036854775807) (hL : L.length ≤ 1000000) (hLl : ∀ r ∈ L, r.length ≤ 1000000) :
    Calls Tryd.prog 28 #[.slice a L.length c, .int .i64 k, .int .i64 m] w fun e w' => e = .returned (.bool (alikeB L k m)) ∧ Below w.heap.size w w' := by
  have hmend := refMend_any w a c L k m hr hk hm hL hLl
  by_cases hbad : noRows L k m ∨ presC L L.length < k.toNat
  · have h1 : ∃ f : Nat, f ≠ 0 ∧ mendR L k m = ([], f) := by
      unfold mendR
      by_cases hno : noRows L k m
      · exact ⟨1, by decide, if_pos hno⟩
      · exact ⟨15, by decide, by rw [if_neg hno, if_pos (hbad.resolve_left hno)]⟩
    have h2 : alikeB L k m = false := by
      unfold alikeB
      by_cases hno : noRows L k m
      · exact if_pos hno
      · rw [if_neg hno, if_pos (hbad.resolve_left hno)]
    obtain ⟨f, hf, h1⟩ := h1
    rw [h1] at hmend
    rw [h2]
    have hfi : ((f : Int) != 0) = true := by rw [bne_iff_ne]; omega
    have HM := Lib.hid hmend
    clear hmend hbad h1 h2 hf
    go_enter Tryd.func28, Tryd.ntmps28
    go_wp2_with fail
    refine HM.out.mono ?_
    intro e w1 h
    obtain ⟨ac, cc, rfl, _, hb1⟩ := MxP.rd h
    clear h
    go_wp2
    go_ret
    exact ⟨rfl, hb1⟩
  · have hno : ¬ noRows L k m := fun h => hbad (.inl h)
    have hlt : ¬ presC L L.length < k.toNat := fun h => hbad (.inr h)
    obtain ⟨kn, mn, rfl, rfl, hk1, hkm, hLk, _, hodd⟩ := noRows_ok hno
    have hal : alikeB L kn mn = fitB kn mn L (presT L) := by unfold alikeB; rw [if_neg hno, if_neg hlt]; rfl
    have hmr : mendR L kn mn = (mendF kn mn L (firstK (presT L) kn (kn + mn)), 0) := by unfold mendR; rw [if_neg hno, if_neg hlt]; rfl
    rw [hmr] at hmend
    rw [hal]
    obtain ⟨M, hM⟩ : ∃ M, M = mendF kn mn L (firstK (presT L) kn (kn + mn)) := ⟨_, rfl⟩
    have hMl : M.length = kn + mn := by rw [hM]; unfold mendF; rw [timesL_length, codeL_length]
    have hres := fitB_iff kn mn L (presT L)
    obtain ⟨r, hrr⟩ : ∃ r, r = fitB kn mn L (presT L) := ⟨_, rfl⟩
    rw [← hrr, ← hM] at hres
    rw [← hM] at hmend
    rw [← hrr]
    have HRES := Lib.hid hres
    have HMEND := Lib.hid hmend
    have HR := Lib.hid hr
    have HML := Lib.hid hMl
    have HLK := Lib.hid hLk
    have HLL := Lib.hid hLl
    clear hbad hno hlt hodd hal hmr hmend hres hrr hM hMl hr hLl hk hm
    rw [hLk]
    clear hLk
    go_enter Tryd.func28, Tryd.ntmps28
    go_wp2_with fail
    rw [← HLK.out]
    refine HMEND.out.mono ?_
    intro e w1 h
    obtain ⟨ac, cc, rfl, hrc, hb1⟩ := MxP.rd h
    rw [HLK.out, show ((M, 0) : Mx × Nat).1.length = kn + mn from HML.out]
    have HRC : Hid (RdLL w1 ac cc M) := Lib.hid hrc
    clear h hrc
    go_wp2
    go_loopw [9] (fun s9 wr => ∃ (i : Nat), i ≤ kn + mn ∧ s9 = .int .i64 i ∧ Hid (∀ j, j < i → presT L j = true → M.getD j [] = L.getD j []) ∧ Hid (Qt w1 wr)) (fun s9 _ => kn + mn - (intOf s9).toNat)
    case atStart => exact ⟨0, by omega, rfl, Lib.hid (fun j h => by omega), Lib.hid (Qt.refl _)⟩
    case round =>
      obtain ⟨i, hi, rfl, HI, HQT⟩ := hrel
      have hbq := HQT.out.below w1.heap.size
      by_cases hlt : i < kn + mn
      · have hii : (i : Int) < (kn : Int) + (mn : Int) := by omega
        obtain ⟨b3, o3, ad3, cd3, rfl, hc3, hr3⟩ := RdLL.row (HRC.out.kept hbq) i (by rw [HML.out]; exact hlt)
        obtain ⟨b4, o4, ad4, cd4, rfl, hc4, hr4⟩ := RdLL.row ((HR.out.kept hb1).kept hbq) i (by rw [HLK.out]; exact hlt)
        have hne : ∀ x V, (L.getD i [] == M.getD i []) = x → Calls Tryd.prog 42 #[.slice ad4 (L.getD i []).length cd4, .slice ad3 (M.getD i []).length cd3] (wr.drewN V) fun e w' => e = .returned (.bool x) ∧ ∃ m, w' = (wr.drewN V).drewN m := fun x V hx => by
          have := ref8same_any (wr.drewN V) ad4 ad3 cd4 cd3 (L.getD i []) (M.getD i []) (hr4.drewN V) (hr3.drewN V)
          rw [hx] at this
          exact this
        obtain ⟨l4, hl4⟩ : ∃ l4, l4 = (L.getD i []).length := ⟨_, rfl⟩
        obtain ⟨l3, hl3⟩ : ∃ l3, l3 = (M.getD i []).length := ⟨_, rfl⟩
        have hl4b : l4 ≤ 1000000 := by
          rw [hl4, List.getD_eq_getElem?_getD, List.getElem?_eq_getElem (by rw [HLK.out]; exact hlt)]
          exact HLL.out _ (List.getElem_mem _)
        rw [← hl3] at hc3
        rw [← hl4] at hc4
        cases hp : presT L i with
        | false =>
          have hl0 : l4 = 0 := by rw [hl4]; unfold presT at hp; simpa using of_decide_eq_false hp
          subst hl0
          have HI2 : Hid (∀ j, j < i + 1 → presT L j = true → M.getD j [] = L.getD j []) := Lib.hid (fun j hj hjt => by
            by_cases e : j = i
            · subst e; rw [hp] at hjt; cases hjt
            · exact HI.out j (by omega) hjt)
          clear hbq hp hne hr3 hr4 hl3 hl4
          go_wp2
          go_quiet (fail)
          go_wp2
          go_roundw
          case rel => exact ⟨i + 1, by omega, by go_num, HI2, Lib.hid (HQT.out.drew _)⟩
          case measure => simp [intOf]; omega
        | true =>
          have hl0 : (0 : Int) < (l4 : Int) := by
            have : (L.getD i []).length ≠ 0 := of_decide_eq_true (by unfold presT at hp; exact hp)
            omega
          have hl0n : 0 < l4 := by omega
          rw [← hl3, ← hl4] at hne
          by_cases heq : M.getD i [] = L.getD i []
          · have HE := Lib.hid (fun V => hne true V (by rw [heq]; simp))
            have HI2 : Hid (∀ j, j < i + 1 → presT L j = true → M.getD j [] = L.getD j []) := Lib.hid (fun j hj hjt => by
              by_cases e : j = i
              · subst e; exact heq
              · exact HI.out j (by omega) hjt)
            clear hbq hp hne hr3 hr4 hl3 hl4 heq
            go_wp2
            go_quiet ((go_at_call 42; exact Calls.quiet_of (HE.out _)))
            go_wp2
            go_roundw
            case rel => exact ⟨i + 1, by omega, by go_num, HI2, Lib.hid (HQT.out.drew _)⟩
            case measure => simp [intOf]; omega
          · have HE := Lib.hid (fun V => hne false V (by rw [beq_eq_false_iff_ne]; exact fun e => heq e.symm))
            have hf : Hid (r = false) := Lib.hid (by
              cases hr' : r with
              | false => rfl
              | true => exact absurd (HRES.out.1 hr' i hlt hp) heq)
            clear hbq hp hne hr3 hr4 hl3 hl4 heq
            go_wp2
            go_quiet ((go_at_call 42; exact Calls.quiet_of (HE.out _)))
            go_wp2
            go_ret
            exact ⟨ret_bool hf.out.symm, hb1.trans ((HQT.out.drew _).below _)⟩
      · obtain rfl : kn + mn = i := by omega
        have hf : Hid (r = true) := Lib.hid (HRES.out.2 HI.out)
        have hnl : ¬ (kn : Int) + (mn : Int) < (kn : Int) + (mn : Int) := by omega
        go_wp2
        go_ret
        exact ⟨ret_bool hf.out.symm, hb1.trans (HQT.out.below _)⟩
end Go.Proofs.YtmeckdgigjjjbaaDoor

namespace Go.Proofs.YtmeckdgigjjjbaaDoor
open Go Go.RowKit

theorem presC_lost {L : Mx} {i : Nat} (hi : i < L.length) (h : presT L i = false) : presC L L.length < L.length := by
  refine Classical.byContradiction fun hn => ?_
  have := presC_full hn i hi
  rw [h] at this
  cases this
theorem presC_all {L : Mx} (h : ∀ i, i < L.length → presT L i = true) : ¬ presC L L.length < L.length := by
  have : presC L L.length = L.length := by
    unfold presC
    rw [List.filter_eq_self.2 fun r hr => h r (List.mem_range.1 hr), List.length_range]
  omega

set_option maxRecDepth 100000 in
set_option maxHeartbeats 2000000 in
theorem refRight_any (w : World) (a : Option Addr) (c : Nat) (L : Mx) (k m : Int) (hr : RdLL w a c L) (hk : -9223372036854775808 ≤ k ∧ k ≤ 9223372036854775807) (hm : -9223372036854775808 ≤ m ∧ m ≤ 9223372036854775807) (hL : L.length ≤ 1000000) (hLl : ∀ r ∈ L, r.length ≤ 1000000) :
    Calls Tryd.prog 15 #[.slice a L.length c, .int .i64 k, .int .i64 m] w fun e w' => e = .returned (.tuple #[.bool (rightR L k m).1, .int .i64 ((rightR L k m).2 : Nat)]) ∧ Below w.heap.size w w' := by
  have hfit := fits_any w a c L k m hr hk hm hL hLl
  have hal := fun W (hb : Below w.heap.size w W) => alike_any W a c L k m (hr.kept hb) hk hm hL hLl
  have HF := Lib.hid hfit
  by_cases hno : noRows L k m
  · rw [show rightR L k m = (false, 1) from if_pos hno]
    have HNO := Lib.hid hno
    clear hfit hno hal
    go_enter Tryd.func15, Tryd.ntmps15
    go_wp2_with fail
    refine HF.out.mono ?_
    rintro e w1 ⟨n, b, rfl, hb, hb1⟩
    have hbf : b = false := by
      cases b with
      | false => rfl
      | true => exact absurd HNO.out (hb.1 rfl)
    subst hbf
    clear hb
    go_wp2
    go_ret2
    exact ⟨rfl, hb1⟩
  · obtain ⟨kn, mn, rfl, rfl, hk1, hkm, hLk, _, hodd⟩ := noRows_ok hno
    have hmr : rightR L kn mn = if presC L L.length < L.length then (false, 15) else (fitB kn mn L (presT L), 0) := if_neg hno
    have hab : alikeB L kn mn = if presC L L.length < kn then false else fitB kn mn L (presT L) := if_neg hno
    obtain ⟨X, hX⟩ : ∃ X : Bool × Nat, X = rightR L kn mn := ⟨_, rfl⟩
    rw [← hX]
    rw [← hX] at hmr
    have HX := Lib.hid hmr
    have HAB := Lib.hid hab
    have HNO := Lib.hid hno
    have HR := Lib.hid hr
    have HAL := Lib.hid hal
    have HLL := Lib.hid hLl
    have HLK := Lib.hid hLk
    clear hfit hno hr hal hX hodd hmr hab hk hm hLl hLk
    go_enter Tryd.func15, Tryd.ntmps15
    go_wp2_with fail
    refine HF.out.mono ?_
    rintro e w1 ⟨n, b, rfl, hb, hb1⟩
    have hbt : b = true := hb.2 HNO.out
    subst hbt
    clear hb HF
    go_wp2
    go_loopw [10] (fun s10 wr => ∃ i : Nat, i ≤ L.length ∧ s10 = .int .i64 i ∧ Hid (∀ j, j < i → presT L j = true) ∧ wr = w1) (fun s10 _ => L.length - (intOf s10).toNat)
    case atStart => exact ⟨0, by omega, rfl, Lib.hid (fun j h => by omega), rfl⟩
    case round =>
      obtain ⟨i, hi, rfl, HI, rfl⟩ := hrel
      by_cases hlt : i < L.length
      · have hii : (i : Int) < (L.length : Int) := by omega
        obtain ⟨b4, o4, ad4, cd4, rfl, hc4, hr4⟩ := RdLL.row (HR.out.kept hb1) i hlt
        obtain ⟨l4, hl4⟩ : ∃ l4, l4 = (L.getD i []).length := ⟨_, rfl⟩
        have hl4b : l4 ≤ 1000000 := by
          rw [hl4, List.getD_eq_getElem?_getD, List.getElem?_eq_getElem hlt]
          exact HLL.out _ (List.getElem_mem _)
        rw [← hl4] at hc4
        cases hp : presT L i with
        | false =>
          have hl0 : l4 = 0 := by rw [hl4]; unfold presT at hp; simpa using of_decide_eq_false hp
          subst hl0
          have hx : Hid (X = (false, 15)) := Lib.hid (by rw [HX.out, if_pos (presC_lost hlt hp)])
          clear hp hr4 hl4
          go_wp2
          go_ret2
          rw [hx.out]
          exact ⟨rfl, hb1⟩
        | true =>
          have hl0 : ((l4 : Int) == 0) = false := by
            have : (L.getD i []).length ≠ 0 := of_decide_eq_true (by unfold presT at hp; exact hp)
            rw [beq_eq_false_iff_ne]; omega
          have HI2 : Hid (∀ j, j < i + 1 → presT L j = true) := Lib.hid (fun j hj => by
            by_cases e : j = i
            · subst e; exact hp
            · exact HI.out j (by omega))
          clear hp hr4 hl4
          go_wp2
          go_roundw
          case rel => exact ⟨i + 1, by omega, by go_num, HI2, trivial⟩
          case measure => simp [intOf]; omega
      · obtain rfl : L.length = i := by omega
        have hfull := presC_all HI.out
        have hx : Hid (X = (alikeB L kn mn, 0)) := Lib.hid (by rw [HX.out, if_neg hfull, HAB.out, if_neg (by have := HLK.out; omega)])
        have hnl : ¬ (L.length : Int) < (L.length : Int) := by omega
        have hal := HAL.out wr hb1
        have HA := Lib.hid hal
        clear hal hfull
        go_wp2_with fail
        refine HA.out.mono ?_
        rintro e w2 ⟨rfl, hb2⟩
        go_wp2
        go_ret2
        rw [hx.out]
        exact ⟨rfl, hb1.trans (hb2.mono hb1.size)⟩

/-- A list of rows that a call laid out: its own outer row, rows that read. -/
structure Lay (w0 w : World) (B g n cap : Nat) (vs : List Value) (L : Mx) : Prop where
  outer : w.ownsRow B 34 1 (.slice (some ⟨g, 0, none⟩) n cap) n vs
  len : L.length = n
  row : ∀ (r : Nat) (l : List UInt8), L[r]? = some l → ∃ ad cd, vs[r]? = some (.slice ad l.length cd) ∧ Rd w0 ad cd (B8 l)
theorem Lay.rd {w0 w : World} {B g n cap : Nat} {vs : List Value} {L : Mx} (h : Lay w0 w B g n cap vs L) (hb : Below w0.heap.size w0 w) : RdLL w (some ⟨g, 0, none⟩) cap L := rdLL_of h.len h.outer hb h.row
theorem Lay.put {w0 w : World} {B g n cap : Nat} {vs : List Value} {L : Mx} (h : Lay w0 w B g n cap vs L) (i : Nat) (ad : Option Addr) (cd m : Nat) (l : List UInt8) (hm : m = l.length) (hr : Rd w0 ad cd (B8 l)) :
    Lay w0 (w.setCell ⟨g, i, none⟩ (.slice ad m cd)) B g n cap (vs.set i (.slice ad m cd)) (L.set i l) := by
  subst hm
  refine ⟨(h.outer.stored i _).1, by simp [h.len], fun r q hq => ?_⟩
  have hvl : vs.length = L.length := by rw [h.len]; simpa using h.outer.1
  by_cases e : i = r
  · subst e
    have hlt : i < L.length := by have := (List.getElem?_eq_some_iff.1 hq).1; simpa using this
    rw [List.getElem?_set_self hlt] at hq
    cases hq
    exact ⟨ad, cd, List.getElem?_set_self (by omega), hr⟩
  · rw [List.getElem?_set_ne e] at hq
    obtain ⟨a, c, h1, h2⟩ := h.row r q hq
    exact ⟨a, c, by rw [List.getElem?_set_ne e]; exact h1, h2⟩
theorem Lay.cell {w0 w : World} {B g n cap : Nat} {vs : List Value} {L : Mx} (h : Lay w0 w B g n cap vs L) (i : Nat) (hi : i < n) :
    ∃ ad cd, w.cell? ⟨g, i, none⟩ = some (.slice ad (L.getD i []).length cd) ∧ w.frozen? ⟨g, i, none⟩ = false ∧ Rd w0 ad cd (B8 (L.getD i [])) := by
  have hg : L[i]? = some (L.getD i []) := by rw [List.getD_eq_getElem?_getD, List.getElem?_eq_getElem (by rw [h.len]; exact hi)]; rfl
  obtain ⟨ad, cd, h1, h2⟩ := h.row i _ hg
  exact ⟨ad, cd, by rw [h.outer.cellAt i (by omega)]; exact h1, h.outer.frozenAt i, h2⟩
theorem getD_set (L : Mx) (i r : Nat) (l : List UInt8) : (L.set i l).getD r [] = if i = r ∧ i < L.length then l else L.getD r [] := by
  rw [List.getD_eq_getElem?_getD, List.getElem?_set, List.getD_eq_getElem?_getD]
  by_cases e : i = r
  · subst e
    by_cases h : i < L.length
    · simp [h]
    · simp [h]
  · simp [e]
/-- A row that is struck. -/
theorem less_set {L : Mx} {i : Nat} (hi : i < L.length) : presT (L.set i []) = lessT L i := by
  funext r
  unfold presT lessT presT
  rw [getD_set]
  by_cases e : i = r
  · subst e; simp [hi]
  · have : r ≠ i := fun h => e h.symm
    simp [e, this]
theorem less_odd {L : Mx} {i : Nat} (hi : i < L.length) (h : ¬ Odd L) : ¬ Odd (L.set i []) := by
  rintro ⟨r, s, h1, h2, h3⟩
  rw [less_set hi] at h1 h2
  unfold lessT at h1 h2
  simp only [Bool.and_eq_true, decide_eq_true_eq] at h1 h2
  rw [getD_set, getD_set, if_neg (fun e => h1.2 e.1.symm), if_neg (fun e => h2.2 e.1.symm)] at h3
  exact h ⟨r, s, h1.1, h2.1, h3⟩
theorem less_fit {L : Mx} {k m i : Nat} (hi : i < L.length) : fitB k m (L.set i []) (presT (L.set i [])) = fitB k m L (lessT L i) := by
  rw [less_set hi]
  have hc : mendF k m (L.set i []) (firstK (lessT L i) k (k + m)) = mendF k m L (firstK (lessT L i) k (k + m)) := mendF_congr fun r hr => by
    have := (firstK_mem hr).1
    unfold lessT at this
    simp only [Bool.and_eq_true, decide_eq_true_eq] at this
    rw [getD_set, if_neg (fun e => this.2 e.1.symm)]
  have h1 := fitB_iff k m (L.set i []) (lessT L i)
  have h2 := fitB_iff k m L (lessT L i)
  rw [hc] at h1
  have h3 : ∀ r, lessT L i r = true → (L.set i []).getD r [] = L.getD r [] := fun r hr => by
    unfold lessT at hr
    simp only [Bool.and_eq_true, decide_eq_true_eq] at hr
    rw [getD_set, if_neg (fun e => hr.2 e.1.symm)]
  have h4 : (fitB k m (L.set i []) (lessT L i) = true) ↔ (fitB k m L (lessT L i) = true) := by
    rw [h1, h2]
    exact ⟨fun h r hr ht => (h r hr ht).trans (h3 r ht), fun h r hr ht => (h r hr ht).trans (h3 r ht).symm⟩
  cases e1 : fitB k m (L.set i []) (lessT L i) with
  | true => exact (h4.1 e1).symm
  | false =>
    cases e2 : fitB k m L (lessT L i) with
    | false => rfl
    | true => rw [h4.2 e2] at e1; cases e1
theorem less_alike {L : Mx} {k m i : Nat} (hno : ¬ noRows L k m) (hf : ∀ r, r < L.length → presT L r = true) (hm1 : 1 ≤ m) (hi : i < L.length) : alikeB (L.set i []) k m = fitB k m L (lessT L i) := by
  obtain ⟨kn, mn, h1, h2, hk1, hkm, hLk, hcb, hodd⟩ := noRows_ok hno
  obtain rfl : k = kn := by omega
  obtain rfl : m = mn := by omega
  have hno2 : ¬ noRows (L.set i []) k m := by
    rintro (h | h | h)
    · rw [hcb] at h; cases h
    · rw [List.length_set] at h; omega
    · exact less_odd hi hodd h
  have hcn := less_cnt (i := i) hLk hf hm1
  unfold alikeB
  rw [if_neg hno2, if_neg, ← less_fit hi]
  · rfl
  · rw [← setL_pres, less_set hi, List.length_set, hLk]
    show ¬ _ < ((k : Int)).toNat
    rw [Int.toNat_natCast]
    omega
end Go.Proofs.YtmeckdgigjjjbaaDoor

namespace Go.Proofs.YtmeckdgigjjjbaaDoor
open Go Go.RowKit

theorem rows_one {w : World} {L : Mx} {vs : List Value} (h : ∀ (i : Nat) (l : List UInt8), L[i]? = some l → ∃ (ad : Option Addr) (cd : Nat), vs[i]? = some (Value.slice ad l.length cd) ∧ Rd w ad cd (B8 l)) (hl : vs.length = L.length) : ∀ u ∈ vs, u.oneCell' = true := by
  intro u hu
  obtain ⟨i, hi, rfl⟩ := List.mem_iff_getElem.1 hu
  obtain ⟨ad, cd, h1, _⟩ := h i _ (List.getElem?_eq_getElem (by omega))
  rw [List.getElem?_eq_getElem hi] at h1
  rw [Option.some.inj h1]
  rfl

set_option maxRecDepth 100000 in
set_option maxHeartbeats 2000000 in
theorem refWrong_any (w : World) (a : Option Addr) (c : Nat) (L : Mx) (k m : Int) (hr : RdLL w a c L) (hk : -9223372036854775808 ≤ k ∧ k ≤ 9223372036854775807) (hm : -9223372036854775808 ≤ m ∧ m ≤ 9223372036854775807) (hL : L.length ≤ 1000000) (hLl : ∀ r ∈ L, r.length ≤ 1000000) :
    Calls Tryd.prog 17 #[.slice a L.length c, .int .i64 k, .int .i64 m] w fun e w' => e = .returned (.tuple #[.int .i64 (wrongR L k m).1, .int .i64 ((wrongR L k m).2 : Nat)]) ∧ Below w.heap.size w w' := by
  have hright := refRight_any w a c L k m hr hk hm hL hLl
  by_cases h1 : (rightR L k m).2 ≠ 0 ∨ (rightR L k m).1 = true
  · obtain ⟨r, f, hrf⟩ : ∃ r f, rightR L k m = (r, f) := ⟨_, _, rfl⟩
    rw [hrf] at hright h1
    by_cases hf : f = 0
    · subst hf
      obtain rfl : r = true := h1.resolve_left (fun h => h rfl)
      have hw : wrongR L k m = (-1, 0) := by
        unfold rightR at hrf
        unfold wrongR
        by_cases hno : noRows L k m
        · rw [if_pos hno] at hrf; cases hrf
        · rw [if_neg hno] at hrf ⊢
          by_cases hc : presC L L.length < L.length
          · rw [if_pos hc] at hrf; cases hrf
          · rw [if_neg hc] at hrf ⊢
            rw [if_pos (Prod.mk.inj hrf).1]
      rw [hw]
      have HR := Lib.hid hright
      clear hright h1 hrf hw
      go_enter Tryd.func17, Tryd.ntmps17
      go_wp2_with fail
      refine HR.out.mono ?_
      rintro e w1 ⟨rfl, hb1⟩
      go_wp2
      go_ret2
      exact ⟨rfl, hb1⟩
    · have hw : wrongR L k m = (0, f) := by
        unfold rightR at hrf
        unfold wrongR
        by_cases hno : noRows L k m
        · rw [if_pos hno] at hrf ⊢; rw [← (Prod.mk.inj hrf).2]
        · rw [if_neg hno] at hrf ⊢
          by_cases hc : presC L L.length < L.length
          · rw [if_pos hc] at hrf ⊢; rw [← (Prod.mk.inj hrf).2]
          · rw [if_neg hc] at hrf
            exact absurd (Prod.mk.inj hrf).2.symm hf
      rw [hw]
      have hfi : ((f : Int) != 0) = true := by rw [bne_iff_ne]; omega
      have HR := Lib.hid hright
      clear hright h1 hrf hw hf
      go_enter Tryd.func17, Tryd.ntmps17
      go_wp2_with fail
      refine HR.out.mono ?_
      rintro e w1 ⟨rfl, hb1⟩
      go_wp2
      go_ret2
      exact ⟨rfl, hb1⟩
  · have h2 : (rightR L k m).2 = 0 := Classical.byContradiction fun h => h1 (.inl h)
    have h3 : (rightR L k m).1 = false := by
      cases e : (rightR L k m).1 with
      | false => rfl
      | true => exact absurd (.inr e) h1
    have hno : ¬ noRows L k m := fun hno => by
      unfold rightR at h2; rw [if_pos hno] at h2; cases h2
    have hc : ¬ presC L L.length < L.length := fun hc => by
      unfold rightR at h2; rw [if_neg hno, if_pos hc] at h2; cases h2
    obtain ⟨kn, mn, rfl, rfl, hk1, hkm, hLk, _, hodd⟩ := noRows_ok hno
    have hfit : fitB kn mn L (presT L) = false := by
      unfold rightR at h3; rw [if_neg hno, if_neg hc] at h3; exact h3
    have hfull := presC_full hc
    have hm1 : 1 ≤ mn := by
      refine Classical.byContradiction fun h0 => ?_
      obtain rfl : mn = 0 := by omega
      rw [fit_m0 hk1 (by omega) hLk hfull hodd] at hfit
      cases hfit
    have hwr : wrongR L kn mn = match wrongI L kn mn with | some i => ((i : Int), 0) | none => (0, 15) := by
      unfold wrongR
      rw [if_neg hno, if_neg hc, if_neg (by show ¬ fitB kn mn L (presT L) = true; rw [hfit]; decide)]
      rfl
    rw [h2, h3] at hright
    obtain ⟨X, hX⟩ : ∃ X : Int × Nat, X = wrongR L kn mn := ⟨_, rfl⟩
    rw [← hX]
    rw [← hX] at hwr
    have hset : ∀ (i : Nat) (W : World) (g cap : Nat), i < L.length → RdLL W (some ⟨g, 0, none⟩) cap (L.set i []) → Calls Tryd.prog 28 #[.slice (some ⟨g, 0, none⟩) L.length cap, .int .i64 kn, .int .i64 mn] W fun e w' => e = .returned (.bool (fitB kn mn L (lessT L i))) ∧ Below W.heap.size W w' := fun i W g cap hi hrd => by
      have := alike_any W (some ⟨g, 0, none⟩) cap (L.set i []) kn mn hrd hk hm (by rw [List.length_set]; exact hL) (fun r hr => by
        rcases List.mem_or_eq_of_mem_set hr with h | h
        · exact hLl r h
        · rw [h]; simp)
      rw [List.length_set, less_alike hno hfull hm1 hi] at this
      exact this
    have HX := Lib.hid hwr
    have HSET := Lib.hid hset
    have HRIGHT := Lib.hid hright
    have HR := Lib.hid hr
    have hL14 : L.length ≤ 14 := by omega
    have hLn : ((L.length : Nat) : Int) ≤ 14 := by omega
    clear hright h1 h2 h3 hno hc hodd hLk hX hwr hset hr hk hm hfit hfull hm1 hkm hk1 hL
    go_enter Tryd.func17, Tryd.ntmps17
    go_wp2_with fail
    refine HRIGHT.out.mono ?_
    rintro e w1 ⟨rfl, hb1⟩
    go_wp2
    go_loopw [10] (fun s10 wr => ∃ i : Nat, i ≤ L.length ∧ s10 = .int .i64 i ∧ Hid (∀ j, j < i → fitB kn mn L (lessT L j) = false) ∧ Below w.heap.size w wr) (fun s10 _ => L.length - (intOf s10).toNat)
    case atStart => exact ⟨0, by omega, rfl, Lib.hid (fun j h => by omega), hb1⟩
    case round =>
      clear hb1
      obtain ⟨i, hi, rfl, HI, hb⟩ := hrel
      by_cases hlt : i < L.length
      · have hii : (i : Int) < (L.length : Int) := by omega
        obtain ⟨vs, hrv, hvl, hrow⟩ := HR.out.kept hb
        have hrv2 := hrv.kept ((Below.refl wr.heap.size wr).alloc (Nat.le_refl _) (.cells #[] 34))
        have hbe : Below w.heap.size w (wr.alloc (.cells #[] 34)) := hb.alloc hb.size _
        have HROW := Lib.hid hrow
        have HBE := Lib.hid hbe
        have HB := Lib.hid hb
        obtain ⟨G, hG⟩ : ∃ G, G = wr.heap.size := ⟨_, rfl⟩
        have hGs : w.heap.size ≤ G := by rw [hG]; exact hb.size
        have hemp := own_empty wr 34
        clear hrow hrv hbe hb
        have hGs1 : G ≤ wr.heap.size := by omega
        rw [← hG] at hemp
        have HG := Lib.hid hG
        clear hG
        go_wp2_with (with_reducible refine At.slot 31 ?_)
        rw [← HG.out]
        refine At.out (wpList_app rfl (.tmp 29) (.tmp 30) 22 rfl elemR rfl G _ 0 [] rfl hemp _ L.length c vs rfl hvl.symm hrv2 (fun u hu => rows_one HROW.out hvl u hu) (by unfold maxLen; omega) (by omega) (by simp; omega) ?_)
        intro v4 w4 ho4 hb4 _
        rw [Nat.zero_add, List.nil_append] at ho4
        have hLay : ∃ g cap, v4 = .slice (some ⟨g, 0, none⟩) L.length cap ∧ G ≤ g ∧ Lay wr w4 G g L.length cap vs L := by
          obtain ⟨g, cap, he, h1, _⟩ := own_pos ho4 (by omega)
          subst he
          exact ⟨g, cap, rfl, h1, ho4, rfl, HROW.out⟩
        obtain ⟨g, cap, rfl, hGg, hLay⟩ := hLay
        have hb5 : Below w.heap.size w w4 := HBE.out.trans (hb4.mono hGs)
        have hb6 : Below G wr w4 := ((Below.refl G wr).alloc hGs1 _).trans hb4
        obtain ⟨ad5, cd5, hc5, hf5, _⟩ := hLay.cell i hlt
        have hput := hLay.put i none 0 0 [] rfl (Rd.none wr)
        have hb7 : Below w.heap.size w (w4.setCell ⟨g, i, none⟩ (.slice none 0 0)) := hb5.setCell (p := ⟨g, i, none⟩) (by show w.heap.size ≤ g; omega) _
        have hb8 : Below G wr (w4.setCell ⟨g, i, none⟩ (.slice none 0 0)) := hb6.setCell (p := ⟨g, i, none⟩) (by show G ≤ g; exact hGg) _
        have hcall := HSET.out i _ g cap hlt (hput.rd (HG.out ▸ hb8))
        have HCALL := Lib.hid hcall
        have HB7 := Lib.hid hb7
        clear hrv2 hemp ho4 hb4 hLay hb5 hb6 hput hb7 hb8 hcall hvl
        cases hfv : fitB kn mn L (lessT L i) with
        | true =>
          rw [hfv] at HCALL
          have hx : Hid (X = ((i : Int), 0)) := Lib.hid (by
            rw [HX.out]
            unfold wrongI
            rw [find_some hlt HI.out hfv])
          clear hfv
          go_wp2_with fail
          refine HCALL.out.mono ?_
          rintro e w5 ⟨rfl, hb9⟩
          have hend : Below w.heap.size w w5 := HB7.out.trans (hb9.mono HB7.out.size)
          clear hb9
          go_wp2
          go_ret2
          rw [hx.out]
          exact ⟨rfl, hend⟩
        | false =>
          rw [hfv] at HCALL
          have HI2 : Hid (∀ j, j < i + 1 → fitB kn mn L (lessT L j) = false) := Lib.hid (fun j hj => by
            by_cases e : j = i
            · subst e; exact hfv
            · exact HI.out j (by omega))
          clear hfv
          go_wp2_with fail
          refine HCALL.out.mono ?_
          rintro e w5 ⟨rfl, hb9⟩
          have hend : Below w.heap.size w w5 := HB7.out.trans (hb9.mono HB7.out.size)
          clear hb9
          go_wp2
          go_roundw
          case rel => exact ⟨i + 1, by omega, by go_num, HI2, hend⟩
          case measure => simp [intOf]; omega
      · obtain rfl : L.length = i := by omega
        have hnl : ¬ (L.length : Int) < (L.length : Int) := by omega
        have hx : Hid (X = (0, 15)) := Lib.hid (by
          rw [HX.out]
          unfold wrongI
          rw [find_none HI.out])
        have HB := Lib.hid hb
        clear hb
        go_wp2
        go_ret2
        rw [hx.out]
        exact ⟨rfl, HB.out⟩
end Go.Proofs.YtmeckdgigjjjbaaDoor
