/- fsm's Sum: the contract. Conditions: its own premises. -/
import Derived.Test.YteenbobblbehoaaFsmVw
import Derived.Test.YteenbobblbehoaaSum
namespace Go.Proofs.Yteenbobblbehoaa
open Go Go.RowKit

def uw64 (n : Int) : UInt64 := UInt64.ofNat (n % 18446744073709551616).toNat
theorem uw64_int (n : Int) : n % 18446744073709551616 = ((uw64 n).toNat : Int) := by
  unfold uw64
  rw [UInt64.toNat_ofNat', Nat.mod_eq_of_lt (by omega)]
  omega
theorem uw64_wrap (n : Int) : IntKind.u64.wrap n = ((uw64 n).toNat : Int) := by rw [← uw64_int, IntKind.wrap_u64]
def numB (l : List Int) : List UInt8 := (l.map fun n => uv (uw64 n).toNat).flatten
theorem numB_snoc (l : List Int) (n : Int) : numB (l ++ [n]) = numB l ++ uv (uw64 n).toNat := by simp [numB]
theorem numB_len : ∀ l : List Int, (numB l).length ≤ 11 * l.length
  | [] => by simp [numB]
  | n :: l => by
    have := numB_len l
    have h2 := uv_len (uw64 n).toNat
    simp only [numB, List.map_cons, List.flatten_cons, List.length_append, List.length_cons] at this ⊢
    omega
/-- What is summed of a row. -/
def rowNs (i : Nat) (V : Vl) : List Int := [(i : Int) + 1, V.st, V.ep, oneI V.fr, (V.nodes.length : Int)] ++ V.nodes.map (· + 1) ++ [V.key]
theorem rowNs_len (i : Nat) (V : Vl) : (rowNs i V).length = V.nodes.length + 6 := by simp [rowNs]
def tabB : Nat → List Vl → List UInt8
  | _, [] => []
  | i, V :: L => numB (rowNs i V) ++ tabB (i + 1) L
theorem tabB_snoc (V : Vl) : ∀ (L : List Vl) (i : Nat), tabB i (L ++ [V]) = tabB i L ++ numB (rowNs (i + L.length) V)
  | [], i => by simp [tabB]
  | N :: L, i => by
    have := tabB_snoc V L (i + 1)
    simp only [List.cons_append, tabB, List.length_cons]
    rw [this, List.append_assoc, show i + (L.length + 1) = i + 1 + L.length by omega]
theorem tabB_len : ∀ (L : List Vl) (i : Nat), (∀ V ∈ L, V.nodes.length ≤ 64) → (tabB i L).length ≤ 770 * L.length
  | [], _, _ => by simp [tabB]
  | N :: L, i, h => by
    have h1 := tabB_len L (i + 1) fun V hV => h V (List.mem_cons_of_mem _ hV)
    have h2 := numB_len (rowNs i N)
    have h3 := h N (List.mem_cons_self ..)
    rw [rowNs_len] at h2
    simp only [tabB, List.length_append, List.length_cons]
    omega
def sumL (L : List Vl) : UInt32 := crc (tabB 0 L)

set_option maxRecDepth 100000 in
set_option maxHeartbeats 8000000 in
theorem fsmSum_any (w : World) (F : Nat → Prop) (t : Nat) (L : List Vl) (hT : TabI w F t L) (hok : OkL L) (hL : L.length ≤ 4096) :
    Calls Try.prog 14 #[ptrV t] w fun e w' => e = .returned (.int .u32 (sumL L).toNat) ∧ Below w.heap.size w w' := by
  obtain ⟨⟨ra, rc, ps, k1, k2, k3, k4, k5, k6⟩, k7⟩ := hT
  obtain ⟨N, hN⟩ : ∃ N, N = L.length := ⟨_, rfl⟩
  have c0 := k1.cell 0
  unfold tblC at c0
  simp only [List.getElem?_toArray, List.getElem?_cons_zero] at c0
  obtain ⟨a', c', hv', hrow⟩ := Rd.ofOwn k2
  cases hv'
  have hps : ∀ i V, L[i]? = some V → ∃ p, (∃ b o, ra = some ⟨b, o, none⟩ ∧ b < w.heap.size ∧ w.cell? ⟨b, o + i, none⟩ = some (ptrV p)) ∧ VlR w F p i V := by
    intro i V hV
    have hi := (List.getElem?_eq_some_iff.1 hV).1
    have hpi : ps[i]? = some ps[i] := List.getElem?_eq_getElem (by omega)
    obtain ⟨b, o, e1, e2⟩ := hrow.cs i (ptrV ps[i]) (by simp [hpi])
    refine ⟨ps[i], ⟨b, o, e1, ?_, e2⟩, (k6 i _ V hpi hV).2⟩
    unfold World.cell? at e2
    by_cases hb' : b < w.heap.size
    · exact hb'
    · rw [Array.getElem?_eq_none (by simpa using hb')] at e2
      simp at e2
  have htl : t < w.heap.size := k1.lt
  have htake : ∀ k, (tabB 0 (L.take k)).length ≤ 3153920 := by
    intro k
    have h1 := tabB_len (L.take k) 0 fun V hV => by have := hok V (List.mem_of_mem_take hV); unfold OkV at this; omega
    have h2 : (L.take k).length ≤ L.length := by rw [List.length_take]; omega
    omega
  have HPS := Lib.hid hps
  have HTK := Lib.hid htake
  rw [← hN] at c0 hL
  have HN := Lib.hid hN
  have HOK := Lib.hid hok
  obtain ⟨R, hR⟩ : ∃ R, R = sumL L := ⟨_, rfl⟩
  rw [← hR]
  have HR := Lib.hid hR
  clear hrow hps k1 k2 k3 k4 k5 k6 k7 hN htake hok hR
  unfold ptrV
  go_enter Try.func14, Try.ntmps14
  go_wp2
  go_loopw [3, 18] (fun s3 s18 wr => ∃ (k : Nat) (sa : Option Addr) (sc : Nat), k ≤ N ∧ s18 = .int .i64 k ∧ s3 = .slice sa (tabB 0 (L.take k)).length sc ∧ wr.ownsRow w.heap.size 5 1 (.slice sa (tabB 0 (L.take k)).length sc) (tabB 0 (L.take k)).length (B8 (tabB 0 (L.take k))) ∧ Below w.heap.size w wr) (fun _ s18 _ => N - (intOf s18).toNat)
  case atStart => exact ⟨0, none, 0, by omega, rfl, rfl, World.ownsRow_nil _ _ _ _, Below.refl _ _⟩
  case round =>
    obtain ⟨k, sa, sc, hk, rfl, rfl, ho, hb⟩ := hrel
    by_cases hlt : k < N
    · have hkl : k < L.length := by have := HN.out; omega
      obtain ⟨V, hV⟩ : ∃ V, L[k]? = some V := ⟨_, List.getElem?_eq_getElem hkl⟩
      obtain ⟨p, ⟨b, o, rfl, hbl, hc⟩, an, cn, hB, hTr, _⟩ := HPS.out k V hV
      have hki : (k : Int) < (N : Int) := by omega
      have hcr : wr.cell? ⟨b, o + k, none⟩ = some (.pointer (some ⟨p, 0, none⟩)) := (hb.cell (p := ⟨b, o + k, none⟩) hbl).trans hc
      have hBr := hB.at hb hB.lt
      obtain ⟨m, hm⟩ : ∃ m, m = V.nodes.length := ⟨_, rfl⟩
      rw [← hm] at hBr
      have d0 := hBr.cell 0
      have d1 := hBr.cell 1
      have d2 := hBr.cell 2
      have d3 := hBr.cell 3
      have d4 := hBr.cell 4
      have d6 := hBr.cell 6
      simp only [List.getElem?_toArray, List.getElem?_cons_succ, List.getElem?_cons_zero] at d0 d1 d2 d3 d4 d6
      have hpl : p < wr.heap.size := hBr.lt
      have hvk : OkV V := HOK.out V (List.mem_of_getElem? hV)
      have hm64 : m ≤ 64 := by unfold OkV at hvk; omega
      obtain ⟨bn, hbn⟩ : ∃ bn, bn = (tabB 0 (L.take k)).length := ⟨_, rfl⟩
      rw [← hbn] at ho ⊢
      have hbn6 : bn ≤ 3153920 := by rw [hbn]; exact HTK.out k
      have HV := Lib.hid hV
      have HM := Lib.hid hm
      have HO := Lib.hid ho
      have HBN := Lib.hid hbn
      have HTr := Lib.hid (hTr.kept hb)
      have HVK := Lib.hid hvk
      clear hB hTr hc hV ho hBr hm hbn hvk
      go_upto_region 7 with (fail)
      go_region_held3 (fun X => X.cell? ⟨p, 0, none⟩ = some (.int .i64 ((k : Int) + 1)) ∧ X.cell? ⟨p, 1, none⟩ = some (.int .i64 V.st) ∧ X.cell? ⟨p, 2, none⟩ = some (.int .i64 V.ep) ∧ X.cell? ⟨p, 3, none⟩ = some (.slice an m cn) ∧ X.cell? ⟨p, 4, none⟩ = some (.bool V.fr) ∧ X.cell? ⟨p, 6, none⟩ = some (.int .i64 V.key) ∧ Below wr.heap.size wr X)
        (first
          | exact rowS (Below.refl _ _).drew hpl d0 d1 d2 d3 d4 d6
          | exact rowS ((Below.refl _ _).drew.alloc (Nat.le_refl _) _) hpl d0 d1 d2 d3 d4 d6)
        (first
          | (go_at_call 31; refine (one_any _ _).mono ?_; rintro e w3 ⟨rfl, rfl⟩))
      go_wp2
      obtain ⟨W1, hW1⟩ : ∃ W1, W1 = (wr.alloc (.cells #[.int .i64 ((k : Int) + 1), .int .i64 V.st, .int .i64 V.ep, .int .i64 (oneI V.fr), .int .i64 (m : Int)] 3)).drew := ⟨_, rfl⟩
      obtain ⟨wo, hwo⟩ : ∃ wo : World, wo = wr := ⟨_, rfl⟩
      rw [← hW1]
      subst hwo
      obtain ⟨G, hG⟩ : ∃ G, G = wo.heap.size := ⟨_, rfl⟩
      have hwG : w.heap.size ≤ G := by have := hb.size; omega
      have hstart : W1.ownsRow G 3 1 (.slice (some ⟨wo.heap.size, 0, none⟩) (5 + 0) 5) (5 + 0) (BI ([(k : Int) + 1, V.st, V.ep, oneI V.fr, (m : Int)] ++ (V.nodes.take 0).map (· + 1))) := by
        rw [hW1, hG]
        exact World.ownsRow.drew (World.ownsRow_lit (e := 3) (size := 1) wo #[.int .i64 ((k : Int) + 1), .int .i64 V.st, .int .i64 V.ep, .int .i64 (oneI V.fr), .int .i64 (m : Int)] 5 (Nat.le_refl _) (by unfold maxLen; omega) rfl)
      have hbW1 : Below G wo W1 := by rw [hW1, hG]; exact ((Below.refl _ _).alloc (Nat.le_refl _) _).drew
      have HS := Lib.hid hstart
      have HG := Lib.hid hG
      have HB := Lib.hid hb
      have HBW := Lib.hid hbW1
      have hpG : p < G := by omega
      clear hW1 hstart hG hb hbW1
      go_loopw [6, 56] (fun s6 s56 wr => ∃ (j : Nat) (a6 : Option Addr) (c6 : Nat), j ≤ m ∧ s56 = .int .i64 j ∧ s6 = .slice a6 (5 + j) c6 ∧ wr.ownsRow G 3 1 (.slice a6 (5 + j) c6) (5 + j) (BI ([(k : Int) + 1, V.st, V.ep, oneI V.fr, (m : Int)] ++ (V.nodes.take j).map (· + 1))) ∧ Below G wo wr) (fun _ s56 _ => m - (intOf s56).toNat)
      case atStart => exact ⟨0, some ⟨wo.heap.size, 0, none⟩, 5, by omega, rfl, rfl, HS.out, HBW.out⟩
      case round =>
        obtain ⟨j, a6, c6, hj, rfl, rfl, ho6, hb6⟩ := hrel
        by_cases hjm : j < m
        · have hjl : j < V.nodes.length := by have := HM.out; omega
          have hji : (j : Int) < (m : Int) := by omega
          obtain ⟨x, hx⟩ : ∃ x, V.nodes[j]? = some x := ⟨_, List.getElem?_eq_getElem hjl⟩
          have hxr : -1 ≤ x ∧ x < 64 := by have := HVK.out; unfold OkV at this; exact this.2.2.2.2.2.2.2 x (List.mem_of_getElem? hx)
          obtain ⟨b1, o1, rfl, u1⟩ := (HTr.out.1.kept (HG.out ▸ hb6)).cs j (.int .i64 x) (by simp [BI, hx])
          have hxw : IntKind.i64.wrap (x + 1) = x + 1 := IntWalk.i64_in _ (by omega)
          have HX := Lib.hid hx
          have hzz : G ≤ wr.heap.size := by have := hb6.size; have := HG.out; omega
          clear hx
          go_wp2_with (with_reducible refine At.slot 64 ?_)
          refine At.out (wpList_app rfl (.tmp 60) (.tmp 63) 27 rfl elemN rfl G _ (5 + j) _ rfl (ho6.alloc _) (some ⟨wr.heap.size, 0, none⟩) 1 1 [.int .i64 (x + 1)] rfl rfl (Rd.one wr _ _) (by simp [Value.oneCell']) (by unfold maxLen; omega) (by omega) (by simp; omega) ?_)
          intro v7 w7 ho7 hb7 _
          obtain ⟨a7, c7, rfl, _⟩ := Rd.ofOwn ho7
          have hnx : BI ([(k : Int) + 1, V.st, V.ep, oneI V.fr, (m : Int)] ++ (V.nodes.take (j + 1)).map (· + 1)) = BI ([(k : Int) + 1, V.st, V.ep, oneI V.fr, (m : Int)] ++ (V.nodes.take j).map (· + 1)) ++ [.int .i64 (x + 1)] := by
            rw [List.take_succ_eq_append_getElem hjl, ← Option.some.inj (HX.out.symm.trans (List.getElem?_eq_getElem hjl)), List.map_append, ← List.append_assoc, BI_append]
            rfl
          rw [← hnx] at ho7
          have HO7 := Lib.hid ho7
          have HB7 := Lib.hid (hb6.trans (((below_lit wr #[.int .i64 (x + 1)] 3).mono hzz).trans hb7))
          clear ho7 hb7 hnx
          go_wp2
          go_roundw
          case rel => exact ⟨j + 1, _, _, by omega, by go_num, rfl, HO7.out, HB7.out⟩
          case measure => simp [intOf]; omega
        · have hjm2 : j = m := by omega
          have htk : V.nodes.take j = V.nodes := List.take_of_length_le (by have := HM.out; omega)
          rw [htk] at ho6
          subst hjm2
          have hzz : G ≤ wr.heap.size := by have := hb6.size; have := HG.out; omega
          have d6' : wr.cell? ⟨p, 6, none⟩ = some (.int .i64 V.key) := (hb6.cell hpG).trans d6
          have hpw : p < wr.heap.size := by omega
          clear htk
          go_wp2_with (with_reducible refine At.slot 72 ?_)
          refine At.out (wpList_app rfl (.tmp 66) (.tmp 71) 27 rfl elemN rfl G _ (5 + j) _ rfl (ho6.alloc _) (some ⟨wr.heap.size, 0, none⟩) 1 1 [.int .i64 V.key] rfl rfl (Rd.one wr _ _) (by simp [Value.oneCell']) (by unfold maxLen; omega) (by omega) (by simp; omega) ?_)
          intro v7 w7 ho7 hb7 _
          obtain ⟨a7, c7, rfl, _⟩ := Rd.ofOwn ho7
          have hns : BI ([(k : Int) + 1, V.st, V.ep, oneI V.fr, (j : Int)] ++ V.nodes.map (· + 1)) ++ [.int .i64 V.key] = BI (rowNs k V) := by
            unfold rowNs
            rw [← HM.out, BI_append _ [V.key]]
            rfl
          rw [hns] at ho7
          obtain ⟨a7', c7', hv7, hT7⟩ := TRd.ofOwn ho7
          simp only [Value.slice.injEq, true_and] at hv7
          obtain ⟨rfl, rfl⟩ := hv7
          have hb7' := hb6.trans (((below_lit wr #[.int .i64 V.key] 3).mono hzz).trans hb7)
          have hbw7 : Below w.heap.size w w7 := HB.out.trans (hb7'.mono hwG)
          have ho8 := own_below HO.out (HG.out ▸ hb7')
          have HT7 := Lib.hid hT7
          have HO8 := Lib.hid ho8
          have HBW7 := Lib.hid hbw7
          have hrl : (rowNs k V).length = 5 + j + 1 := by rw [rowNs_len, ← HM.out]; omega
          have HRL := Lib.hid hrl
          clear ho6 hb6 ho7 hb7 hns hT7 hb7' hbw7 ho8 hrl d6'
          go_wp2
          go_loopw [3, 74] (fun s3 s74 wr => ∃ (i : Nat) (a3 : Option Addr) (c3 bq : Nat), i ≤ 5 + j + 1 ∧ s74 = .int .i64 i ∧ s3 = .slice a3 bq c3 ∧ Hid (bq = bn + (numB ((rowNs k V).take i)).length) ∧ wr.ownsRow w.heap.size 5 1 (.slice a3 bq c3) bq (B8 (tabB 0 (L.take k) ++ numB ((rowNs k V).take i))) ∧ Hid (TRd wr 3 a7 c7 (BI (rowNs k V))) ∧ Below w.heap.size w wr) (fun _ s74 _ => 5 + j + 1 - (intOf s74).toNat)
          case atStart => exact ⟨0, sa, sc, bn, by omega, rfl, rfl, rfl, by rw [List.take_zero]; simpa [numB] using HO8.out, HT7, HBW7.out⟩
          case round =>
            obtain ⟨i, a3, c3, bq, hi, rfl, rfl, hbq, ho3, hT3, hb3⟩ := hrel
            by_cases hin : i < 5 + j + 1
            · have hil : i < (rowNs k V).length := by have := HRL.out; omega
              have hii : (i : Int) < 5 + (j : Int) + 1 := by omega
              obtain ⟨x, hx⟩ : ∃ x, (rowNs k V)[i]? = some x := ⟨_, List.getElem?_eq_getElem hil⟩
              obtain ⟨b1, o1, rfl, u1⟩ := hT3.out.1.cs i (.int .i64 x) (by simp [BI, hx])
              have q1 := uw64_wrap x
              have q2 := uw64_int x
              have HX := Lib.hid hx
              have hnl := numB_len ((rowNs k V).take i)
              have hbq2 : bq ≤ 3160000 := by have := hbq.out; have := List.length_take_le' i (rowNs k V); have := HRL.out; omega
              obtain ⟨y, hy⟩ : ∃ y, y = uw64 x := ⟨_, rfl⟩
              rw [← hy] at q1 q2
              have HY := Lib.hid hy
              clear hx hnl hy
              go_wp2_with fail
              refine (uvarint_any y _).mono ?_
              rintro e w8 ⟨r8, rfl, ho8, hb8⟩
              obtain ⟨a8, c8, rfl, hr8⟩ := Rd.ofOwn ho8
              have hl8 := uv_len y.toNat
              obtain ⟨n8, hn8⟩ : ∃ n8, n8 = (uv y.toNat).length := ⟨_, rfl⟩
              rw [← hn8] at hl8 ⊢
              have HN8 := Lib.hid hn8
              have hzz := hb3.size
              have hzz8 := hb8.size
              clear hn8
              go_wp2_with (with_reducible refine At.slot 82 ?_)
              refine At.out (wpList_app rfl (.tmp 78) (.tmp 81) 31 rfl elemB rfl w.heap.size _ bq _ rfl (own_below ho3 hb8) a8 n8 c8 (B8 (uv y.toNat)) rfl (by rw [B8_length]; exact HN8.out) hr8 (B8_one _) (by unfold maxLen; omega) (by omega) (by omega) ?_)
              intro v9 w9 ho9 hb9 hg9
              obtain ⟨a9, c9, rfl, _⟩ := Rd.ofOwn ho9
              have hT9 : TRd w9 3 (some ⟨b1, o1, none⟩) c7 (BI (rowNs k V)) := TRd.off (F := fun q => (Value.slice a3 bq c3).ownBlock = some q) (hT3.out.kept hb8) (Off.ofGrown hg9 fun _ h => h) (by
                intro q cs fr hq hh
                obtain ⟨cs', fr', hh'⟩ := own_ty (own_below ho3 hb8) q hq
                rw [hh'] at hh
                cases hh)
              have hsn : numB ((rowNs k V).take (i + 1)) = numB ((rowNs k V).take i) ++ uv y.toNat := by
                rw [List.take_succ_eq_append_getElem hil, numB_snoc, ← Option.some.inj (HX.out.symm.trans (List.getElem?_eq_getElem hil)), HY.out]
              have hB8 : B8 (tabB 0 (L.take k) ++ numB ((rowNs k V).take (i + 1))) = B8 (tabB 0 (L.take k) ++ numB ((rowNs k V).take i)) ++ B8 (uv y.toNat) := by
                rw [hsn, ← List.append_assoc, B8_append _ (uv y.toNat)]
              rw [← hB8] at ho9
              have hbq9 : bq + n8 = bn + (numB ((rowNs k V).take (i + 1))).length := by rw [hsn, List.length_append, HN8.out, hbq.out]; omega
              have HO9 := Lib.hid ho9
              have HT9 := Lib.hid hT9
              have HBQ9 := Lib.hid hbq9
              have HB9 := Lib.hid ((hb3.trans (hb8.mono hzz)).trans hb9)
              clear ho9 hT9 hbq9 hb9 hg9 hsn hB8 ho8 hb8 hr8
              go_wp2
              go_roundw
              case rel => exact ⟨i + 1, _, _, _, by omega, by go_num, rfl, HBQ9, HO9.out, HT9, HB9.out⟩
              case measure => simp [intOf]; omega
            · have hie : i = 5 + j + 1 := by omega
              have htk : (rowNs k V).take i = rowNs k V := List.take_of_length_le (by have := HRL.out; omega)
              have hLk : tabB 0 (L.take (k + 1)) = tabB 0 (L.take k) ++ numB (rowNs k V) := by
                rw [List.take_succ_eq_append_getElem hkl, ← Option.some.inj (HV.out.symm.trans (List.getElem?_eq_getElem hkl)), tabB_snoc]
                rw [show 0 + (L.take k).length = k by rw [List.length_take]; omega]
              have hbq2 : bq = (tabB 0 (L.take (k + 1))).length := by rw [hLk, List.length_append, hbq.out, htk, HBN.out]
              rw [htk, ← hLk] at ho3
              have HO3 := Lib.hid ho3
              have HB3 := Lib.hid hb3
              have HBQ := Lib.hid hbq2
              subst hie
              clear ho3 hb3 hbq2 hLk htk hbq
              go_wp2
              go_roundw
              case rel => exact ⟨k + 1, a3, c3, by omega, by go_num, by rw [HBQ.out], by rw [← HBQ.out]; exact HO3.out, HB3.out⟩
              case measure => simp [intOf]; omega
    · have hkN : k = N := by omega
      have hLk : L.take k = L := List.take_of_length_le (by have := HN.out; omega)
      rw [hLk] at ho ⊢
      obtain ⟨_, _, hv, hrd⟩ := Rd.ofOwn ho
      cases hv
      have HSM := Lib.hid (sum_any wr sa sc (tabB 0 L) hrd)
      have HB := Lib.hid hb
      have hbz := hb.size
      subst hkN
      have hRc : R = crc (tabB 0 L) := HR.out
      have HRC := Lib.hid hRc
      clear ho hb hrd hLk hRc
      go_wp2_with fail
      refine HSM.out.mono ?_
      rintro e w3 ⟨rfl, hb3⟩
      have HB3 := Lib.hid (HB.out.trans (hb3.mono hbz))
      clear hb3
      go_wp2
      go_ret
      rw [HRC.out]
      exact ⟨rfl, HB3.out⟩
end Go.Proofs.Yteenbobblbehoaa
