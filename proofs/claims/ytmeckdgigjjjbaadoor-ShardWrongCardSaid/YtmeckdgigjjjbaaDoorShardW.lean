/- shard's Mend, Right, Wrong: the contracts. Conditions: each contract's own premises. -/
import Derived.Test.YtmeckdgigjjjbaaDoorShardP
namespace Go.Proofs.YtmeckdgigjjjbaaDoor
open Go Go.RowKit

theorem tab_kept {w w' : World} (h : TabAt 0 Lib.deBruijn64tab w) (hb : Below w.heap.size w w') : TabAt 0 Lib.deBruijn64tab w' := fun j hj =>
  (hb.cell (p := ⟨0, j, none⟩) (World.block_lt_of_cell? w _ (h j hj))).trans (h j hj)

theorem andNot_bit (T i : Nat) (hT : T < 4294967296) (hi : i < 32) : ∃ T' : Nat, bits BinOp.andNot IntKind.u32 (T : Int) (IntKind.u32.wrap (2 ^ i)) = (T' : Int) ∧ T' < 4294967296 ∧ ∀ r, T'.testBit r = (T.testBit r && decide (r ≠ i)) := by
  have hp : 2 ^ i < 2 ^ 32 := Nat.pow_lt_pow_right (by decide) hi
  have e0 : IntKind.u32.wrap (2 ^ i) = ((2 ^ i : Nat) : Int) := by
    rw [show (2 : Int) ^ i = ((2 ^ i : Nat) : Int) by rw [Int.natCast_pow]; rfl, wrap_u32']
    obtain ⟨q, hq⟩ : ∃ q, q = 2 ^ i := ⟨_, rfl⟩
    rw [← hq] at hp ⊢
    omega
  have h1 : BitVec.ofInt 32 (T : Int) = BitVec.ofNat 32 T := by rw [BitVec.ofInt_natCast]
  have h2 : BitVec.ofInt 32 ((2 ^ i : Nat) : Int) = BitVec.ofNat 32 (2 ^ i) := by rw [BitVec.ofInt_natCast]
  have hlt : (BitVec.ofNat 32 T &&& ~~~BitVec.ofNat 32 (2 ^ i)).toNat < 4294967296 := (BitVec.ofNat 32 T &&& ~~~BitVec.ofNat 32 (2 ^ i)).isLt
  refine ⟨(BitVec.ofNat 32 T &&& ~~~BitVec.ofNat 32 (2 ^ i)).toNat, ?_, hlt, fun r => ?_⟩
  · rw [e0]
    show IntKind.u32.wrap ((BitVec.ofInt 32 (T : Int) &&& ~~~BitVec.ofInt 32 ((2 ^ i : Nat) : Int)).toNat : Int) = _
    rw [h1, h2, wrap_u32']
    omega
  · show (BitVec.ofNat 32 T &&& ~~~BitVec.ofNat 32 (2 ^ i)).toNat.testBit r = _
    rw [BitVec.testBit_toNat, BitVec.getLsbD_and, BitVec.getLsbD_not, BitVec.getLsbD_ofNat, BitVec.getLsbD_ofNat, Nat.testBit_two_pow]
    by_cases h32 : r < 32
    · by_cases e : i = r
      · subst e; simp [h32]
      · have : ¬ r = i := fun h => e h.symm
        simp [h32, e, this]
    · have : T.testBit r = false := by
        rw [Nat.testBit_lt_two_pow]
        exact Nat.lt_of_lt_of_le hT (by rw [show 4294967296 = 2 ^ 32 from rfl]; exact Nat.pow_le_pow_right (by decide) (by omega))
      simp [h32, this]

set_option maxRecDepth 100000 in
set_option maxHeartbeats 2000000 in
theorem mendAll_any (w : World) (a : Option Addr) (c : Nat) (L : Mx) (k m : Int) (hr : RdLL w a c L) (hk : -9223372036854775808 ≤ k ∧ k ≤ 9223372036854775807) (hm : -9223372036854775808 ≤ m ∧ m ≤ 9223372036854775807) (hL : L.length ≤ 1000000) (hLl : ∀ r ∈ L, r.length ≤ 1000000)
    (hTab : TabAt 0 Lib.deBruijn64tab w) :
    Calls Tryd.prog 9 #[.slice a L.length c, .int .i64 k, .int .i64 m] w (MxP w (mendR L k m)) := by
  have hb := begins_any w a c L k m hr hk hm hL hLl
  have HBG := Lib.hid hb
  clear hb
  by_cases hno : noRows L k m
  · rw [show mendR L k m = ([], 1) from if_pos hno]
    have HNO := Lib.hid hno
    clear hno
    go_enter Tryd.func9, Tryd.ntmps9
    go_wp2_with fail
    refine HBG.out.mono ?_
    rintro e w1 (⟨_, rfl, hb1⟩ | ⟨h, _⟩)
    · go_wp2
      go_ret2
      exact MxP.no 1 hb1
    · exact absurd HNO.out h
  · obtain ⟨kn, mn, rfl, rfl, hk1, hkm, hLk, _, hodd⟩ := noRows_ok hno
    obtain ⟨s, hs1, hs⟩ := even_len' hodd hLl
    have HNO := Lib.hid hno
    have HR := Lib.hid hr
    have HT := Lib.hid hTab
    have HS := Lib.hid hs
    have hmr : mendR L kn mn = if presC L L.length < kn then ([], 15) else (mendF kn mn L (firstK (presT L) kn (kn + mn)), 0) := if_neg hno
    have HLK := Lib.hid hLk
    have HLL := Lib.hid hLl
    clear hno hr hTab hs hodd hk hm hLl
    by_cases hlt : presC L L.length < kn
    · rw [hmr, if_pos hlt]
      clear hmr
      rw [hLk] at hlt ⊢
      have HLT := Lib.hid hlt
      clear hlt hLk
      go_enter Tryd.func9, Tryd.ntmps9
      go_wp2_with fail
      rw [← HLK.out]
      refine HBG.out.mono ?_
      rintro e w1 (⟨h, _⟩ | ⟨_, g, b, T, n, sz, ac, cc, hI, rfl, hw, hb1⟩)
      · exact absurd h HNO.out
      · have hnk : (n : Int) < (kn : Int) := by
          have h1 := hI.cnt
          have h2 := HLT.out
          rw [← HLK.out] at h2
          omega
        clear hI hw
        go_wp2
        go_ret2
        exact MxP.no 15 hb1
    · rw [hmr, if_neg hlt]
      clear hmr
      have HLT := Lib.hid hlt
      clear hlt
      rw [hLk]
      clear hLk
      go_enter Tryd.func9, Tryd.ntmps9
      go_wp2_with fail
      rw [← HLK.out]
      refine HBG.out.mono ?_
      rintro e w1 (⟨h, _⟩ | ⟨_, g, b, T, n, sz, ac, cc, hI, rfl, hw, hb1⟩)
      · exact absurd h HNO.out
      · have hnk : (kn : Int) ≤ (n : Int) := by
          have h1 := hI.cnt
          have h2 := HLT.out
          omega
        have hT := hI.bits
        have hm := mend_any w w1 g b kn mn ac cc hw hb1 hk1 hkm T (Nat.lt_of_lt_of_le hI.lt (by rw [HLK.out, show 4294967296 = 2 ^ 32 from rfl]; exact Nat.pow_le_pow_right (by decide) (by omega)))
          (by rw [hT, setL_pres, ← HLK.out]; have := HLT.out; omega) (tab_kept HT.out hb1) a c L HR.out HLK.out s hs1 (fun r _ h => HS.out r (by rw [hT] at h; exact h))
        rw [hT] at hm
        rw [HLK.out]
        have HM := Lib.hid hm
        clear hI hw hT hm
        go_wp2_with fail
        refine HM.out.mono ?_
        rintro e w2 ⟨v, rfl, ho, _, hb2⟩
        go_wp2
        go_ret2
        exact MxP.mk rfl ho hb2

set_option maxRecDepth 100000 in
set_option maxHeartbeats 2000000 in
theorem right_any (w : World) (a : Option Addr) (c : Nat) (L : Mx) (k m : Int) (hr : RdLL w a c L) (hk : -9223372036854775808 ≤ k ∧ k ≤ 9223372036854775807) (hm : -9223372036854775808 ≤ m ∧ m ≤ 9223372036854775807) (hL : L.length ≤ 1000000) (hLl : ∀ r ∈ L, r.length ≤ 1000000)
    (hTab : TabAt 0 Lib.deBruijn64tab w) :
    Calls Tryd.prog 14 #[.slice a L.length c, .int .i64 k, .int .i64 m] w fun e w' => e = .returned (.tuple #[.bool (rightR L k m).1, .int .i64 ((rightR L k m).2 : Nat)]) ∧ Below w.heap.size w w' := by
  have hb := begins_any w a c L k m hr hk hm hL hLl
  have HBG := Lib.hid hb
  clear hb
  by_cases hno : noRows L k m
  · rw [show rightR L k m = (false, 1) from if_pos hno]
    have HNO := Lib.hid hno
    clear hno
    go_enter Tryd.func14, Tryd.ntmps14
    go_wp2_with fail
    refine HBG.out.mono ?_
    rintro e w1 (⟨_, rfl, hb1⟩ | ⟨h, _⟩)
    · go_wp2
      go_ret2
      exact ⟨rfl, hb1⟩
    · exact absurd HNO.out h
  · obtain ⟨kn, mn, rfl, rfl, hk1, hkm, hLk, _, hodd⟩ := noRows_ok hno
    obtain ⟨s, hs1, hs⟩ := even_len' hodd hLl
    have HNO := Lib.hid hno
    have HR := Lib.hid hr
    have HT := Lib.hid hTab
    have HS := Lib.hid hs
    have hmr : rightR L kn mn = if presC L L.length < L.length then (false, 15) else (fitB kn mn L (presT L), 0) := if_neg hno
    have HLK := Lib.hid hLk
    clear hno hr hTab hs hodd hk hm hLl
    by_cases hlt : presC L L.length < L.length
    · rw [hmr, if_pos hlt]
      clear hmr
      rw [hLk] at hlt ⊢
      have HLT := Lib.hid hlt
      clear hlt hLk
      go_enter Tryd.func14, Tryd.ntmps14
      go_wp2_with fail
      rw [← HLK.out]
      refine HBG.out.mono ?_
      rintro e w1 (⟨h, _⟩ | ⟨_, g, b, T, n, sz, ac, cc, hI, rfl, hw, hb1⟩)
      · exact absurd h HNO.out
      · have hnk : (n : Int) < (kn : Int) + (mn : Int) := by
          have h1 := hI.cnt
          have h2 := HLT.out
          rw [← HLK.out] at h2
          have h3 := HLK.out
          omega
        rw [HLK.out]
        clear hI hw
        go_wp2
        go_ret2
        exact ⟨rfl, hb1⟩
    · rw [hmr, if_neg hlt]
      clear hmr
      have HLT := Lib.hid hlt
      clear hlt
      rw [hLk]
      clear hLk
      obtain ⟨r, hrr⟩ : ∃ r, r = fitB kn mn L (presT L) := ⟨_, rfl⟩
      rw [← hrr]
      have HRR := Lib.hid hrr
      clear hrr
      go_enter Tryd.func14, Tryd.ntmps14
      go_wp2_with fail
      rw [← HLK.out]
      refine HBG.out.mono ?_
      rintro e w1 (⟨h, _⟩ | ⟨_, g, b, T, n, sz, ac, cc, hI, rfl, hw, hb1⟩)
      · exact absurd h HNO.out
      · have hnk : (kn : Int) + (mn : Int) ≤ (n : Int) := by
          have h1 := hI.cnt
          have h2 := HLT.out
          have h3 := HLK.out
          omega
        have hT := hI.bits
        have hm := fit_any w w1 g b kn mn ac cc hw hb1 hk1 hkm T (Nat.lt_of_lt_of_le hI.lt (by rw [HLK.out, show 4294967296 = 2 ^ 32 from rfl]; exact Nat.pow_le_pow_right (by decide) (by omega)))
          (by rw [hT, setL_pres, ← HLK.out]; have := HLT.out; have := HLK.out; omega) (tab_kept HT.out hb1) a c L HR.out HLK.out s hs1 (fun r _ h => HS.out r (by rw [hT] at h; exact h))
        rw [hT, ← HRR.out] at hm
        rw [HLK.out]
        have HM := Lib.hid hm
        clear hI hw hT hm
        go_wp2_with fail
        refine HM.out.mono ?_
        rintro e w2 ⟨rfl, _, hb2⟩
        go_wp2
        go_ret2
        exact ⟨rfl, hb2⟩

theorem find_none {p : Nat → Bool} {n : Nat} (h : ∀ i, i < n → p i = false) : (List.range n).find? p = none := by
  rw [List.find?_eq_none]
  intro x hx
  rw [h x (List.mem_range.1 hx)]
  simp
theorem find_some {p : Nat → Bool} {n i : Nat} (hi : i < n) (h : ∀ j, j < i → p j = false) (hp : p i = true) : (List.range n).find? p = some i := by
  rw [List.find?_range_eq_some]
  exact ⟨hp, List.mem_range.2 hi, fun j hj => by rw [h j hj]; rfl⟩

set_option maxRecDepth 100000 in
set_option maxHeartbeats 2000000 in
theorem wrong_any (w : World) (a : Option Addr) (c : Nat) (L : Mx) (k m : Int) (hr : RdLL w a c L) (hk : -9223372036854775808 ≤ k ∧ k ≤ 9223372036854775807) (hm : -9223372036854775808 ≤ m ∧ m ≤ 9223372036854775807) (hL : L.length ≤ 1000000) (hLl : ∀ r ∈ L, r.length ≤ 1000000)
    (hTab : TabAt 0 Lib.deBruijn64tab w) :
    Calls Tryd.prog 16 #[.slice a L.length c, .int .i64 k, .int .i64 m] w fun e w' => e = .returned (.tuple #[.int .i64 (wrongR L k m).1, .int .i64 ((wrongR L k m).2 : Nat)]) ∧ Below w.heap.size w w' := by
  have hb := begins_any w a c L k m hr hk hm hL hLl
  have HBG := Lib.hid hb
  clear hb
  by_cases hno : noRows L k m
  · rw [show wrongR L k m = (0, 1) from if_pos hno]
    have HNO := Lib.hid hno
    clear hno
    go_enter Tryd.func16, Tryd.ntmps16
    go_wp2_with fail
    refine HBG.out.mono ?_
    rintro e w1 (⟨_, rfl, hb1⟩ | ⟨h, _⟩)
    · go_wp2
      go_ret2
      exact ⟨rfl, hb1⟩
    · exact absurd HNO.out h
  · obtain ⟨kn, mn, rfl, rfl, hk1, hkm, hLk, _, hodd⟩ := noRows_ok hno
    obtain ⟨s, hs1, hs⟩ := even_len' hodd hLl
    have HNO := Lib.hid hno
    have HR := Lib.hid hr
    have HT := Lib.hid hTab
    have HS := Lib.hid hs
    have hmr : wrongR L kn mn = if presC L L.length < L.length then (0, 15) else if fitB kn mn L (presT L) = true then (-1, 0) else match wrongI L kn mn with | some i => ((i : Int), 0) | none => (0, 15) := if_neg hno
    have HLK := Lib.hid hLk
    have HODD := Lib.hid hodd
    clear hno hr hTab hs hodd hk hm hLl
    by_cases hlt : presC L L.length < L.length
    · rw [hmr, if_pos hlt]
      clear hmr
      rw [hLk] at hlt ⊢
      have HLT := Lib.hid hlt
      clear hlt hLk
      go_enter Tryd.func16, Tryd.ntmps16
      go_wp2_with fail
      rw [← HLK.out]
      refine HBG.out.mono ?_
      rintro e w1 (⟨h, _⟩ | ⟨_, g, b, T, n, sz, ac, cc, hI, rfl, hw, hb1⟩)
      · exact absurd h HNO.out
      · have hnk : (n : Int) < (kn : Int) + (mn : Int) := by
          have h1 := hI.cnt
          have h2 := HLT.out
          rw [← HLK.out] at h2
          have h3 := HLK.out
          omega
        rw [HLK.out]
        clear hI hw
        go_wp2
        go_ret2
        exact ⟨rfl, hb1⟩
    · rw [hmr, if_neg hlt]
      clear hmr
      have hfull := presC_full hlt
      have HLT := Lib.hid hlt
      have HFULL := Lib.hid hfull
      clear hlt hfull
      obtain ⟨r, hrr⟩ : ∃ r, r = fitB kn mn L (presT L) := ⟨_, rfl⟩
      obtain ⟨X, hX⟩ : ∃ X : Int × Nat, X = if r = true then (-1, 0) else match wrongI L kn mn with | some i => ((i : Int), 0) | none => (0, 15) := ⟨_, rfl⟩
      rw [← hrr, ← hX]
      have HRR := Lib.hid hrr
      have HX := Lib.hid hX
      rw [hLk]
      clear hrr hX hLk
      go_enter Tryd.func16, Tryd.ntmps16
      go_wp2_with fail
      rw [← HLK.out]
      refine HBG.out.mono ?_
      rintro e w1 (⟨h, _⟩ | ⟨_, g, b, T, n, sz, ac, cc, hI, rfl, hw, hb1⟩)
      · exact absurd h HNO.out
      · have hnk : (kn : Int) + (mn : Int) ≤ (n : Int) := by
          have h1 := hI.cnt
          have h2 := HLT.out
          have h3 := HLK.out
          omega
        have hT := hI.bits
        have hTlt : T < 4294967296 := Nat.lt_of_lt_of_le hI.lt (by rw [HLK.out, show 4294967296 = 2 ^ 32 from rfl]; exact Nat.pow_le_pow_right (by decide) (by omega))
        have hf := fit_any w w1 g b kn mn ac cc hw hb1 hk1 hkm T hTlt
          (by rw [hT, setL_pres, ← HLK.out]; have := HLT.out; have := HLK.out; omega) (tab_kept HT.out hb1) a c L HR.out HLK.out s hs1 (fun r _ h => HS.out r (by rw [hT] at h; exact h))
        rw [hT, ← HRR.out] at hf
        rw [HLK.out]
        have HF := Lib.hid hf
        have HBT := Lib.hid hT
        clear hI hw hT hf
        cases hrv : r with
        | true =>
          rw [hrv] at HF
          have hx : Hid (X = (-1, 0)) := Lib.hid (by rw [HX.out, hrv]; rfl)
          clear hrv
          go_wp2_with fail
          refine HF.out.mono ?_
          rintro e w2 ⟨rfl, _, hb2⟩
          go_wp2
          go_ret2
          refine ⟨?_, hb2⟩
          rw [hx.out]
          rfl
        | false =>
          rw [hrv] at HF
          have hm1 : 1 ≤ mn := by
            refine Classical.byContradiction fun h0 => ?_
            obtain rfl : mn = 0 := by omega
            have := fit_m0 (L := L) hk1 (by omega) HLK.out HFULL.out HODD.out
            rw [← HRR.out, hrv] at this
            cases this
          have hx : Hid (X = match wrongI L kn mn with | some i => ((i : Int), 0) | none => (0, 15)) := Lib.hid (by rw [HX.out, hrv]; rfl)
          clear hrv hb1
          go_wp2_with fail
          refine HF.out.mono ?_
          rintro e w2 ⟨rfl, hw2, hb2⟩
          clear HF
          have HW2 := Lib.hid hw2
          clear hw2
          go_wp2
          go_loopw [38] (fun s38 wr => ∃ (i : Nat), i ≤ kn + mn ∧ s38 = .int .i64 i ∧ Hid (∀ j, j < i → fitB kn mn L (lessT L j) = false) ∧ Hid (WorkI wr w.heap.size g b kn mn ac cc) ∧ Below w.heap.size w wr) (fun s38 _ => kn + mn - (intOf s38).toNat)
          case atStart => exact ⟨0, by omega, rfl, Lib.hid (fun j h => by omega), HW2, hb2⟩
          case round =>
            clear hb2
            obtain ⟨i, hi, rfl, HI, HW, hb⟩ := hrel
            by_cases hlt : i < kn + mn
            · have hii : (i : Int) < (kn : Int) + (mn : Int) := by omega
              obtain ⟨T', hT1, hT2, hT3⟩ := andNot_bit T i hTlt (by omega)
              have hless : T'.testBit = lessT L i := by
                funext r
                rw [hT3, HBT.out]
                rfl
              have hf := fit_any w wr g b kn mn ac cc HW.out hb hk1 hkm T' hT2 (by rw [hless]; exact less_cnt HLK.out HFULL.out hm1) (tab_kept HT.out hb) a c L HR.out HLK.out s hs1 (fun r _ h => HS.out r (by rw [hless] at h; unfold lessT at h; simp at h; exact h.1))
              rw [hless] at hf
              have hT4 : bits BinOp.andNot IntKind.u32 (T : Int) (2 ^ i % 4294967296) = (T' : Int) := by
                rw [← wrap_u32']; exact hT1
              have HF := Lib.hid hf
              have HT4 := Lib.hid hT4
              clear hf hT4 hT1 hT2 hT3 hless
              cases hfv : fitB kn mn L (lessT L i) with
              | true =>
                rw [hfv] at HF
                have hxx : Hid (X = ((i : Int), 0)) := Lib.hid (by
                  rw [hx.out]
                  unfold wrongI
                  rw [find_some (by rw [HLK.out]; exact hlt) HI.out hfv])
                clear hfv
                go_wp2_with fail
                rw [HT4.out]
                refine HF.out.mono ?_
                rintro e w3 ⟨rfl, _, hb3⟩
                go_wp2
                go_ret2
                refine ⟨?_, hb3⟩
                rw [hxx.out]
                rfl
              | false =>
                rw [hfv] at HF
                have HI2 : Hid (∀ j, j < i + 1 → fitB kn mn L (lessT L j) = false) := Lib.hid (fun j hj => by
                  by_cases e : j = i
                  · subst e; exact hfv
                  · exact HI.out j (by omega))
                clear hfv
                go_wp2_with fail
                rw [HT4.out]
                refine HF.out.mono ?_
                rintro e w3 ⟨rfl, hw3, hb3⟩
                have HW3 := Lib.hid hw3
                clear hw3
                go_wp2
                go_roundw
                case rel => exact ⟨i + 1, by omega, by go_num, HI2, HW3, hb3⟩
                case measure => simp [intOf]; omega
            · obtain rfl : kn + mn = i := by omega
              have hnl : ¬ (kn : Int) + (mn : Int) < (kn : Int) + (mn : Int) := by omega
              have hxx : Hid (X = (0, 15)) := Lib.hid (by
                rw [hx.out]
                unfold wrongI
                rw [find_none (fun j hj => HI.out j (by rw [← HLK.out]; exact hj))])
              go_wp2
              go_ret2
              refine ⟨?_, hb⟩
              rw [hxx.out]
              rfl
end Go.Proofs.YtmeckdgigjjjbaaDoor
