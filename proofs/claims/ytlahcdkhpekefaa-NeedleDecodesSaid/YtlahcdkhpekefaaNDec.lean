/- needle's Decode: the plain function, the contract. Conditions: each contract's own premises. -/
import Derived.Test.YtlahcdkhpekefaaNEnc
import Derived.Test.YtlahcdkhpekefaaBEq
import Derived.Test.YtlahcdkhpekefaaBlkV
import Derived.Test.YtlahcdkhpekefaaClone
import Derived.Test.YtlahcdkhpekefaaGetL
import Derived.Test.YtlahcdkhpekefaaPut
import Derived.Deep.Cut
import Derived.Deep.CutRange
namespace Go.Proofs.Ytlahcdkhpekefaa
open Go Go.RowKit

def nKey (b : List UInt8) : UInt64 := UInt64.ofNat (getN ((b.drop 4).take 8))
def nCk (b : List UInt8) : UInt32 := UInt32.ofNat (getN ((b.drop 12).take 4))
def nDead (b : List UInt8) : Bool := b.getD 2 0 == 1
def nSz (b : List UInt8) : Nat := getN ((b.drop 16).take 4)
/-- Why a head is none. -/
def badHead (b : List UInt8) : Prop := 65536 < nSz b ∨ (nDead b = true ∧ 0 < nSz b) ∨ headL (nKey b) (nCk b) (nDead b) (nSz b) ≠ b.take 24
instance (b : List UInt8) : Decidable (badHead b) := by unfold badHead; infer_instance
/-- What stands behind the data: its sum, and bytes that are 0. -/
def nTail (sz : Nat) (data : List UInt8) : List UInt8 := putL 4 (crc data).toNat ++ zeroB (sizeN sz - (28 + sz))
/-- What bytes begin with: a needle, how many bytes it takes, the error. -/
def nDec (b : List UInt8) : (UInt64 × UInt32 × Bool × List UInt8) × Nat × Nat :=
  if b.length < 24 then ((0, 0, false, []), 0, 2)
  else if badHead b then ((0, 0, false, []), 0, 3)
  else if b.length < sizeN (nSz b) then ((0, 0, false, []), 0, 2)
  else if (b.drop (24 + nSz b)).take (sizeN (nSz b) - (24 + nSz b)) = nTail (nSz b) ((b.drop 24).take (nSz b)) then ((nKey b, nCk b, nDead b, (b.drop 24).take (nSz b)), sizeN (nSz b), 0)
  else ((nKey b, nCk b, nDead b, []), sizeN (nSz b), 4)
/-- What Decode gives. -/
def NDP (w : World) (X : (UInt64 × UInt32 × Bool × List UInt8) × Nat × Nat) (e : Ending) (w' : World) : Prop := ∃ r, e = .returned (.tuple #[.agg #[.int .u64 X.1.1.toNat, .int .u32 X.1.2.1.toNat, .bool X.1.2.2.1, r], .int .i64 (X.2.1 : Nat), .int .i64 (X.2.2 : Nat)]) ∧
  w'.ownsRow w.heap.size 5 1 r X.1.2.2.2.length (B8 X.1.2.2.2) ∧ Below w.heap.size w w'
theorem NDP.mk {w w' : World} {r : Value} {key : UInt64} {ck : UInt32} {dead : Bool} {data : List UInt8} {n f : Nat} (ho : w'.ownsRow w.heap.size 5 1 r data.length (B8 data)) (hb : Below w.heap.size w w') :
    NDP w ((key, ck, dead, data), n, f) (.returned (.tuple #[.agg #[.int .u64 key.toNat, .int .u32 ck.toNat, .bool dead, r], .int .i64 (n : Nat), .int .i64 (f : Nat)])) w' := ⟨r, rfl, ho, hb⟩

theorem strN : StrT Try.prog 26 4 := ⟨by
    obtain ⟨i, h1, h2, h3, h4⟩ := info_parts (show (Try.prog.info? 26).map (fun i => (i.zero, i.size, i.bytes)) = some (some (.agg #[.int .u64 0, .int .u32 0, .bool false, .slice none 0 0]), 4, 40) by kernel_rfl)
    exact ⟨i, h1, h3⟩, ⟨_, Try.underlying26⟩⟩

set_option maxRecDepth 100000 in
set_option maxHeartbeats 1000000 in
theorem nDec_short (w : World) (a : Option Addr) (c : Nat) (b : List UInt8) (h : b.length < 24) :
    Calls Try.prog 16 #[.slice a b.length c] w (NDP w ((0, 0, false, []), 0, 2)) := by
  have hi : (b.length : Int) < 24 := by omega
  go_enter Try.func16, Try.ntmps16
  go_wp2_with (with_reducible refine At.store 26 (.tmp 2) (.tmp 16) ?_)
  refine At.out (wpList_storeV rfl _ rfl (.tmp 2) (.tmp 16) rfl strN w.heap.size _ #[.int .u64 0, .int .u32 0, .bool false, .slice none 0 0] rfl rfl (BlkV.new w _ _) rfl rfl (by simp [Value.oneCell']) ?_)
  intro w2 hB2 hbel _
  have hb2 := hbel w.heap.size w ((Below.refl _ _).alloc (Nat.le_refl _) _) (Nat.le_refl _)
  go_wp2_with fail
  exact bodyPost_ret (v := .tuple #[.agg #[.int .u64 0, .int .u32 0, .bool false, .slice none 0 0], .int .i64 0, .int .i64 2]) (results_cell3 rfl strN rfl rfl rfl hB2 rfl) rfl (NDP.mk (World.ownsRow_nil _ _ _ _) hb2)


set_option maxRecDepth 100000 in
set_option maxHeartbeats 8000000 in
theorem nDec_head (w : World) (a : Option Addr) (c : Nat) (b : List UInt8) (hr : Rd w a c (B8 b)) (h : 24 ≤ b.length) (Y : (UInt64 × UInt32 × Bool × List UInt8) × Nat × Nat) (hY : nDec b = Y) :
    Calls Try.prog 16 #[.slice a b.length c] w (NDP w Y) := by
  have hlm := hr.le
  have hcap := hr.1
  rw [B8_length] at hlm hcap
  have hi : (24 : Int) ≤ (b.length : Int) := by omega
  obtain ⟨ba, bo, rfl, hd2⟩ := hr.cs.b8 2 (by omega)
  have hlt : ba < w.heap.size := World.block_lt_of_cell? w _ hd2
  obtain ⟨key, hkey⟩ : ∃ k, k = nKey b := ⟨_, rfl⟩
  obtain ⟨ck, hck⟩ : ∃ k, k = nCk b := ⟨_, rfl⟩
  obtain ⟨dead, hdead⟩ : ∃ k, k = nDead b := ⟨_, rfl⟩
  obtain ⟨sz, hsz⟩ : ∃ k, k = nSz b := ⟨_, rfl⟩
  have hdd : ((b[2].toNat : Int) == 1) = dead := by
    rw [hdead]
    unfold nDead
    rw [List.getD_eq_getElem?_getD, List.getElem?_eq_getElem (by omega)]
    show ((b[2].toNat : Int) == 1) = (b[2] == 1)
    by_cases h1 : b[2] = 1
    · rw [h1]; rfl
    · have : ¬ (b[2].toNat : Int) = 1 := by intro e; apply h1; apply UInt8.toNat_inj.1; have : (1 : UInt8).toNat = 1 := rfl; omega
      rw [beq_eq_false_iff_ne.2 this, beq_eq_false_iff_ne.2 h1]
  have hszlt : sz < 4294967296 := by rw [hsz]; exact getN_lt4 _ (by rw [List.length_drop]; omega)
  have hkv : getN ((b.drop 4).take 8) = key.toNat := by
    rw [hkey]; unfold nKey
    rw [UInt64.toNat_ofNat', Nat.mod_eq_of_lt]
    have := getN_lt ((b.drop 4).take 8)
    rw [List.length_take, List.length_drop, Nat.min_eq_left (by omega)] at this
    exact this
  have hcv : getN ((b.drop 12).take 4) = ck.toNat := by
    rw [hck]; unfold nCk
    rw [UInt32.toNat_ofNat', Nat.mod_eq_of_lt (getN_lt4 _ (by rw [List.length_drop]; omega))]
  have hg64 : ∀ (W : World) (ad : Option Addr) (cd : Nat), Rd W ad cd (B8 (b.drop 4)) → Calls Try.prog 26 #[.slice ad (b.length - 4) cd] W fun e w' => e = .returned (.tuple #[.int .u64 (key.toNat : Int), .int .i64 0]) ∧ w' = W := by
    intro W ad cd hrd
    have := get64_any W ad cd (b.drop 4) hrd
    rw [getF_ge _ _ (by rw [List.length_drop]; omega), hkv, List.length_drop] at this
    exact this
  have hg32 : ∀ (k : Nat) (v : Nat), getN ((b.drop k).take 4) = v → k + 4 ≤ b.length → ∀ (W : World) (ad : Option Addr) (cd : Nat), Rd W ad cd (B8 (b.drop k)) → Calls Try.prog 27 #[.slice ad (b.length - k) cd] W fun e w' => e = .returned (.tuple #[.int .u32 (v : Int), .int .i64 0]) ∧ w' = W := by
    intro k v hv hk W ad cd hrd
    have := get32_any W ad cd (b.drop k) hrd
    rw [getF_ge _ _ (by rw [List.length_drop]; omega), hv, List.length_drop] at this
    exact this
  have hg12 := hg32 12 _ hcv (by omega)
  have hg16 := hg32 16 _ hsz.symm (by omega)
  have HG64 := Lib.hid hg64
  have HG12 := Lib.hid hg12
  have HG16 := Lib.hid hg16
  have HY := Lib.hid hY
  have HK := Lib.hid hkey
  have HC := Lib.hid hck
  have HD := Lib.hid hdead
  have HSz := Lib.hid hsz
  clear hg64 hg32 hg12 hg16 hY hkey hck hdead hsz hkv hcv
  have hi2 : (2 : Int) < (b.length : Int) := by omega
  go_enter Try.func16, Try.ntmps16
  go_wp2_with fail
  obtain ⟨W, hW⟩ : ∃ W, W = (w.alloc (.cells #[.int .u64 0, .int .u32 0, .bool false, .slice none 0 0] 26)).alloc (.cells #[.int .u64 0, .int .u32 0, .bool dead, .slice none 0 0] 26) := ⟨_, rfl⟩
  have hbW0 : Below w.heap.size w W := by rw [hW]; exact ((Below.refl _ _).alloc (Nat.le_refl _) _).alloc (by simp) _
  have hBR : BlkV W w.heap.size 26 #[.int .u64 0, .int .u32 0, .bool false, .slice none 0 0] := by rw [hW]; exact (BlkV.new w _ _).alloc _
  have hBN : BlkV W (w.heap.size + 1) 26 #[.int .u64 0, .int .u32 0, .bool dead, .slice none 0 0] := by
    rw [hW]
    have := BlkV.new (w.alloc (.cells #[.int .u64 0, .int .u32 0, .bool false, .slice none 0 0] 26)) 26 #[.int .u64 0, .int .u32 0, .bool dead, .slice none 0 0]
    simpa using this
  rw [← hW]
  obtain ⟨G, hG⟩ : ∃ G, G = w.heap.size := ⟨_, rfl⟩
  rw [← hG] at hBR hBN hbW0 hlt ⊢
  have HG := Lib.hid hG
  clear hW hG hd2
  have hrW := hr.kept (HG.out ▸ hbW0 : Below w.heap.size w W)
  refine (HG64.out _ _ _ (rd8_drop hrW 4 (by omega))).mono ?_
  rintro e w1 ⟨rfl, hw⟩
  have hw := hw.symm
  subst hw
  have hc0 := hBN.cell 0
  have hf0 := hBN.frozen 0
  simp only [List.getElem?_toArray, List.getElem?_cons_zero] at hc0
  go_wp2_with fail
  obtain ⟨W2, hW2⟩ : ∃ W2, W2 = W.setCell ⟨G + 1, 0, none⟩ (.int .u64 (key.toNat : Int)) := ⟨_, rfl⟩
  have hbW2 : Below G w W2 := by rw [hW2]; exact hbW0.setCell (by simp) _
  have hBR2 := hBR.far (show G ≠ G + 1 by omega) 0 (.int .u64 (key.toNat : Int))
  have hBN2 := hBN.set 0 (.int .u64 (key.toNat : Int))
  simp only [List.setIfInBounds_toArray, List.set_cons_zero] at hBN2
  rw [← hW2] at hBR2 hBN2 ⊢
  clear hBR hBN hbW0 hc0 hf0 hW2
  refine (HG12.out _ _ _ (rd8_drop (hr.kept (HG.out ▸ hbW2 : Below w.heap.size w W2)) 12 (by omega))).mono ?_
  rintro e w1 ⟨rfl, hw⟩
  have hw := hw.symm
  subst hw
  have hc0 := hBN2.cell 1
  have hf0 := hBN2.frozen 1
  simp only [List.getElem?_toArray, List.getElem?_cons_succ, List.getElem?_cons_zero] at hc0
  go_wp2_with fail
  obtain ⟨W3, hW3⟩ : ∃ W3, W3 = W2.setCell ⟨G + 1, 1, none⟩ (.int .u32 (ck.toNat : Int)) := ⟨_, rfl⟩
  have hbW3 : Below G w W3 := by rw [hW3]; exact hbW2.setCell (by simp) _
  have hBR3 := hBR2.far (show G ≠ G + 1 by omega) 1 (.int .u32 (ck.toNat : Int))
  have hBN3 := hBN2.set 1 (.int .u32 (ck.toNat : Int))
  simp only [List.setIfInBounds_toArray, List.set_cons_zero, List.set_cons_succ] at hBN3
  rw [← hW3] at hBR3 hBN3 ⊢
  clear hBR2 hBN2 hbW2 hc0 hf0 hW3
  refine (HG16.out _ _ _ (rd8_drop (hr.kept (HG.out ▸ hbW3 : Below w.heap.size w W3)) 16 (by omega))).mono ?_
  rintro e w1 ⟨rfl, hw⟩
  have hw := hw.symm
  subst hw
  have n0 := hBN3.cell 0
  have n1 := hBN3.cell 1
  have n2 := hBN3.cell 2
  have n3 := hBN3.cell 3
  simp only [List.getElem?_toArray, List.getElem?_cons_succ, List.getElem?_cons_zero] at n0 n1 n2 n3
  have hszi : (sz : Int) < 4294967296 := by omega
  go_wp2_with fail
  refine (headOf_any key ck dead none 0 0 sz hszlt _).mono ?_
  rintro e w4 ⟨rfl, hb4⟩
  have hbW4 : Below G w w4 := hbW3.trans (hb4.mono (by have := hBN3.lt; omega))
  have hBR4 := hBR3.below hb4
  have hBN4 := hBN3.below hb4
  have hz4 := hBN4.lt
  obtain ⟨Hd, hHd⟩ : ∃ Hd, Hd = headL key ck dead sz := ⟨_, rfl⟩
  have hHl : Hd.length = 24 := by rw [hHd, headL_length]
  rw [← hHd]
  have HHd := Lib.hid hHd
  have HHl := Lib.hid hHl
  clear hHd hHl
  clear hb4 hBR3 hBN3 hbW3 n0 n1 n2 n3 hdd
  go_wp2_with (with_reducible refine At.slot 8 ?_)
  refine At.out (wpList_alloc8 rfl _ rfl rfl arr24 ?_)
  go_wp2_with (with_reducible refine At.store 47 (.tmp 8) (.tmp 45) ?_)
  refine At.out (wpList_store8 rfl _ rfl (.tmp 8) (.tmp 45) rfl arr24 w4.heap.size (zeroB 24) Hd rfl rfl (heap_alloc_new w4 _) (zeroB_length 24) HHl.out ?_)
  intro W5 hBh hbel _
  have hbW5a := hbel w4.heap.size w4 ((Below.refl _ _).alloc (Nat.le_refl _) _) (Nat.le_refl _)
  obtain ⟨g4, hg4⟩ : ∃ g4, g4 = w4.heap.size := ⟨_, rfl⟩
  have hbW5 : Below G w W5 := hbW4.trans (hbW5a.mono (by omega))
  have hBR5 := hBR4.at hbW5a hBR4.lt
  have hBN5 := hBN4.at hbW5a hBN4.lt
  rw [← hg4] at hBh hz4 ⊢
  have n0 := hBN5.cell 0
  have n1 := hBN5.cell 1
  have n2 := hBN5.cell 2
  have n3 := hBN5.cell 3
  simp only [List.getElem?_toArray, List.getElem?_cons_succ, List.getElem?_cons_zero] at n0 n1 n2 n3
  have hr5 := hr.kept (HG.out ▸ hbW5 : Below w.heap.size w W5)
  have hr24 : Rd W5 (some ⟨ba, bo, none⟩) c (B8 (b.take 24)) := hr5.take8 24
  have hl24 : (b.take 24).length = 24 := by rw [List.length_take]; omega
  have hrh := (hBh.rd (by have := HHl.out; omega)).cap' HHl.out
  have heq : ∀ (n : Nat) (r : Bool), decide (Hd = b.take 24) = r → Calls Try.prog 28 #[.slice (some ⟨g4, 0, none⟩) 24 24, .slice (some ⟨ba, bo, none⟩) 24 c] (W5.drewN n) fun e w' => e = .returned (.bool r) ∧ w' = W5.drewN n := by
    intro n r h
    have := bytesEqual_any (W5.drewN n) (some ⟨g4, 0, none⟩) (some ⟨ba, bo, none⟩) 24 c Hd (b.take 24) (hrh.drewN n) (hr24.drewN n) r h
    rw [HHl.out, hl24] at this
    exact this.mono fun e w' ⟨h1, h2⟩ => ⟨h1, h2.symm⟩
  have HEQ := Lib.hid heq
  have HL24 := Lib.hid hl24
  have hc24 : (24 : Int) ≤ (c : Int) := by omega
  clear hl24 heq hg4 hbel hbW5a hBR4 hBN4 hbW4 hrW
  obtain ⟨bad, hbd⟩ : ∃ r, r = decide (badHead b) := ⟨_, rfl⟩
  have HB := Lib.hid hbd
  clear hbd
  go_simp
  go_upto_region 8 with (fail)
  go_cut [62] from 46 to 62 (fun s62 wx => s62 = .bool bad ∧ Qt W5 wx)
  case first =>
    by_cases h1 : 65536 < sz
    · have hb1 : Hid (bad = true) := Lib.hid (by rw [HB.out]; exact decide_eq_true (.inl (HSz.out ▸ h1)))
      have h1i : (65536 : Int) < (sz : Int) := by omega
      go_quiet (fail)
      go_wp2_with fail
      go_meet
      exact ⟨by rw [hb1.out], _, rfl⟩
    · have h1i : (sz : Int) ≤ 65536 := by omega
      have h1d : decide ((65536 : Int) < (sz : Int)) = false := by simp; omega
      by_cases h2 : dead = true ∧ 0 < sz
      · have hb1 : Hid (bad = true) := Lib.hid (by rw [HB.out]; exact decide_eq_true (.inr (.inl ⟨HD.out ▸ h2.1, HSz.out ▸ h2.2⟩)))
        obtain ⟨rfl, h2⟩ := h2
        have h2i : (0 : Int) < (sz : Int) := by omega
        go_quiet (fail)
        go_wp2_with fail
        go_meet
        exact ⟨by rw [hb1.out], _, rfl⟩
      · have hbq : Hid (bad = !decide (Hd = b.take 24)) := Lib.hid (by
          rw [HB.out, HHd.out]
          by_cases h3 : headL key ck dead sz = b.take 24
          · rw [decide_eq_true h3]
            refine decide_eq_false ?_
            rintro (hb | ⟨hb, hb2⟩ | hb)
            · rw [← HSz.out] at hb; omega
            · rw [← HD.out] at hb; rw [← HSz.out] at hb2; exact h2 ⟨hb, hb2⟩
            · apply hb; rw [← HK.out, ← HC.out, ← HD.out, ← HSz.out]; exact h3
          · rw [decide_eq_false h3]
            exact decide_eq_true (.inr (.inr (by rw [← HK.out, ← HC.out, ← HD.out, ← HSz.out]; exact h3))))
        obtain ⟨eqb, heqb⟩ : ∃ eqb, eqb = decide (Hd = b.take 24) := ⟨_, rfl⟩
        have hq := fun n => HEQ.out n eqb heqb.symm
        rw [← heqb] at hbq
        have HQ := Lib.hid hq
        clear hq heqb
        cases dead with
        | false =>
          clear h2
          go_quiet ((go_at_call 28; exact Calls.quiet_of_same (HQ.out _)))
          go_wp2_with fail
          go_meet
          exact ⟨by rw [hbq.out], _, rfl⟩
        | true =>
          have h2n : ¬ 0 < sz := fun h => h2 ⟨rfl, h⟩
          have h2d : decide (0 < sz) = false := by simpa using h2n
          have h2i : decide ((0 : Int) < (sz : Int)) = false := by simp; omega
          clear h2
          go_quiet ((go_at_call 28; exact Calls.quiet_of_same (HQ.out _)))
          go_wp2_with fail
          go_meet
          exact ⟨by rw [hbq.out], _, rfl⟩
  case rest =>
    obtain ⟨rfl, hq6⟩ := hcut
    have hbW6 : Below G w wc := hbW5.trans (hq6.below _)
    have hBR6 := hBR5.below (hq6.below _)
    have hBN6 := hBN5.below (hq6.below _)
    have hr6 := hr.kept (HG.out ▸ hbW6 : Below w.heap.size w wc)
    have hz6 := hBN6.lt
    have n0 := hBN6.cell 0
    have n1 := hBN6.cell 1
    have n2 := hBN6.cell 2
    have n3 := hBN6.cell 3
    have nf := hBN6.frozen 3
    simp only [List.getElem?_toArray, List.getElem?_cons_succ, List.getElem?_cons_zero] at n0 n1 n2 n3
    clear hq6 hbW5 hBR5 hBN5 hr5 hr24 hrh HEQ HL24 hBh
    cases bad with
    | true =>
      have hbh : badHead b := of_decide_eq_true HB.out.symm
      have HYb : Hid (((0, 0, false, []), 0, 3) = Y) := Lib.hid (by rw [← HY.out]; unfold nDec; rw [if_neg (by omega), if_pos hbh])
      clear hbh
      go_wp2_with (with_reducible refine At.store 26 (.tmp 2) (.tmp 63) ?_)
      refine At.out (wpList_storeV rfl _ rfl (.tmp 2) (.tmp 63) rfl strN G _ #[.int .u64 0, .int .u32 0, .bool false, .slice none 0 0] rfl rfl hBR6 rfl rfl (by simp [Value.oneCell']) ?_)
      intro w6 hB6 hbel6 _
      have hb6 := hbel6 G w hbW6 (Nat.le_refl _)
      go_wp2_with fail
      rw [← HYb.out]
      exact bodyPost_ret (v := .tuple #[.agg #[.int .u64 0, .int .u32 0, .bool false, .slice none 0 0], .int .i64 0, .int .i64 3]) (results_cell3 rfl strN rfl rfl rfl hB6 rfl) rfl (NDP.mk (World.ownsRow_nil _ _ _ _) (HG.out ▸ hb6))
    | false =>
      have hbh : ¬ badHead b := of_decide_eq_false HB.out.symm
      have hsz16 : sz ≤ 65536 := by
        rcases Nat.lt_or_ge 65536 sz with h' | h'
        · exact absurd (.inl (HSz.out ▸ h')) hbh
        · exact h'
      obtain ⟨S, hS⟩ : ∃ S, S = sizeN sz := ⟨_, rfl⟩
      have hS1 : sz + 28 ≤ S := hS ▸ sizeN_ge sz
      have hS2 : S ≤ sz + 35 := hS ▸ sizeN_le sz
      have hsize := size_any (sz : Int) wc
      rw [sizeZ_nat sz hsz16, ← hS] at hsize
      have hszi16 : (sz : Int) ≤ 65536 := by omega
      have hSi1 : (sz : Int) + 28 ≤ (S : Int) := by omega
      have hSi2 : (S : Int) ≤ 65571 := by omega
      have hwr : IntKind.i64.wrap (sz : Int) = (sz : Int) := IntWalk.i64_in _ (by omega)
      have HS := Lib.hid hS
      clear hS
      go_wp2_with fail
      refine hsize.mono ?_
      rintro e W6 ⟨rfl, hw⟩
      subst hw
      clear hsize
      by_cases hlen : b.length < S
      · have hleni : (b.length : Int) < (S : Int) := by omega
        have HYb : Hid (((0, 0, false, []), 0, 2) = Y) := Lib.hid (by rw [← HY.out]; unfold nDec; rw [if_neg (by omega), if_neg hbh, ← HSz.out, ← HS.out, if_pos hlen])
        clear hbh
        go_wp2_with (with_reducible refine At.store 26 (.tmp 2) (.tmp 71) ?_)
        refine At.out (wpList_storeV rfl _ rfl (.tmp 2) (.tmp 71) rfl strN G _ #[.int .u64 0, .int .u32 0, .bool false, .slice none 0 0] rfl rfl hBR6 rfl rfl (by simp [Value.oneCell']) ?_)
        intro w6 hB6 hbel6 _
        have hb6 := hbel6 G w hbW6 (Nat.le_refl _)
        go_wp2_with fail
        rw [← HYb.out]
        exact bodyPost_ret (v := .tuple #[.agg #[.int .u64 0, .int .u32 0, .bool false, .slice none 0 0], .int .i64 0, .int .i64 2]) (results_cell3 rfl strN rfl rfl rfl hB6 rfl) rfl (NDP.mk (World.ownsRow_nil _ _ _ _) (HG.out ▸ hb6))
      · have hleni : (S : Int) ≤ (b.length : Int) := by omega
        have hYg : Y = if (b.drop (24 + sz)).take (S - (24 + sz)) = nTail sz ((b.drop 24).take sz) then ((key, ck, dead, (b.drop 24).take sz), S, 0) else ((key, ck, dead, []), S, 4) := by
          rw [← HY.out]; unfold nDec
          rw [if_neg (by omega), if_neg hbh, ← HSz.out, ← HS.out, if_neg hlen, ← HK.out, ← HC.out, ← HD.out]
        obtain ⟨data, hdata⟩ : ∃ d, d = (b.drop 24).take sz := ⟨_, rfl⟩
        obtain ⟨rest, hrest⟩ : ∃ d, d = (b.drop (24 + sz)).take (S - (24 + sz)) := ⟨_, rfl⟩
        have hdl : data.length = sz := by rw [hdata, List.length_take, List.length_drop]; omega
        have hrl : rest.length = S - (24 + sz) := by rw [hrest, List.length_take, List.length_drop]; omega
        rw [← hdata, ← hrest] at hYg
        obtain ⟨M, hM⟩ : ∃ M, M = S - (24 + sz) := ⟨_, rfl⟩
        have hM1 : 4 ≤ M := by omega
        have hM2 : M ≤ 11 := by omega
        rw [← hM] at hrl
        have HYG := Lib.hid hYg
        have HDl := Lib.hid hdl
        have HRl := Lib.hid hrl
        have HM := Lib.hid hM
        have HDt := Lib.hid hdata
        have HRt := Lib.hid hrest
        clear hbh hYg hdl hrl hM hdata hrest
        go_wp2_with (with_reducible refine At.slot 76 ?_)
        refine At.out (wpList_lhA rfl (.tmp 72) (.const (.int .i64 24)) (.tmp 75) rfl elemB ba bo b.length c rfl .i64 .i64 24 (24 + sz) rfl (show Value.int IntKind.i64 (24 + (sz : Int)) = .int .i64 ((24 + sz : Nat) : Int) from by go_num) (by omega) (by omega) (by omega) ?_)
        rw [show 24 + sz - 24 = sz by omega]
        go_wp2_with (with_reducible refine At.slot 82 ?_)
        refine At.out (wpList_lhA rfl (.tmp 77) (.tmp 80) (.tmp 81) rfl elemB ba bo b.length c rfl .i64 .i64 (24 + sz) S (show Value.int IntKind.i64 (24 + (sz : Int)) = .int .i64 ((24 + sz : Nat) : Int) from by go_num) rfl (by omega) (by omega) (by omega) ?_)
        rw [← HM.out]
        have hRD : ∀ W, Below G w W → Rd W (some ⟨ba, bo + 24, none⟩) (c - 24) (B8 data) ∧ Rd W (some ⟨ba, bo + (24 + sz), none⟩) (c - (24 + sz)) (B8 rest) := by
          intro W hb
          have hrW := hr.kept (HG.out ▸ hb : Below w.heap.size w W)
          refine ⟨?_, ?_⟩
          · rw [HDt.out]; exact (rd8_drop hrW 24 (by omega)).take8 sz
          · rw [HRt.out]; exact (rd8_drop hrW (24 + sz) (by omega)).take8 _
        have HRD := Lib.hid hRD
        clear hRD
        go_wp2_with (with_reducible refine At.slot 85 ?_)
        refine At.out (wpList_makeB rfl (.tmp 84) (.tmp 84) 24 rfl elemB .i64 .i64 (M : Int) (M : Int) M rfl rfl rfl rfl (by omega) ?_)
        intro w7 hBo hb7
        obtain ⟨go, hgo⟩ : ∃ go, go = wc.heap.size := ⟨_, rfl⟩
        have hbw7 : Below G w w7 := hbW6.trans (hb7.mono (by omega))
        have hBR7 := hBR6.below hb7
        have hBN7 := hBN6.below hb7
        have hr10b := (HRD.out w7 hbw7).1
        rw [← hgo] at hBo hz6 ⊢
        clear hb7 hBR6 hBN6 hr6 hbW6 n0 n1 n2 n3 nf hgo
        obtain ⟨s, hs⟩ : ∃ s, s = crc data := ⟨_, rfl⟩
        have hsum := sum_any w7 _ _ data hr10b
        rw [HDl.out, ← hs] at hsum
        have HSs := Lib.hid hs
        clear hs
        go_wp2_with fail
        refine hsum.mono ?_
        rintro e w8 ⟨rfl, hb8⟩
        clear hsum
        have hz7 := hBo.lt
        go_wp2_with fail
        refine (put32_any s _).mono ?_
        rintro e w9 ⟨r9, rfl, ho9, hb9⟩
        have hb79 : Below w7.heap.size w7 w9 := hb8.trans (hb9.mono hb8.size)
        obtain ⟨a9, c9, rfl, hr9⟩ := Rd.ofOwn ho9
        have hBo9 := hBo.below hb79
        clear ho9 hb8 hb9 hBo
        go_wp2_with (with_reducible refine At.slot 90 ?_)
        refine At.out (wpList_copyB rfl (.tmp 86) (.tmp 89) 24 24 rfl elemB (some ⟨go, 0, none⟩) M M a9 4 c9 rfl rfl go 0 5 (zeroB M) (putL 4 s.toNat) hBo9 hr9 (by rw [putL_length]) (by rw [putL_length]; omega) (fun _ => rfl) (by rw [putL_length, zeroB_length]; omega) go w9 (Below.refl _ _) (Nat.le_refl _) ?_)
        intro w10 hB10 hb10
        have hwant : splice (zeroB M) 0 (putL 4 s.toNat) = nTail sz data := by
          unfold splice nTail zeroB
          rw [List.take_zero, List.nil_append, List.drop_replicate, putL_length, ← HSs.out, HM.out, ← HS.out, Nat.sub_sub, show 24 + sz + (0 + 4) = 28 + sz by omega]
        obtain ⟨want, hwn⟩ : ∃ x, x = nTail sz data := ⟨_, rfl⟩
        rw [hwant, ← hwn] at hB10
        have hwl : want.length = M := by rw [hwn, ← hwant, length_splice _ _ _ (by rw [putL_length, zeroB_length]; omega), zeroB_length]
        have hb7x : Below go w7 w10 := (hb79.mono (by omega)).trans hb10
        have hbw10 : Below G w w10 := hbw7.trans (hb7x.mono (by omega))
        have hBR10 := hBR7.at hb7x (by omega)
        have hBN10 := hBN7.at hb7x (by omega)
        obtain ⟨hrd10, hrr10⟩ := HRD.out w10 hbw10
        have hg10 := hB10.lt
        have n0 := hBN10.cell 0
        have n1 := hBN10.cell 1
        have n2 := hBN10.cell 2
        have n3 := hBN10.cell 3
        simp only [List.getElem?_toArray, List.getElem?_cons_succ, List.getElem?_cons_zero] at n0 n1 n2 n3
        have hwb := (hB10.rd (by omega)).cap' hwl
        have hwn2 := HYG.out
        rw [← hwn] at hwn2
        have HYG2 := Lib.hid hwn2
        by_cases hrw : rest = want
        · have heq := bytesEqual_any w10 _ _ _ _ rest want hrr10 hwb true (decide_eq_true hrw)
          rw [HRl.out, hwl] at heq
          have HYb : Hid (((key, ck, dead, data), S, 0) = Y) := Lib.hid (by rw [HYG2.out, if_pos hrw])
          clear hrw hwl hwn hwn2 hwant hb7x hb10 hBo9 hBR7 hBN7 hbw7 hr10b hb79
          go_wp2_with fail
          refine heq.mono ?_
          rintro e W6 ⟨rfl, hw⟩
          subst hw
          clear heq
          go_wp2_with fail
          refine (clone_any w10 _ _ sz data HDl.out.symm hrd10 (by have := HDl.out; omega)).mono ?_
          rintro e w11 ⟨r11, rfl, ho11, hb11⟩
          have hbw11 : Below G w w11 := hbw10.trans (hb11.mono (by have := hBR10.lt; omega))
          have hBR11 := hBR10.below hb11
          have hBN11 := hBN10.below hb11
          have m3 := hBN11.cell 3
          have mf := hBN11.frozen 3
          simp only [List.getElem?_toArray, List.getElem?_cons_succ, List.getElem?_cons_zero] at m3
          have hGle : G ≤ w10.heap.size := by have := hBR10.lt; omega
          clear n0 n1 n2 n3 hBR10 hBN10 hb11
          obtain ⟨a11, c11, rfl, _⟩ := Rd.ofOwn ho11
          go_wp2_with (with_reducible refine At.slot 100 ?_)
          obtain ⟨w12, hw12⟩ : ∃ w12, w12 = w11.setCell ⟨G + 1, 3, none⟩ (.slice a11 sz c11) := ⟨_, rfl⟩
          have hBR12 := hBR11.far (show G ≠ G + 1 by omega) 3 (.slice a11 sz c11)
          have hBN12 := hBN11.set 3 (.slice a11 sz c11)
          have hbw12 : Below G w w12 := by rw [hw12]; exact hbw11.setCell (by simp) _
          have ho12 := own_setFar ho11 (show (G + 1) < w10.heap.size by omega) 3 (.slice a11 sz c11)
          simp only [List.setIfInBounds_toArray, List.set_cons_zero, List.set_cons_succ] at hBN12
          rw [← hw12] at hBR12 hBN12 ho12 ⊢
          clear hBR11 hBN11 m3 mf ho11 hbw11 hw12
          refine At.out (wpList_loadV rfl _ rfl (.tmp 5) rfl strN (G + 1) _ rfl hBN12 rfl ?_)
          go_wp2_with (with_reducible refine At.store 26 (.tmp 2) (.tmp 100) ?_)
          refine At.out (wpList_storeV rfl _ rfl (.tmp 2) (.tmp 100) rfl strN G _ #[.int .u64 key.toNat, .int .u32 ck.toNat, .bool dead, .slice a11 sz c11] rfl rfl hBR12 rfl rfl (by simp [Value.oneCell']) ?_)
          intro w13 hB13 hbel13 hoth13
          have hb13 := hbel13 G w hbw12 (Nat.le_refl _)
          have ho13 := own_same ho12 (fun k hk => hoth13 k (by omega))
          have ho13' := own_len (own_base ho13 hGle) HDl.out.symm
          go_wp2_with fail
          rw [← HYb.out]
          exact bodyPost_ret (v := .tuple #[.agg #[.int .u64 key.toNat, .int .u32 ck.toNat, .bool dead, .slice a11 sz c11], .int .i64 (S : Int), .int .i64 0]) (results_cell3 rfl strN rfl rfl rfl hB13 rfl) rfl (NDP.mk (HG.out ▸ ho13') (HG.out ▸ hb13))
        · have heq := bytesEqual_any w10 _ _ _ _ rest want hrr10 hwb false (decide_eq_false hrw)
          rw [HRl.out, hwl] at heq
          have HYb : Hid (((key, ck, dead, []), S, 4) = Y) := Lib.hid (by rw [HYG2.out, if_neg hrw])
          clear hrw hwl hwn hwn2 hwant hb7x hb10 hBo9 hBR7 hBN7 hbw7 hr10b hb79
          go_wp2_with fail
          refine heq.mono ?_
          rintro e W6 ⟨rfl, hw⟩
          subst hw
          clear heq
          go_wp2_with (with_reducible refine At.slot 95 ?_)
          refine At.out (wpList_loadV rfl _ rfl (.tmp 5) rfl strN (G + 1) _ rfl hBN10 rfl ?_)
          go_wp2_with (with_reducible refine At.store 26 (.tmp 2) (.tmp 95) ?_)
          refine At.out (wpList_storeV rfl _ rfl (.tmp 2) (.tmp 95) rfl strN G _ #[.int .u64 key.toNat, .int .u32 ck.toNat, .bool dead, .slice none 0 0] rfl rfl hBR10 rfl rfl (by simp [Value.oneCell']) ?_)
          intro w13 hB13 hbel13 _
          have hb13 := hbel13 G w hbw10 (Nat.le_refl _)
          go_wp2_with fail
          rw [← HYb.out]
          exact bodyPost_ret (v := .tuple #[.agg #[.int .u64 key.toNat, .int .u32 ck.toNat, .bool dead, .slice none 0 0], .int .i64 (S : Int), .int .i64 4]) (results_cell3 rfl strN rfl rfl rfl hB13 rfl) rfl (NDP.mk (World.ownsRow_nil _ _ _ _) (HG.out ▸ hb13))
/-- Decode. -/
theorem nDecode_any (w : World) (a : Option Addr) (c : Nat) (b : List UInt8) (hr : Rd w a c (B8 b)) :
    Calls Try.prog 16 #[.slice a b.length c] w (NDP w (nDec b)) := by
  by_cases h : b.length < 24
  · have e : nDec b = ((0, 0, false, []), 0, 2) := by unfold nDec; rw [if_pos h]
    rw [e]; exact nDec_short w a c b h
  · exact nDec_head w a c b hr (by omega) _ rfl
end Go.Proofs.Ytlahcdkhpekefaa
