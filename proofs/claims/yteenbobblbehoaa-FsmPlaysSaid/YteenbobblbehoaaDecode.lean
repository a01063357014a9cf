/- frame's Decode: the plain function, the contract. Conditions: each contract's own premises. -/
import Derived.Test.YteenbobblbehoaaClone
import Derived.Test.YteenbobblbehoaaSum
import Derived.Test.YteenbobblbehoaaPut0
import Derived.Test.YteenbobblbehoaaGetL
import Derived.Test.YteenbobblbehoaaSlice
namespace Go.Proofs.Yteenbobblbehoaa
open Go Go.RowKit

/-- What bytes begin with: the record's bytes, how many it takes, the error. -/
def decR (b : List UInt8) : List UInt8 × Nat × Nat :=
  if b.length < 8 then ([], 0, 2)
  else if 1048576 < getN (b.take 4) then ([], 0, 5)
  else if b.length < 8 + getN (b.take 4) then ([], 0, 2)
  else if (crc (b.take 4 ++ (b.drop 8).take (getN (b.take 4)))).toNat = getN ((b.drop 4).take 4) then ((b.drop 8).take (getN (b.take 4)), 8 + getN (b.take 4), 0)
  else ([], 0, 4)

/-- The three results. -/
def decV (r : Value) (x : List UInt8 × Nat × Nat) : Value := .tuple #[r, .int .i64 (x.2.1 : Nat), .int .i64 (x.2.2 : Nat)]

set_option maxRecDepth 100000 in
set_option maxHeartbeats 1000000 in
theorem decode_short (w : World) (a : Option Addr) (c : Nat) (l : List UInt8) (hr : Rd w a c (B8 l)) (h8 : l.length < 8) :
    Calls Try.prog 52 #[.slice a l.length c] w fun e w' => e = .returned (.tuple #[.slice none 0 0, .int .i64 0, .int .i64 2]) ∧ w = w' := by
  have G1 := get32_any w _ c l hr
  have h8i : (l.length : Int) < 8 := by omega
  by_cases h4 : l.length < 4
  · rw [getF_ls _ _ h4] at G1
    unfold getV at G1
    clear hr
    go_enter Try.func52, Try.ntmps52
    go_wp2_with fail
    refine G1.mono ?_
    rintro e w1 ⟨rfl, hw⟩
    have hw := hw.symm
    subst hw
    go_wp2
    go_ret3
    exact ⟨rfl, rfl⟩
  · rw [getF_ge _ _ (by omega)] at G1
    unfold getV at G1
    have hnlt := getN_lt4 l (by omega)
    obtain ⟨n, hn⟩ : ∃ n, n = getN (l.take 4) := ⟨_, rfl⟩
    rw [← hn] at G1 hnlt
    clear hr hn
    go_enter Try.func52, Try.ntmps52
    go_wp2_with fail
    refine G1.mono ?_
    rintro e w1 ⟨rfl, hw⟩
    have hw := hw.symm
    subst hw
    go_wp2
    go_ret3
    exact ⟨rfl, rfl⟩

set_option maxRecDepth 100000 in
set_option maxHeartbeats 1000000 in
theorem decode_no (w : World) (a : Option Addr) (c : Nat) (l : List UInt8) (hr : Rd w a c (B8 l)) (h8 : 8 ≤ l.length) (n : Nat) (hnn : getN (l.take 4) = n) (f : Int)
    (hf : 1048576 < n ∧ f = 5 ∨ n ≤ 1048576 ∧ l.length < 8 + n ∧ f = 2) :
    Calls Try.prog 52 #[.slice a l.length c] w fun e w' => e = .returned (.tuple #[.slice none 0 0, .int .i64 0, .int .i64 f]) ∧ w = w' := by
  have hlm := hr.le
  rw [B8_length] at hlm
  have h8i : (8 : Int) ≤ (l.length : Int) := by omega
  have G1 := get32_any w _ c l hr
  rw [getF_ge _ _ (by omega), hnn] at G1
  have hnlt := getN_lt4 l (by omega)
  rw [hnn] at hnlt
  unfold getV at G1
  clear hnn
  go_enter Try.func52, Try.ntmps52
  go_wp2_with fail
  refine G1.mono ?_
  rintro e w1 ⟨rfl, hw⟩
  have hw := hw.symm
  subst hw
  clear G1
  go_wp2_with (with_reducible refine At.slot 24 ?_)
  refine At.out (wpList_pl rfl (.tmp 23) (.const (.int .i64 4)) rfl elemB a l.length c (B8 l) rfl (B8_length l).symm hr .i64 4 rfl (by rw [B8_length]; omega) ?_)
  intro a2 hp
  have hr2 := hp.rd
  rw [← B8_drop] at hr2
  have G2 := get32_any w _ (c - 4) (l.drop 4) hr2
  rw [getF_ge _ _ (by rw [List.length_drop]; omega), List.length_drop] at G2
  unfold getV at G2
  clear hp hr2 hr
  rcases hf with ⟨hf, rfl⟩ | ⟨hf, hf2, rfl⟩
  · go_wp2_with fail
    refine G2.mono ?_
    rintro e w1 ⟨rfl, hw⟩
    have hw := hw.symm
    subst hw
    go_wp2
    go_ret3
    exact ⟨rfl, rfl⟩
  · have hfi : (l.length : Int) - 8 < (n : Int) := by omega
    go_wp2_with fail
    refine G2.mono ?_
    rintro e w1 ⟨rfl, hw⟩
    have hw := hw.symm
    subst hw
    go_wp2
    go_ret3
    exact ⟨rfl, rfl⟩

/-- What becomes of a record whose bytes are all there: 'yes': its sum is right. -/
def DecPost (yes : Bool) (w : World) (n : Nat) (p : List UInt8) (e : Ending) (w' : World) : Prop := ∃ r,
  (yes = true → e = .returned (.tuple #[r, .int .i64 (8 + (n : Int)), .int .i64 0]) ∧ w'.ownsRow w.heap.size 5 1 r n (B8 p)) ∧
  (yes = false → e = .returned (.tuple #[.slice none 0 0, .int .i64 0, .int .i64 4])) ∧ Below w.heap.size w w'

set_option maxRecDepth 100000 in
set_option maxHeartbeats 2000000 in
theorem decode_full (w : World) (a : Option Addr) (c : Nat) (l : List UInt8) (hr : Rd w a c (B8 l)) (h8 : 8 ≤ l.length) (n : Nat) (hnn : getN (l.take 4) = n) (hn : n ≤ 1048576) (hl : 8 + n ≤ l.length) (yes : Bool)
    (hy : (decide ((crc (l.take 4 ++ (l.drop 8).take n)).toNat = getN ((l.drop 4).take 4))) = yes) :
    Calls Try.prog 52 #[.slice a l.length c] w (DecPost yes w n ((l.drop 8).take n)) := by
  have hlm := hr.le
  have hcap := hr.1
  rw [B8_length] at hlm hcap
  have h8i : (8 : Int) ≤ (l.length : Int) := by omega
  have G1 := get32_any w _ c l hr
  rw [getF_ge _ _ (by omega), hnn] at G1
  obtain ⟨S, hS⟩ : ∃ S, S = getN ((l.drop 4).take 4) := ⟨_, rfl⟩
  have hSlt : S < 4294967296 := by rw [hS]; exact getN_lt4 _ (by rw [List.length_drop]; omega)
  rw [← hS] at hy
  have hhl : (l.take 4).length = 4 := by rw [List.length_take]; omega
  have hpl : ((l.drop 8).take n).length = n := by rw [List.length_take, List.length_drop]; omega
  obtain ⟨h, hh⟩ : ∃ h, h = l.take 4 := ⟨_, rfl⟩
  obtain ⟨p, hp⟩ : ∃ p, p = (l.drop 8).take n := ⟨_, rfl⟩
  rw [← hh, ← hp] at hy
  rw [← hh] at hhl
  rw [← hp] at hpl ⊢
  obtain ⟨s, hs⟩ : ∃ s, s = crc (h ++ p) := ⟨_, rfl⟩
  rw [← hs] at hy
  have hni : (n : Int) ≤ 1048576 := by omega
  have hnl : (8 : Int) + (n : Int) ≤ (l.length : Int) := by omega
  have hnl2 : (n : Int) ≤ (l.length : Int) - 8 := by omega
  have hwr : IntKind.i64.wrap (n : Int) = (n : Int) := IntWalk.i64_in _ (by omega)
  have HS := Lib.hid hs
  have HP := Lib.hid hp
  have HH := Lib.hid hh
  have HSS := Lib.hid hS
  have HHL := Lib.hid hhl
  have HPL := Lib.hid hpl
  have HY := Lib.hid hy
  unfold getV at G1
  clear hs hp hh hS hnn hhl hpl hy
  go_enter Try.func52, Try.ntmps52
  go_wp2_with fail
  refine G1.mono ?_
  rintro e w1 ⟨rfl, hw⟩
  have hw := hw.symm
  subst hw
  clear G1
  go_wp2_with (with_reducible refine At.slot 24 ?_)
  refine At.out (wpList_pl rfl (.tmp 23) (.const (.int .i64 4)) rfl elemB a l.length c (B8 l) rfl (B8_length l).symm hr .i64 4 rfl (by rw [B8_length]; omega) ?_)
  intro a2 hp2
  have hr2 := hp2.rd
  rw [← B8_drop] at hr2
  have G2 := get32_any w _ (c - 4) (l.drop 4) hr2
  rw [getF_ge _ _ (by rw [List.length_drop]; omega), List.length_drop, ← HSS.out] at G2
  unfold getV at G2
  clear hp2 hr2
  go_wp2_with fail
  refine G2.mono ?_
  rintro e w1 ⟨rfl, hw⟩
  have hw := hw.symm
  subst hw
  clear G2
  go_wp2_with (with_reducible refine At.slot 42 ?_)
  refine At.out (wpList_lh rfl (.tmp 38) (.const (.int .i64 8)) (.tmp 41) rfl elemB a l.length c (B8 l) rfl hr .i64 .i64 8 (8 + n) rfl rfl (by omega) (by rw [B8_length]; omega) ?_)
  intro ap hp3
  have hrp := hp3.rd
  rw [← B8_drop, show 8 + n - 8 = n by omega, ← B8_take, ← HP.out] at hrp
  rw [show 8 + n - 8 = n by omega]
  clear hp3
  go_wp2_with (with_reducible refine At.slot 44 ?_)
  refine At.out (wpList_ph rfl (.tmp 43) (.const (.int .i64 4)) rfl elemB a l.length c (B8 l) rfl hr .i64 4 rfl (by rw [B8_length]; omega) ?_)
  intro ah hp4
  have hrh := hp4.rd
  rw [← B8_take, ← HH.out] at hrh
  clear hp4
  go_wp2_with fail
  refine (clone_any w ah c 4 h HHL.out.symm hrh (by have := HHL.out; omega)).mono ?_
  rintro e w2 ⟨r2, rfl, ho2, hb2⟩
  go_wp2_with (with_reducible refine At.slot 47 ?_)
  refine At.out (wpList_app rfl (.tmp 45) (.tmp 46) 31 rfl elemB rfl w.heap.size _ 4 _ rfl ho2 ap n (c - 8) (B8 p) rfl (by rw [B8_length]; exact HPL.out.symm) (hrp.kept hb2) (B8_one _) (by unfold maxLen; omega) (by omega) hb2.size ?_)
  intro v3 w3 ho3 hb3 _
  have hb3' : Below w.heap.size w w3 := hb2.trans hb3
  obtain ⟨a3, c3, rfl, hrd3⟩ := Rd.ofOwn ho3
  rw [← B8_append] at hrd3
  have hsum := sum_any w3 a3 c3 (h ++ p) hrd3
  rw [show (h ++ p).length = 4 + n from by rw [List.length_append, HHL.out, HPL.out], ← HS.out] at hsum
  clear ho2 ho3 hb2 hb3 hrd3 hrh
  go_wp2_with fail
  refine hsum.mono ?_
  rintro e w4 ⟨rfl, hb4⟩
  clear hsum
  have hb4' : Below w.heap.size w w4 := hb3'.trans (hb4.mono hb3'.size)
  have hrp4 := hrp.kept hb4'
  clear hrp
  cases yes with
  | true =>
    have hb : ((s.toNat : Int) != (S : Int)) = false := by have := of_decide_eq_true HY.out; rw [this]; simp
    go_wp2_with fail
    refine (clone_any w4 ap (c - 8) n p HPL.out.symm hrp4 (by have := HPL.out; omega)).mono ?_
    rintro e w5 ⟨r5, rfl, ho5, hb5⟩
    go_wp2
    go_ret3
    exact ⟨r5, fun _ => ⟨rfl, own_base ho5 hb4'.size⟩, fun h => by simp at h, hb4'.trans (hb5.mono hb4'.size)⟩
  | false =>
    have hb : ((s.toNat : Int) != (S : Int)) = true := by have := of_decide_eq_false HY.out; rw [bne_iff_ne]; omega
    go_wp2
    go_ret3
    exact ⟨.slice none 0 0, fun h => by simp at h, fun _ => rfl, hb4'⟩

theorem decPost_any {w w' : World} {e : Ending} (l : List UInt8) (h8 : ¬ l.length < 8) (hbig : ¬ 1048576 < getN (l.take 4)) (hsh : ¬ l.length < 8 + getN (l.take 4))
    (h : DecPost (decide ((crc (l.take 4 ++ (l.drop 8).take (getN (l.take 4)))).toNat = getN ((l.drop 4).take 4))) w (getN (l.take 4)) ((l.drop 8).take (getN (l.take 4))) e w') :
    ∃ r, e = .returned (decV r (decR l)) ∧ w'.ownsRow w.heap.size 5 1 r (decR l).1.length (B8 (decR l).1) ∧ Below w.heap.size w w' := by
  obtain ⟨r, hyes, hno, hb⟩ := h
  by_cases hy : (crc (l.take 4 ++ (l.drop 8).take (getN (l.take 4)))).toNat = getN ((l.drop 4).take 4)
  · have e : decR l = ((l.drop 8).take (getN (l.take 4)), 8 + getN (l.take 4), 0) := by unfold decR; rw [if_neg h8, if_neg hbig, if_neg hsh, if_pos hy]
    obtain ⟨he, ho⟩ := hyes (decide_eq_true hy)
    have hpl : ((l.drop 8).take (getN (l.take 4))).length = getN (l.take 4) := by rw [List.length_take, List.length_drop]; omega
    rw [e]
    refine ⟨r, ?_, by show World.ownsRow w' w.heap.size _ _ r ((l.drop 8).take (getN (l.take 4))).length _; rw [hpl]; exact ho, hb⟩
    rw [he]
    unfold decV
    rw [Int.natCast_add]
    rfl
  · have e : decR l = ([], 0, 4) := by unfold decR; rw [if_neg h8, if_neg hbig, if_neg hsh, if_neg hy]
    rw [e, hno (decide_eq_false hy)]
    exact ⟨_, rfl, World.ownsRow_nil _ _ _ _, hb⟩

/-- Decode. -/
theorem decode_any (w : World) (a : Option Addr) (c : Nat) (l : List UInt8) (hr : Rd w a c (B8 l)) :
    Calls Try.prog 52 #[.slice a l.length c] w fun e w' => ∃ r, e = .returned (decV r (decR l)) ∧ w'.ownsRow w.heap.size 5 1 r (decR l).1.length (B8 (decR l).1) ∧ Below w.heap.size w w' := by
  by_cases h8 : l.length < 8
  · refine (decode_short w a c l hr h8).mono ?_
    rintro e w' ⟨rfl, rfl⟩
    have e : decR l = ([], 0, 2) := by unfold decR; rw [if_pos h8]
    rw [e]
    exact ⟨_, rfl, World.ownsRow_nil _ _ _ _, Below.refl _ _⟩
  · by_cases hbig : 1048576 < getN (l.take 4)
    · refine (decode_no w a c l hr (by omega) _ rfl 5 (.inl ⟨hbig, rfl⟩)).mono ?_
      rintro e w' ⟨rfl, rfl⟩
      have e : decR l = ([], 0, 5) := by unfold decR; rw [if_neg h8, if_pos hbig]
      rw [e]
      exact ⟨_, rfl, World.ownsRow_nil _ _ _ _, Below.refl _ _⟩
    · by_cases hsh : l.length < 8 + getN (l.take 4)
      · refine (decode_no w a c l hr (by omega) _ rfl 2 (.inr ⟨by omega, hsh, rfl⟩)).mono ?_
        rintro e w' ⟨rfl, rfl⟩
        have e : decR l = ([], 0, 2) := by unfold decR; rw [if_neg h8, if_neg hbig, if_pos hsh]
        rw [e]
        exact ⟨_, rfl, World.ownsRow_nil _ _ _ _, Below.refl _ _⟩
      · refine (decode_full w a c l hr (by omega) _ rfl (by omega) (by omega) _ rfl).mono ?_
        intro e w' h
        exact decPost_any l h8 hbig hsh h
end Go.Proofs.Yteenbobblbehoaa
