/- needle's Encode: the plain function, the contract. Conditions: each contract's own premises. -/
import Derived.Test.YtlahcdkhpekefaaHead
import Derived.Test.YtlahcdkhpekefaaNSize
namespace Go.Proofs.Ytlahcdkhpekefaa
open Go Go.RowKit

/-- How many bytes a needle of n bytes takes. -/
def sizeN (n : Nat) : Nat := (n + 35) / 8 * 8
theorem sizeN_ge (n : Nat) : n + 28 ≤ sizeN n := by unfold sizeN; omega
theorem sizeN_le (n : Nat) : sizeN n ≤ n + 35 := by unfold sizeN; omega
theorem sizeZ_nat (n : Nat) (h : n ≤ 65536) : sizeZ (n : Int) = ((sizeN n : Nat) : Int) := by
  rw [sizeZ_mid (by omega) (by omega)]; unfold sizeN; omega
/-- A needle's bytes. -/
def needL (key : UInt64) (ck : UInt32) (dead : Bool) (l : List UInt8) : List UInt8 := headL key ck dead l.length ++ l ++ putL 4 (crc l).toNat ++ zeroB (sizeN l.length - (28 + l.length))
theorem needL_length (key : UInt64) (ck : UInt32) (dead : Bool) (l : List UInt8) : (needL key ck dead l).length = sizeN l.length := by
  have := sizeN_ge l.length
  unfold needL
  simp only [List.length_append, headL_length, putL_length, zeroB_length]
  omega
theorem need_splice (h l s : List UInt8) (S : Nat) (hh : h.length = 24) (hs : s.length = 4) :
    splice (splice (splice (zeroB S) 0 h) 24 l) (24 + l.length) s = h ++ l ++ s ++ zeroB (S - (28 + l.length)) := by
  have e1 : splice (zeroB S) 0 h = h ++ zeroB (S - 24) := by
    unfold splice zeroB
    rw [List.take_zero, List.nil_append, List.drop_replicate, hh, Nat.zero_add]
  have e2 : splice (h ++ zeroB (S - 24)) 24 l = (h ++ l) ++ zeroB (S - (24 + l.length)) := by
    unfold splice
    rw [List.take_left' hh, ← List.drop_drop, List.drop_left' hh]
    unfold zeroB
    rw [List.drop_replicate, List.append_assoc, Nat.sub_sub]
  rw [e1, e2]
  have hl : (h ++ l).length = 24 + l.length := by rw [List.length_append, hh]
  unfold splice
  rw [List.take_left' hl, ← List.drop_drop, List.drop_left' hl, hs]
  unfold zeroB
  rw [List.drop_replicate, Nat.sub_sub, show 24 + l.length + 4 = 28 + l.length by omega]
  simp only [List.append_assoc]

/-- A needle, as a value. -/
def needV (key : UInt64) (ck : UInt32) (dead : Bool) (ad : Option Addr) (n c : Nat) : Value := .agg #[.int .u64 key.toNat, .int .u32 ck.toNat, .bool dead, .slice ad n c]

set_option maxRecDepth 100000 in
set_option maxHeartbeats 1000000 in
theorem nEncode_no (key : UInt64) (ck : UInt32) (dead : Bool) (ad : Option Addr) (n c : Nat) (w : World) (f : Int) (hn : n ≤ 9223372036854775807) (hf : dead = true ∧ 0 < n ∧ f = 1 ∨ dead = false ∧ 65536 < n ∧ f = 5) :
    Calls Try.prog 9 #[needV key ck dead ad n c] w fun e w' => e = .returned (.tuple #[.slice none 0 0, .int .i64 f]) ∧ Below w.heap.size w w' := by
  unfold needV
  rcases hf with ⟨rfl, h, rfl⟩ | ⟨rfl, h, rfl⟩
  · have hi : (0 : Int) < (n : Int) := by omega
    go_enter Try.func9, Try.ntmps9
    go_wp2
    go_ret2
    exact ⟨rfl, (Below.refl _ _).alloc (Nat.le_refl _) _⟩
  · have hi : (65536 : Int) < (n : Int) := by omega
    go_enter Try.func9, Try.ntmps9
    go_wp2
    go_ret2
    exact ⟨rfl, (Below.refl _ _).alloc (Nat.le_refl _) _⟩

/-- What Encode gives: S bytes in a block of its own. -/
def NEncPost (w : World) (S : Nat) (X : List UInt8) (e : Ending) (w' : World) : Prop := ∃ g, e = .returned (.tuple #[.slice (some ⟨g, 0, none⟩) S S, .int .i64 0]) ∧ Blk w' g 5 X ∧ w.heap.size ≤ g ∧ Below w.heap.size w w'
theorem NEncPost.mk {w w' : World} {g S : Nat} {X : List UInt8} (h : Blk w' g 5 X) (hg : w.heap.size ≤ g) (hb : Below w.heap.size w w') : NEncPost w S X (.returned (.tuple #[.slice (some ⟨g, 0, none⟩) S S, .int .i64 0])) w' := ⟨g, rfl, h, hg, hb⟩
theorem Rd.cap' {w : World} {a : Option Addr} {n c : Nat} {xs : List Value} (h : Rd w a n xs) (hc : n = c) : Rd w a c xs := hc ▸ h

set_option maxRecDepth 100000 in
set_option maxHeartbeats 4000000 in
theorem nEncode_yes (key : UInt64) (ck : UInt32) (dead : Bool) (ad : Option Addr) (c : Nat) (l : List UInt8) (w : World) (hr : Rd w ad c (B8 l)) (hl : l.length ≤ 65536) (hd : dead = true → l.length = 0) :
    Calls Try.prog 9 #[needV key ck dead ad l.length c] w (NEncPost w (sizeN l.length) (needL key ck dead l)) := by
  unfold needV
  obtain ⟨n, hn⟩ : ∃ n, n = l.length := ⟨_, rfl⟩
  obtain ⟨S, hS⟩ : ∃ S, S = sizeN n := ⟨_, rfl⟩
  have hS1 : n + 28 ≤ S := hS ▸ sizeN_ge n
  have hS2 : S ≤ n + 35 := hS ▸ sizeN_le n
  have hSz : sizeZ (n : Int) = (S : Int) := by rw [hS]; exact sizeZ_nat n (by omega)
  obtain ⟨Hd, hHd⟩ : ∃ Hd, Hd = headL key ck dead n := ⟨_, rfl⟩
  have hHl : Hd.length = 24 := by rw [hHd, headL_length]
  obtain ⟨s, hs⟩ : ∃ s, s = crc l := ⟨_, rfl⟩
  have hres : needL key ck dead l = splice (splice (splice (zeroB S) 0 Hd) 24 l) (24 + n) (putL 4 s.toNat) := by
    rw [hn, need_splice Hd l _ S hHl (putL_length _ _), hs, hHd, hS, hn]; rfl
  rw [← hn, ← hS, hres]
  have hhead := fun W => headOf_any key ck dead ad n c n (by omega) W
  rw [← hHd] at hhead
  obtain ⟨G, hG⟩ : ∃ G, G = w.heap.size := ⟨_, rfl⟩
  have hli : (n : Int) ≤ 65536 := by omega
  have hn0 : 0 ≤ (n : Int) := by omega
  have hS3 : ¬ S = 24 := by omega
  have hS4 : ¬ S = 24 + n := by omega
  have hSi : (n : Int) + 28 ≤ (S : Int) := by omega
  have hSi2 : (S : Int) ≤ 65571 := by omega
  have hS24 : (24 : Int) ≤ (S : Int) := by omega
  have hSn : (24 : Int) + (n : Int) ≤ (S : Int) := by omega
  have h0n : (0 : Int) ≤ (24 : Int) + (n : Int) := by omega
  have htn : ((24 : Int) + (n : Int)).toNat = 24 + n := by omega
  have hwn : IntKind.i64.wrap ((24 : Int) + (n : Int)) = 24 + (n : Int) := IntWalk.i64_in _ (by omega)
  have HN := Lib.hid hn
  have HHd := Lib.hid hHl
  have HSz := Lib.hid hSz
  have HS := Lib.hid hs
  have HH := Lib.hid hhead
  have hsz := fun W => size_any (n : Int) W
  rw [hSz] at hsz
  have HSC := Lib.hid hsz
  have hsum := fun W c' (h : Rd W ad c' (B8 l)) => sum_any W ad c' l h
  rw [← hn, ← hs] at hsum
  have HSum := Lib.hid hsum
  clear hn hS hSz hHd hHl hs hres hhead hsz hsum
  cases dead with
  | false =>
    clear hd
    go_enter Try.func9, Try.ntmps9
    go_wp2_with fail
    refine (HH.out _).mono ?_
    rintro e w1 ⟨rfl, hb1⟩
    obtain ⟨C0, hC0⟩ : ∃ C0, C0 = #[Value.int .u64 (key.toNat : Int), .int .u32 (ck.toNat : Int), .bool false, .slice ad n c] := ⟨_, rfl⟩
    rw [← hC0] at hb1 ⊢
    have hsz1 : G + 1 ≤ w1.heap.size := by have := hb1.size; simp at this; omega
    have hbw1 : Below G w w1 := ((Below.refl G w).alloc (Nat.le_of_eq hG) _).trans (hb1.mono (by simp; omega))
    have hc3 : w1.cell? ⟨G, 3, none⟩ = some (.slice ad n c) := by
      rw [hb1.cell (p := ⟨G, 3, none⟩) (by simp; omega), hG, cell_of_row _ w.heap.size 3 _ _ _ (heap_alloc_new w _), hC0]; rfl
    rw [← hG]
    have HG := Lib.hid hG
    clear hb1 hC0 hG
    go_wp2_with (with_reducible refine At.slot 4 ?_)
    refine At.out (wpList_alloc8 rfl _ rfl rfl arr24 ?_)
    go_wp2_with (with_reducible refine At.store 47 (.tmp 4) (.tmp 25) ?_)
    refine At.out (wpList_store8 rfl _ rfl (.tmp 4) (.tmp 25) rfl arr24 w1.heap.size (zeroB 24) Hd rfl rfl (heap_alloc_new w1 _) (zeroB_length 24) HHd.out ?_)
    intro W hBh hbel _
    have hbW := hbel w1.heap.size w1 ((Below.refl _ _).alloc (Nat.le_refl _) _) (Nat.le_refl _)
    obtain ⟨g4, hg4⟩ : ∃ g4, g4 = w1.heap.size := ⟨_, rfl⟩
    rw [← hg4] at hBh hbW hsz1 ⊢
    have hcW : W.cell? ⟨G, 3, none⟩ = some (.slice ad n c) := (hbW.cell (p := ⟨G, 3, none⟩) (by simp; omega)).trans hc3
    have hbw2 := hbw1.trans (hbW.mono (by omega))
    clear hbel hbW hc3 hbw1 hg4
    go_wp2_with fail
    refine (HSC.out _).mono ?_
    rintro e W' ⟨rfl, rfl⟩
    have hgW := hBh.lt
    go_wp2_with (with_reducible refine At.slot 30 ?_)
    refine At.out (wpList_makeB rfl (.tmp 29) (.tmp 29) 24 rfl elemB .i64 .i64 (S : Int) (S : Int) S rfl rfl rfl rfl (by omega) ?_)
    intro w3 hBo hb3
    obtain ⟨go, hgo⟩ : ∃ go, go = W.heap.size := ⟨_, rfl⟩
    rw [← hgo] at hBo hb3 hgW ⊢
    have hc3 : w3.cell? ⟨G, 3, none⟩ = some (.slice ad n c) := (hb3.cell (p := ⟨G, 3, none⟩) (by simp; omega)).trans hcW
    have hBh3 := hBh.at hb3 hgW
    have hbw3 := hbw2.trans (hb3.mono (by omega))
    clear hcW hBh hbw2 hb3 hgo
    go_wp2_with (with_reducible refine At.slot 33 ?_)
    refine At.out (wpList_copyB rfl (.tmp 31) (.tmp 32) 24 24 rfl elemB (some ⟨go, 0, none⟩) S S (some ⟨g4, 0, none⟩) 24 24 rfl rfl go 0 5 (zeroB S) Hd hBo (Rd.cap' (hBh3.rd (by have := HHd.out; omega)) HHd.out) HHd.out.symm (by have := HHd.out; omega) (fun _ => rfl) (by rw [zeroB_length]; have := HHd.out; omega) go w3 (Below.refl _ _) (Nat.le_refl _) ?_)
    intro w4 hB4 hb4
    have hc4 : w4.cell? ⟨G, 3, none⟩ = some (.slice ad n c) := (hb4.cell (p := ⟨G, 3, none⟩) (by simp; omega)).trans hc3
    have hbw4 := hbw3.trans (hb4.mono (by omega))
    obtain ⟨Z1, hZ1⟩ : ∃ Z1, Z1 = splice (zeroB S) 0 Hd := ⟨_, rfl⟩
    have hZl1 : Z1.length = S := by rw [hZ1, length_splice _ _ _ (by rw [zeroB_length]; have := HHd.out; omega), zeroB_length]
    rw [← hZ1] at hB4
    have HZ1 := Lib.hid hZ1
    clear hc3 hBh3 hbw3 hb4 hBo hZ1
    go_wp2_with fail
    have hr4 := hr.kept (HG.out ▸ hbw4 : Below w.heap.size w w4)
    have hS0 : Below go w4 w4.drew := (Below.refl _ _).drew
    have hr4d : Rd w4.drew ad c (B8 l) := hr4.kept (Below.refl _ _).drew
    have hg4 := hB4.lt
    go_region_held3 (fun V => V.cell? ⟨G, 3, none⟩ = some (.slice ad n c) ∧ Below go w4 V)
      (first
        | exact ⟨hc4, hS0⟩
        | exact ⟨(hb5.cell (p := ⟨G, 3, none⟩) (by simp; omega)).trans hc4, hb5⟩)
      (((with_reducible refine StepAt 40 ?_)
        (refine At.out (step_copyB (by rfl) (.tmp 37) (.tmp 39) 24 24 (by rfl) elemB (some ⟨go, 24, none⟩) (S - 24) (S - 24) ad n c (by rfl) (by rfl) go 24 5 Z1 l hB4 hr4d HN.out (by have := HN.out; omega) (fun _ => rfl) (by rw [hZl1]; have := HN.out; omega) go w4 hS0 (Nat.le_refl _) ?_))
        (intro w5 hB5 hb5)))
    have hc5 : w5.cell? ⟨G, 3, none⟩ = some (.slice ad n c) := (hb5.cell (p := ⟨G, 3, none⟩) (by simp; omega)).trans hc4
    have hbw5 := hbw4.trans (hb5.mono (by omega))
    obtain ⟨Z2, hZ2⟩ : ∃ Z2, Z2 = splice Z1 24 l := ⟨_, rfl⟩
    have hZl2 : Z2.length = S := by rw [hZ2, length_splice _ _ _ (by rw [hZl1]; have := HN.out; omega), hZl1]
    rw [← hZ2] at hB5
    have HZ2 := Lib.hid hZ2
    clear hc4 hbw4 hb5 hB4 hZ2 hS0 hr4 hr4d hg4
    go_wp2_with fail
    have hr5 := hr.kept (HG.out ▸ hbw5 : Below w.heap.size w w5)
    have hS1b : Below go w5 w5.drew := (Below.refl _ _).drew
    have hr5d : Rd w5.drew ad c (B8 l) := hr5.kept (Below.refl _ _).drew
    have hsm := HSum.out _ _ hr5d
    have HSm := Lib.hid hsm
    have hg5 := hB5.lt
    clear hsm
    go_region_held3 (fun V => V.cell? ⟨G, 3, none⟩ = some (.slice ad n c) ∧ Below go w5 V)
      (first
        | exact ⟨hc5, hS1b⟩
        | exact ⟨(hb6'.cell (p := ⟨G, 3, none⟩) (by simp; omega)).trans hc5, hb6'⟩
        | exact ⟨(hb7'.cell (p := ⟨G, 3, none⟩) (by simp; omega)).trans hc5, hb7'⟩
        | exact ⟨(hb8.cell (p := ⟨G, 3, none⟩) (by simp; omega)).trans hc5, hb8⟩)
      (first
        | (go_at_call 22; refine HSm.out.mono ?_; rintro e w6 ⟨rfl, hb6⟩
           have hb6' : Below go w5 w6 := hS1b.trans (hb6.mono (by simp; omega))
           have hB6 : Blk w6 go 5 Z2 := Blk.below (w := w5.drew) hB5 hb6
           have hg6 := hB6.lt
           clear hb6)
        | (go_at_call 21; refine (put32_any s _).mono ?_; rintro e w7 ⟨r7, rfl, ho7, hb7⟩
           have hb7' : Below go w5 w7 := hb6'.trans (hb7.mono (by omega))
           have hB7 : Blk w7 go 5 Z2 := Blk.below hB6 hb7
           obtain ⟨a7, c7, rfl, hr7⟩ := Rd.ofOwn ho7
           clear hb7 ho7)
        | ((with_reducible refine StepAt 49 ?_)
           (refine At.out (step_copyB (by rfl) (.tmp 44) (.tmp 48) 24 24 (by rfl) elemB (some ⟨go, 24 + n, none⟩) (S - (24 + n)) (S - (24 + n)) a7 4 c7 (by rfl) (by rfl) go (24 + n) 5 Z2 (putL 4 s.toNat) hB7 hr7 (by rw [putL_length]) (by rw [putL_length]; omega) (fun _ => rfl) (by rw [putL_length, hZl2]; omega) go w5 hb7' (Nat.le_refl _) ?_))
           (intro w8 hB8 hb8)))
    have hbw8 := hbw5.trans (hb8.mono (by omega))
    rw [HZ2.out, HZ1.out] at hB8
    go_wp2_with fail
    go_ret2
    exact NEncPost.mk (g := go) hB8 (HG.out ▸ (by omega : G ≤ go)) (HG.out ▸ hbw8)
  | true =>
    have hd0 : (n : Int) ≤ 0 := by have := hd rfl; have := HN.out; omega
    clear hd
    go_enter Try.func9, Try.ntmps9
    go_wp2_with fail
    refine (HH.out _).mono ?_
    rintro e w1 ⟨rfl, hb1⟩
    obtain ⟨C0, hC0⟩ : ∃ C0, C0 = #[Value.int .u64 (key.toNat : Int), .int .u32 (ck.toNat : Int), .bool true, .slice ad n c] := ⟨_, rfl⟩
    rw [← hC0] at hb1 ⊢
    have hsz1 : G + 1 ≤ w1.heap.size := by have := hb1.size; simp at this; omega
    have hbw1 : Below G w w1 := ((Below.refl G w).alloc (Nat.le_of_eq hG) _).trans (hb1.mono (by simp; omega))
    have hc3 : w1.cell? ⟨G, 3, none⟩ = some (.slice ad n c) := by
      rw [hb1.cell (p := ⟨G, 3, none⟩) (by simp; omega), hG, cell_of_row _ w.heap.size 3 _ _ _ (heap_alloc_new w _), hC0]; rfl
    rw [← hG]
    have HG := Lib.hid hG
    clear hb1 hC0 hG
    go_wp2_with (with_reducible refine At.slot 4 ?_)
    refine At.out (wpList_alloc8 rfl _ rfl rfl arr24 ?_)
    go_wp2_with (with_reducible refine At.store 47 (.tmp 4) (.tmp 25) ?_)
    refine At.out (wpList_store8 rfl _ rfl (.tmp 4) (.tmp 25) rfl arr24 w1.heap.size (zeroB 24) Hd rfl rfl (heap_alloc_new w1 _) (zeroB_length 24) HHd.out ?_)
    intro W hBh hbel _
    have hbW := hbel w1.heap.size w1 ((Below.refl _ _).alloc (Nat.le_refl _) _) (Nat.le_refl _)
    obtain ⟨g4, hg4⟩ : ∃ g4, g4 = w1.heap.size := ⟨_, rfl⟩
    rw [← hg4] at hBh hbW hsz1 ⊢
    have hcW : W.cell? ⟨G, 3, none⟩ = some (.slice ad n c) := (hbW.cell (p := ⟨G, 3, none⟩) (by simp; omega)).trans hc3
    have hbw2 := hbw1.trans (hbW.mono (by omega))
    clear hbel hbW hc3 hbw1 hg4
    go_wp2_with fail
    refine (HSC.out _).mono ?_
    rintro e W' ⟨rfl, rfl⟩
    have hgW := hBh.lt
    go_wp2_with (with_reducible refine At.slot 30 ?_)
    refine At.out (wpList_makeB rfl (.tmp 29) (.tmp 29) 24 rfl elemB .i64 .i64 (S : Int) (S : Int) S rfl rfl rfl rfl (by omega) ?_)
    intro w3 hBo hb3
    obtain ⟨go, hgo⟩ : ∃ go, go = W.heap.size := ⟨_, rfl⟩
    rw [← hgo] at hBo hb3 hgW ⊢
    have hc3 : w3.cell? ⟨G, 3, none⟩ = some (.slice ad n c) := (hb3.cell (p := ⟨G, 3, none⟩) (by simp; omega)).trans hcW
    have hBh3 := hBh.at hb3 hgW
    have hbw3 := hbw2.trans (hb3.mono (by omega))
    clear hcW hBh hbw2 hb3 hgo
    go_wp2_with (with_reducible refine At.slot 33 ?_)
    refine At.out (wpList_copyB rfl (.tmp 31) (.tmp 32) 24 24 rfl elemB (some ⟨go, 0, none⟩) S S (some ⟨g4, 0, none⟩) 24 24 rfl rfl go 0 5 (zeroB S) Hd hBo (Rd.cap' (hBh3.rd (by have := HHd.out; omega)) HHd.out) HHd.out.symm (by have := HHd.out; omega) (fun _ => rfl) (by rw [zeroB_length]; have := HHd.out; omega) go w3 (Below.refl _ _) (Nat.le_refl _) ?_)
    intro w4 hB4 hb4
    have hc4 : w4.cell? ⟨G, 3, none⟩ = some (.slice ad n c) := (hb4.cell (p := ⟨G, 3, none⟩) (by simp; omega)).trans hc3
    have hbw4 := hbw3.trans (hb4.mono (by omega))
    obtain ⟨Z1, hZ1⟩ : ∃ Z1, Z1 = splice (zeroB S) 0 Hd := ⟨_, rfl⟩
    have hZl1 : Z1.length = S := by rw [hZ1, length_splice _ _ _ (by rw [zeroB_length]; have := HHd.out; omega), zeroB_length]
    rw [← hZ1] at hB4
    have HZ1 := Lib.hid hZ1
    clear hc3 hBh3 hbw3 hb4 hBo hZ1
    go_wp2_with fail
    have hr4 := hr.kept (HG.out ▸ hbw4 : Below w.heap.size w w4)
    have hS0 : Below go w4 w4.drew := (Below.refl _ _).drew
    have hr4d : Rd w4.drew ad c (B8 l) := hr4.kept (Below.refl _ _).drew
    have hg4 := hB4.lt
    go_region_held3 (fun V => V.cell? ⟨G, 3, none⟩ = some (.slice ad n c) ∧ Below go w4 V)
      (first
        | exact ⟨hc4, hS0⟩
        | exact ⟨(hb5.cell (p := ⟨G, 3, none⟩) (by simp; omega)).trans hc4, hb5⟩)
      (((with_reducible refine StepAt 40 ?_)
        (refine At.out (step_copyB (by rfl) (.tmp 37) (.tmp 39) 24 24 (by rfl) elemB (some ⟨go, 24, none⟩) (S - 24) (S - 24) ad n c (by rfl) (by rfl) go 24 5 Z1 l hB4 hr4d HN.out (by have := HN.out; omega) (fun _ => rfl) (by rw [hZl1]; have := HN.out; omega) go w4 hS0 (Nat.le_refl _) ?_))
        (intro w5 hB5 hb5)))
    have hc5 : w5.cell? ⟨G, 3, none⟩ = some (.slice ad n c) := (hb5.cell (p := ⟨G, 3, none⟩) (by simp; omega)).trans hc4
    have hbw5 := hbw4.trans (hb5.mono (by omega))
    obtain ⟨Z2, hZ2⟩ : ∃ Z2, Z2 = splice Z1 24 l := ⟨_, rfl⟩
    have hZl2 : Z2.length = S := by rw [hZ2, length_splice _ _ _ (by rw [hZl1]; have := HN.out; omega), hZl1]
    rw [← hZ2] at hB5
    have HZ2 := Lib.hid hZ2
    clear hc4 hbw4 hb5 hB4 hZ2 hS0 hr4 hr4d hg4
    go_wp2_with fail
    have hr5 := hr.kept (HG.out ▸ hbw5 : Below w.heap.size w w5)
    have hS1b : Below go w5 w5.drew := (Below.refl _ _).drew
    have hr5d : Rd w5.drew ad c (B8 l) := hr5.kept (Below.refl _ _).drew
    have hsm := HSum.out _ _ hr5d
    have HSm := Lib.hid hsm
    have hg5 := hB5.lt
    clear hsm
    go_region_held3 (fun V => V.cell? ⟨G, 3, none⟩ = some (.slice ad n c) ∧ Below go w5 V)
      (first
        | exact ⟨hc5, hS1b⟩
        | exact ⟨(hb6'.cell (p := ⟨G, 3, none⟩) (by simp; omega)).trans hc5, hb6'⟩
        | exact ⟨(hb7'.cell (p := ⟨G, 3, none⟩) (by simp; omega)).trans hc5, hb7'⟩
        | exact ⟨(hb8.cell (p := ⟨G, 3, none⟩) (by simp; omega)).trans hc5, hb8⟩)
      (first
        | (go_at_call 22; refine HSm.out.mono ?_; rintro e w6 ⟨rfl, hb6⟩
           have hb6' : Below go w5 w6 := hS1b.trans (hb6.mono (by simp; omega))
           have hB6 : Blk w6 go 5 Z2 := Blk.below (w := w5.drew) hB5 hb6
           have hg6 := hB6.lt
           clear hb6)
        | (go_at_call 21; refine (put32_any s _).mono ?_; rintro e w7 ⟨r7, rfl, ho7, hb7⟩
           have hb7' : Below go w5 w7 := hb6'.trans (hb7.mono (by omega))
           have hB7 : Blk w7 go 5 Z2 := Blk.below hB6 hb7
           obtain ⟨a7, c7, rfl, hr7⟩ := Rd.ofOwn ho7
           clear hb7 ho7)
        | ((with_reducible refine StepAt 49 ?_)
           (refine At.out (step_copyB (by rfl) (.tmp 44) (.tmp 48) 24 24 (by rfl) elemB (some ⟨go, 24 + n, none⟩) (S - (24 + n)) (S - (24 + n)) a7 4 c7 (by rfl) (by rfl) go (24 + n) 5 Z2 (putL 4 s.toNat) hB7 hr7 (by rw [putL_length]) (by rw [putL_length]; omega) (fun _ => rfl) (by rw [putL_length, hZl2]; omega) go w5 hb7' (Nat.le_refl _) ?_))
           (intro w8 hB8 hb8)))
    have hbw8 := hbw5.trans (hb8.mono (by omega))
    rw [HZ2.out, HZ1.out] at hB8
    go_wp2_with fail
    go_ret2
    exact NEncPost.mk (g := go) hB8 (HG.out ▸ (by omega : G ≤ go)) (HG.out ▸ hbw8)
end Go.Proofs.Ytlahcdkhpekefaa
