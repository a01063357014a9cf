/- needle's headOf: the plain function, the contract. Conditions: the contract's own premises. -/
import Derived.Test.YtlahcdkhpekefaaSum
import Derived.Test.YtlahcdkhpekefaaPut
import Derived.Test.YtlahcdkhpekefaaSlice
import Derived.Test.YtlahcdkhpekefaaBlk
namespace Go.Proofs.Ytlahcdkhpekefaa
open Go Go.RowKit

/-- A head without its sum. -/
def head20 (key : UInt64) (ck : UInt32) (dead : Bool) (sz : Nat) : List UInt8 := [110, 100, if dead then 1 else 0, 0] ++ putL 8 key.toNat ++ putL 4 ck.toNat ++ putL 4 sz
/-- A needle's head. -/
def headL (key : UInt64) (ck : UInt32) (dead : Bool) (sz : Nat) : List UInt8 := head20 key ck dead sz ++ putL 4 (crc (head20 key ck dead sz)).toNat

theorem head20_length (key : UInt64) (ck : UInt32) (dead : Bool) (sz : Nat) : (head20 key ck dead sz).length = 20 := by simp [head20, putL_length]
theorem headL_length (key : UInt64) (ck : UInt32) (dead : Bool) (sz : Nat) : (headL key ck dead sz).length = 24 := by simp [headL, head20_length, putL_length]

theorem arr24 : ArrT Try.prog 47 24 := ⟨by
    obtain ⟨i, h1, h2, h3, h4⟩ := info_parts (show (Try.prog.info? 47).map (fun i => (i.zero, i.size, i.bytes)) = some (some (.agg (B8 (zeroB 24)).toArray), 24, 24) by kernel_rfl)
    exact ⟨i, h1, h2, h3⟩, ⟨5, Try.underlying47⟩⟩
/-- The head as it is begun. -/
def arr0 : List UInt8 := [110, 100, 0, 0, 0, 0, 0, 0, 0, 0, 0, 0, 0, 0, 0, 0, 0, 0, 0, 0, 0, 0, 0, 0]
theorem built24 : Try.prog.built 47 [(0, .int .u8 110), (1, .int .u8 100)] = some (B8 arr0).toArray := by kernel_rfl

theorem Rd.take8' {w : World} {a : Option Addr} {c n : Nat} {l : List UInt8} (h : Rd w a n (B8 l)) (k : Nat) (hc : n = c) : Rd w a c (B8 (l.take k)) := by
  subst hc; exact h.take8 k
theorem head_splice (key ck sz : Nat) (dd : UInt8) :
    splice (splice (splice (splice (arr0.set 2 dd) 4 (putL 8 key)) 12 (putL 4 ck)) 16 (putL 4 sz)) 20 (putL 4 (crc ((splice (splice (splice (arr0.set 2 dd) 4 (putL 8 key)) 12 (putL 4 ck)) 16 (putL 4 sz)).take 20)).toNat) =
      ([110, 100, dd, 0] ++ putL 8 key ++ putL 4 ck ++ putL 4 sz) ++ putL 4 (crc ([110, 100, dd, 0] ++ putL 8 key ++ putL 4 ck ++ putL 4 sz)).toNat := by
  have e : splice (splice (splice (arr0.set 2 dd) 4 (putL 8 key)) 12 (putL 4 ck)) 16 (putL 4 sz) = ([110, 100, dd, 0] ++ putL 8 key ++ putL 4 ck ++ putL 4 sz) ++ [0, 0, 0, 0] := by
    simp [splice, arr0, putL]
  have hl : ([110, 100, dd, 0] ++ putL 8 key ++ putL 4 ck ++ putL 4 sz).length = 20 := by simp [putL_length]
  rw [e, List.take_left' hl]
  generalize ([110, 100, dd, 0] ++ putL 8 key ++ putL 4 ck ++ putL 4 sz) = h at hl ⊢
  unfold splice
  rw [List.take_left' hl, putL_length, List.drop_of_length_le (by simp [hl]), List.append_nil]

set_option maxRecDepth 100000 in
set_option maxHeartbeats 4000000 in
theorem headOf_any (key : UInt64) (ck : UInt32) (dead : Bool) (ad : Option Addr) (n c : Nat) (sz : Nat) (hsz : sz < 4294967296) (w : World) :
    Calls Try.prog 20 #[.agg #[.int .u64 key.toNat, .int .u32 ck.toNat, .bool dead, .slice ad n c], .int .i64 (sz : Int)] w fun e w' =>
      e = .returned (.agg (B8 (headL key ck dead sz)).toArray) ∧ Below w.heap.size w w' := by
  obtain ⟨dd, hdd⟩ : ∃ dd : UInt8, dd = if dead then 1 else 0 := ⟨_, rfl⟩
  obtain ⟨Z, hZ⟩ : ∃ Z : List UInt8, Z = arr0.set 2 dd := ⟨_, rfl⟩
  have hZl0 : Z.length = 24 := by rw [hZ, List.length_set]; rfl
  obtain ⟨G, hG⟩ : ∃ G, G = w.heap.size := ⟨_, rfl⟩
  obtain ⟨C0, hC0⟩ : ∃ C0, C0 = #[Value.int .u64 (key.toNat : Int), .int .u32 (ck.toNat : Int), .bool dead, .slice ad n c] := ⟨_, rfl⟩
  obtain ⟨v, hv⟩ : ∃ v : UInt32, sz = v.toNat := ⟨UInt32.ofNat sz, by rw [UInt32.toNat_ofNat', Nat.mod_eq_of_lt hsz]⟩
  subst hv
  have hvlt := u32_lt v
  have hwv : IntKind.u32.wrap (v.toNat : Int) = (v.toNat : Int) := IntWalk.u32_in _ (by omega)
  have HZ := Lib.hid hZ
  clear hZ
  go_enter Try.func20, Try.ntmps20
  go_wp2_with (with_reducible refine At.slot 4 ?_)
  refine At.out (wpList_alloc8 rfl _ rfl rfl arr24 ?_)
  go_wp2_with (with_reducible refine At.slot 6 ?_)
  refine At.out (wpList_build8 rfl _ rfl [(0, .const (.int .u8 110)), (1, .const (.int .u8 100))] rfl _ built24 ?_)
  go_wp2_with (with_reducible refine At.slot 5 ?_)
  refine At.out (wpList_alloc8 rfl _ rfl rfl arr24 ?_)
  go_wp2_with (with_reducible refine At.store 47 (.tmp 5) (.tmp 6) ?_)
  rw [← hC0]
  have hblk : Blk (((w.alloc (.cells C0 26)).alloc (.cells (B8 (zeroB 24)).toArray 47)).alloc (.cells (B8 (zeroB 24)).toArray 47)) (w.heap.size + 1 + 1) 47 (zeroB 24) := by
    unfold Blk
    have := heap_alloc_new ((w.alloc (.cells C0 26)).alloc (.cells (B8 (zeroB 24)).toArray 47)) (.cells (B8 (zeroB 24)).toArray 47)
    simpa using this
  refine At.out (wpList_store8 rfl _ rfl (.tmp 5) (.tmp 6) rfl arr24 (w.heap.size + 1 + 1) (zeroB 24) arr0 rfl rfl hblk (zeroB_length 24) rfl ?_)
  intro W hB2 hbel hsz
  have hbU := hbel (w.heap.size + 1 + 1) _ (Below.refl _ _) (Nat.le_refl _)
  have hF0 : W.heap[w.heap.size]? = some (.cells C0 26 (0, 0)) := by
    rw [hbU.block w.heap.size (by omega), heap_alloc_old _ _ (by simp; omega), heap_alloc_old _ _ (by simp), heap_alloc_new]
  have hF1 : Blk W (w.heap.size + 1) 47 (zeroB 24) := by
    unfold Blk
    rw [hbU.block (w.heap.size + 1) (by omega), heap_alloc_old _ _ (by simp)]
    have := heap_alloc_new (w.alloc (.cells C0 26)) (.cells (B8 (zeroB 24)).toArray 47)
    simpa using this
  have hbw : Below w.heap.size w W := hbel w.heap.size w ((((Below.refl _ _).alloc (Nat.le_refl _) _).alloc (by simp) _).alloc (by simp; omega) _) (by omega)
  rw [← hG] at hB2 hF0 hF1 hbw ⊢
  clear hbel hbU hblk hsz
  have hc0 : W.cell? ⟨G, 0, none⟩ = some (.int .u64 (key.toNat : Int)) := by rw [cell_of_row W G 0 _ _ _ hF0, hC0]; rfl
  have hc1 : W.cell? ⟨G, 1, none⟩ = some (.int .u32 (ck.toNat : Int)) := by rw [cell_of_row W G 1 _ _ _ hF0, hC0]; rfl
  have hc2 : W.cell? ⟨G, 2, none⟩ = some (.bool dead) := by rw [cell_of_row W G 2 _ _ _ hF0, hC0]; rfl
  clear hF0 hC0
  have HG := Lib.hid hG
  clear hG
  cases dead with
  | false =>
    obtain rfl : dd = 0 := hdd
    have hBZ0 : Blk W (G + 1 + 1) 47 Z := by rw [show Z = arr0 from HZ.out]; exact hB2
    clear hB2
    go_wp2_with fail
    have hgs0 := hBZ0.lt
    have hS0 : Below (G + 1 + 1) W W.drew := (Below.refl _ _).drew
    go_region_held3 (fun V => V.cell? ⟨G, 0, none⟩ = some (.int .u64 (key.toNat : Int)) ∧ Below (G + 1 + 1) W V)
      (first
        | exact ⟨hc0, hS0⟩
        | exact ⟨(hbp0.cell (p := ⟨G, 0, none⟩) (by simp; omega)).trans hc0, hbp0⟩
        | exact ⟨(hbc0.cell (p := ⟨G, 0, none⟩) (by simp; omega)).trans hc0, hbc0⟩)
      (first
        | (go_at_call 32; refine (put64_any key _).mono ?_; rintro e wp0 ⟨rp0, rfl, hop, hbq⟩
           have hbp0 : Below (G + 1 + 1) W wp0 := hS0.trans (hbq.mono (by first | omega | (simp; omega)))
           have hBp0 : Blk wp0 (G + 1 + 1) 47 Z := Blk.below (w := W.drew) hBZ0 hbq
           obtain ⟨ap0, cp0, rfl, hrp0⟩ := Rd.ofOwn hop
           clear hop hbq)
        | ((with_reducible refine StepAt 14 ?_)
           (refine At.out (step_copyB (by rfl) (.tmp 10) (.tmp 13) 24 24 (by rfl) elemB (some ⟨G + 1 + 1, 4, none⟩) 20 20 ap0 8 cp0 (by rfl) (by rfl) (G + 1 + 1) 4 47 Z (putL 8 key.toNat) hBp0 hrp0 (by rw [putL_length]) (by rw [putL_length]; omega) (fun _ => rfl) (by rw [putL_length, hZl0]; omega) (G + 1 + 1) W hbp0 (Nat.le_refl _) ?_))
           (intro w1 hBn hbc0)))
    obtain ⟨Z1, hZn⟩ : ∃ Zn, Zn = splice Z 4 (putL 8 key.toNat) := ⟨_, rfl⟩
    rw [← hZn] at hBn
    have hZl1 : Z1.length = 24 := by rw [hZn, length_splice _ _ _ (by rw [putL_length, hZl0]; omega)]; exact hZl0
    have HZ1 := Lib.hid hZn
    have hBZ1 := hBn
    clear hZn hBn
    have hc1b := (hbc0.cell (p := ⟨G, 1, none⟩) (by simp; omega)).trans hc1
    have hF1b := hF1.at hbc0 (Nat.lt_succ_self _)
    have hwb := hbw.trans (hbc0.mono (by omega))
    clear hc0 hc1 hF1 hbw hbp0 hBp0 hrp0 hS0
    go_wp2_with fail
    have hgs1 := hBZ1.lt
    have hS1 : Below (G + 1 + 1) w1 w1.drew := (Below.refl _ _).drew
    go_region_held3 (fun V => V.cell? ⟨G, 1, none⟩ = some (.int .u32 (ck.toNat : Int)) ∧ Below (G + 1 + 1) w1 V)
      (first
        | exact ⟨hc1b, hS1⟩
        | exact ⟨(hbp1.cell (p := ⟨G, 1, none⟩) (by simp; omega)).trans hc1b, hbp1⟩
        | exact ⟨(hbc1.cell (p := ⟨G, 1, none⟩) (by simp; omega)).trans hc1b, hbc1⟩)
      (first
        | (go_at_call 21; refine (put32_any ck _).mono ?_; rintro e wp1 ⟨rp1, rfl, hop, hbq⟩
           have hbp1 : Below (G + 1 + 1) w1 wp1 := hS1.trans (hbq.mono (by first | omega | (simp; omega)))
           have hBp1 : Blk wp1 (G + 1 + 1) 47 Z1 := Blk.below (w := w1.drew) hBZ1 hbq
           obtain ⟨ap1, cp1, rfl, hrp1⟩ := Rd.ofOwn hop
           clear hop hbq)
        | ((with_reducible refine StepAt 19 ?_)
           (refine At.out (step_copyB (by rfl) (.tmp 15) (.tmp 18) 24 24 (by rfl) elemB (some ⟨G + 1 + 1, 12, none⟩) 12 12 ap1 4 cp1 (by rfl) (by rfl) (G + 1 + 1) 12 47 Z1 (putL 4 ck.toNat) hBp1 hrp1 (by rw [putL_length]) (by rw [putL_length]; omega) (fun _ => rfl) (by rw [putL_length, hZl1]; omega) (G + 1 + 1) w1 hbp1 (Nat.le_refl _) ?_))
           (intro w2 hBn hbc1)))
    obtain ⟨Z2, hZn⟩ : ∃ Zn, Zn = splice Z1 12 (putL 4 ck.toNat) := ⟨_, rfl⟩
    rw [← hZn] at hBn
    have hZl2 : Z2.length = 24 := by rw [hZn, length_splice _ _ _ (by rw [putL_length, hZl1]; omega)]; exact hZl1
    have HZ2 := Lib.hid hZn
    have hBZ2 := hBn
    clear hZn hBn
    have hF1c := hF1b.at hbc1 (Nat.lt_succ_self _)
    have hwc := hwb.trans (hbc1.mono (by omega))
    clear hc1b hF1b hwb hbp1 hBp1 hrp1 hS1
    go_wp2_with fail
    have hgs2 := hBZ2.lt
    have hS2 : Below (G + 1 + 1) w2 w2.drew := (Below.refl _ _).drew
    go_region_held3 (fun V => Below (G + 1 + 1) w2 V)
      (first
        | exact hS2
        | exact hbp2
        | exact hbc2)
      (first
        | (go_at_call 21; refine (put32_any v _).mono ?_; rintro e wp2 ⟨rp2, rfl, hop, hbq⟩
           have hbp2 : Below (G + 1 + 1) w2 wp2 := hS2.trans (hbq.mono (by first | omega | (simp; omega)))
           have hBp2 : Blk wp2 (G + 1 + 1) 47 Z2 := Blk.below (w := w2.drew) hBZ2 hbq
           obtain ⟨ap2, cp2, rfl, hrp2⟩ := Rd.ofOwn hop
           clear hop hbq)
        | ((with_reducible refine StepAt 24 ?_)
           (refine At.out (step_copyB (by rfl) (.tmp 20) (.tmp 23) 24 24 (by rfl) elemB (some ⟨G + 1 + 1, 16, none⟩) 8 8 ap2 4 cp2 (by rfl) (by rfl) (G + 1 + 1) 16 47 Z2 (putL 4 v.toNat) hBp2 hrp2 (by rw [putL_length]) (by rw [putL_length]; omega) (fun _ => rfl) (by rw [putL_length, hZl2]; omega) (G + 1 + 1) w2 hbp2 (Nat.le_refl _) ?_))
           (intro w3 hBn hbc2)))
    obtain ⟨Z3, hZn⟩ : ∃ Zn, Zn = splice Z2 16 (putL 4 v.toNat) := ⟨_, rfl⟩
    rw [← hZn] at hBn
    have hZl3 : Z3.length = 24 := by rw [hZn, length_splice _ _ _ (by rw [putL_length, hZl2]; omega)]; exact hZl2
    have HZ3 := Lib.hid hZn
    have hBZ3 := hBn
    clear hZn hBn
    have hF1d := hF1c.at hbc2 (Nat.lt_succ_self _)
    have hwd := hwc.trans (hbc2.mono (by omega))
    clear hF1c hwc hbp2 hBp2 hrp2 hS2
    obtain ⟨s, hs⟩ : ∃ s, s = crc (Z3.take 20) := ⟨_, rfl⟩
    have hsum := sum_any w3.drew (some ⟨G + 1 + 1, 0, none⟩) 24 (Z3.take 20) (((Blk.below hBZ3 ((Below.refl _ _).drew)).rd (by omega)).take8' 20 hZl3)
    rw [← hs, show (Z3.take 20).length = 20 from by rw [List.length_take]; omega] at hsum
    have HSm := Lib.hid hsum
    have HS := Lib.hid hs
    clear hs hsum
    go_wp2_with fail
    have hgs3 := hBZ3.lt
    have hS3 : Below (G + 1 + 1) w3 w3.drew := (Below.refl _ _).drew
    go_region_held3 (fun V => Below (G + 1 + 1) w3 V)
      (first
        | exact hS3
        | exact hbp3
        | exact hbs3
        | exact hbc3)
      (first
        | (go_at_call 22; refine HSm.out.mono ?_; rintro e ws ⟨rfl, hbq⟩
           have hbs3 : Below (G + 1 + 1) w3 ws := hS3.trans (hbq.mono (by first | omega | (simp; omega)))
           have hBs3 : Blk ws (G + 1 + 1) 47 Z3 := Blk.below (w := w3.drew) hBZ3 hbq
           have hgs3' := hBs3.lt
           clear hbq)
        | (go_at_call 21; refine (put32_any s _).mono ?_; rintro e wp3 ⟨rp3, rfl, hop, hbq⟩
           have hbp3 : Below (G + 1 + 1) w3 wp3 := hbs3.trans (hbq.mono (by first | omega | (simp; omega)))
           have hBp3 : Blk wp3 (G + 1 + 1) 47 Z3 := Blk.below hBs3 hbq
           obtain ⟨ap3, cp3, rfl, hrp3⟩ := Rd.ofOwn hop
           clear hop hbq)
        | ((with_reducible refine StepAt 29 ?_)
           (refine At.out (step_copyB (by rfl) (.tmp 25) (.tmp 28) 24 24 (by rfl) elemB (some ⟨G + 1 + 1, 20, none⟩) 4 4 ap3 4 cp3 (by rfl) (by rfl) (G + 1 + 1) 20 47 Z3 (putL 4 s.toNat) hBp3 hrp3 (by rw [putL_length]) (by rw [putL_length]; omega) (fun _ => rfl) (by rw [putL_length, hZl3]; omega) (G + 1 + 1) w3 hbp3 (Nat.le_refl _) ?_))
           (intro w4 hBn hbc3)))
    obtain ⟨Z4, hZn⟩ : ∃ Zn, Zn = splice Z3 20 (putL 4 s.toNat) := ⟨_, rfl⟩
    rw [← hZn] at hBn
    have hZl4 : Z4.length = 24 := by rw [hZn, length_splice _ _ _ (by rw [putL_length, hZl3]; omega)]; exact hZl3
    have HZ4 := Lib.hid hZn
    have hBZ4 := hBn
    clear hZn hBn
    have hF1e := hF1d.at hbc3 (Nat.lt_succ_self _)
    have hwe := hwd.trans (hbc3.mono (by omega))
    clear hF1d hwd hbp3 hBp3 hrp3 hS3 hbs3 hBs3
    go_wp2_with (with_reducible refine At.slot 30 ?_)
    refine At.out (wpList_load8 rfl _ rfl (.tmp 5) rfl arr24 (G + 1 + 1) Z4 rfl hBZ4 hZl4 ?_)
    go_wp2_with (with_reducible refine At.store 47 (.tmp 4) (.tmp 30) ?_)
    refine At.out (wpList_store8 rfl _ rfl (.tmp 4) (.tmp 30) rfl arr24 (G + 1) (zeroB 24) Z4 rfl rfl hF1e (zeroB_length 24) hZl4 ?_)
    intro w5 hB5 hbel5 _
    have hwf := hbel5 G w hwe (by omega)
    have hres : Z4 = headL key ck false v.toNat := by
      have e := head_splice key.toNat ck.toNat v.toNat 0
      rw [HZ4.out, HS.out, HZ3.out, HZ2.out, HZ1.out, HZ.out]
      exact e
    go_wp2_with fail
    have hwf' : Below w.heap.size w w5 := HG.out ▸ hwf
    exact bodyPost_ret (v := .agg (B8 Z4).toArray) (results_cell_row (fn := Try.f20) rfl _ _ (G + 1) 47 (B8 Z4).toArray (0, 0) _ rfl hB5 Try.underlying47 rfl (by obtain ⟨i, hi, _, hs⟩ := arr24.info; rw [hi]; simp [B8_length, hs, hZl4])) rfl ⟨by rw [hres], hwf'⟩
  | true =>
    obtain rfl : dd = 1 := hdd
    have hfr : W.frozen? ⟨G + 1 + 1, 2, none⟩ = false := by simp [World.frozen?, show W.heap[G + 1 + 1]? = _ from hB2]
    have hcc : W.cell? ⟨G + 1 + 1, 2, none⟩ = some (.int .u8 0) := by rw [cell_of_row W (G + 1 + 1) 2 _ _ _ hB2]; rfl
    go_wp2_with fail
    obtain ⟨X, hX⟩ : ∃ X, X = W.setCell ⟨G + 1 + 1, 2, none⟩ (.int .u8 1) := ⟨_, rfl⟩
    rw [← hX]
    have hbX : Below (G + 1 + 1) W X := by rw [hX]; exact (Below.refl (G + 1 + 1) W).setCell (p := ⟨G + 1 + 1, 2, none⟩) (Nat.le_refl _) _
    have hBZ0 : Blk X (G + 1 + 1) 47 Z := by
      rw [hX, setCell_eq_setRow W (G + 1 + 1) 2 (B8 arr0).toArray 47 (0, 0) (.int .u8 1) hB2]
      have := setRow_heap W (G + 1 + 1) (B8 arr0).toArray ((B8 arr0).toArray.setIfInBounds 2 (.int .u8 1)) 47 (0, 0) hB2
      unfold Blk
      rw [this, HZ.out]
      rfl
    have hF1' := hF1.at hbX (Nat.lt_succ_self _)
    have hbw' := hbw.trans (hbX.mono (by omega))
    have hc0' := (hbX.cell (p := ⟨G, 0, none⟩) (by simp; omega)).trans hc0
    have hc1' := (hbX.cell (p := ⟨G, 1, none⟩) (by simp; omega)).trans hc1
    clear hcc hfr hF1 hbw hc0 hc1 hc2 hX hbX hB2
    have hF1 := hF1'
    have hbw := hbw'
    have hc0 := hc0'
    have hc1 := hc1'
    clear hF1' hbw' hc0' hc1'
    have hgs0 := hBZ0.lt
    have hS0 : Below (G + 1 + 1) X X.drew := (Below.refl _ _).drew
    go_region_held3 (fun V => V.cell? ⟨G, 0, none⟩ = some (.int .u64 (key.toNat : Int)) ∧ Below (G + 1 + 1) X V)
      (first
        | exact ⟨hc0, hS0⟩
        | exact ⟨(hbp0.cell (p := ⟨G, 0, none⟩) (by simp; omega)).trans hc0, hbp0⟩
        | exact ⟨(hbc0.cell (p := ⟨G, 0, none⟩) (by simp; omega)).trans hc0, hbc0⟩)
      (first
        | (go_at_call 32; refine (put64_any key _).mono ?_; rintro e wp0 ⟨rp0, rfl, hop, hbq⟩
           have hbp0 : Below (G + 1 + 1) X wp0 := hS0.trans (hbq.mono (by first | omega | (simp; omega)))
           have hBp0 : Blk wp0 (G + 1 + 1) 47 Z := Blk.below (w := X.drew) hBZ0 hbq
           obtain ⟨ap0, cp0, rfl, hrp0⟩ := Rd.ofOwn hop
           clear hop hbq)
        | ((with_reducible refine StepAt 14 ?_)
           (refine At.out (step_copyB (by rfl) (.tmp 10) (.tmp 13) 24 24 (by rfl) elemB (some ⟨G + 1 + 1, 4, none⟩) 20 20 ap0 8 cp0 (by rfl) (by rfl) (G + 1 + 1) 4 47 Z (putL 8 key.toNat) hBp0 hrp0 (by rw [putL_length]) (by rw [putL_length]; omega) (fun _ => rfl) (by rw [putL_length, hZl0]; omega) (G + 1 + 1) X hbp0 (Nat.le_refl _) ?_))
           (intro w1 hBn hbc0)))
    obtain ⟨Z1, hZn⟩ : ∃ Zn, Zn = splice Z 4 (putL 8 key.toNat) := ⟨_, rfl⟩
    rw [← hZn] at hBn
    have hZl1 : Z1.length = 24 := by rw [hZn, length_splice _ _ _ (by rw [putL_length, hZl0]; omega)]; exact hZl0
    have HZ1 := Lib.hid hZn
    have hBZ1 := hBn
    clear hZn hBn
    have hc1b := (hbc0.cell (p := ⟨G, 1, none⟩) (by simp; omega)).trans hc1
    have hF1b := hF1.at hbc0 (Nat.lt_succ_self _)
    have hwb := hbw.trans (hbc0.mono (by omega))
    clear hc0 hc1 hF1 hbw hbp0 hBp0 hrp0 hS0
    go_wp2_with fail
    have hgs1 := hBZ1.lt
    have hS1 : Below (G + 1 + 1) w1 w1.drew := (Below.refl _ _).drew
    go_region_held3 (fun V => V.cell? ⟨G, 1, none⟩ = some (.int .u32 (ck.toNat : Int)) ∧ Below (G + 1 + 1) w1 V)
      (first
        | exact ⟨hc1b, hS1⟩
        | exact ⟨(hbp1.cell (p := ⟨G, 1, none⟩) (by simp; omega)).trans hc1b, hbp1⟩
        | exact ⟨(hbc1.cell (p := ⟨G, 1, none⟩) (by simp; omega)).trans hc1b, hbc1⟩)
      (first
        | (go_at_call 21; refine (put32_any ck _).mono ?_; rintro e wp1 ⟨rp1, rfl, hop, hbq⟩
           have hbp1 : Below (G + 1 + 1) w1 wp1 := hS1.trans (hbq.mono (by first | omega | (simp; omega)))
           have hBp1 : Blk wp1 (G + 1 + 1) 47 Z1 := Blk.below (w := w1.drew) hBZ1 hbq
           obtain ⟨ap1, cp1, rfl, hrp1⟩ := Rd.ofOwn hop
           clear hop hbq)
        | ((with_reducible refine StepAt 19 ?_)
           (refine At.out (step_copyB (by rfl) (.tmp 15) (.tmp 18) 24 24 (by rfl) elemB (some ⟨G + 1 + 1, 12, none⟩) 12 12 ap1 4 cp1 (by rfl) (by rfl) (G + 1 + 1) 12 47 Z1 (putL 4 ck.toNat) hBp1 hrp1 (by rw [putL_length]) (by rw [putL_length]; omega) (fun _ => rfl) (by rw [putL_length, hZl1]; omega) (G + 1 + 1) w1 hbp1 (Nat.le_refl _) ?_))
           (intro w2 hBn hbc1)))
    obtain ⟨Z2, hZn⟩ : ∃ Zn, Zn = splice Z1 12 (putL 4 ck.toNat) := ⟨_, rfl⟩
    rw [← hZn] at hBn
    have hZl2 : Z2.length = 24 := by rw [hZn, length_splice _ _ _ (by rw [putL_length, hZl1]; omega)]; exact hZl1
    have HZ2 := Lib.hid hZn
    have hBZ2 := hBn
    clear hZn hBn
    have hF1c := hF1b.at hbc1 (Nat.lt_succ_self _)
    have hwc := hwb.trans (hbc1.mono (by omega))
    clear hc1b hF1b hwb hbp1 hBp1 hrp1 hS1
    go_wp2_with fail
    have hgs2 := hBZ2.lt
    have hS2 : Below (G + 1 + 1) w2 w2.drew := (Below.refl _ _).drew
    go_region_held3 (fun V => Below (G + 1 + 1) w2 V)
      (first
        | exact hS2
        | exact hbp2
        | exact hbc2)
      (first
        | (go_at_call 21; refine (put32_any v _).mono ?_; rintro e wp2 ⟨rp2, rfl, hop, hbq⟩
           have hbp2 : Below (G + 1 + 1) w2 wp2 := hS2.trans (hbq.mono (by first | omega | (simp; omega)))
           have hBp2 : Blk wp2 (G + 1 + 1) 47 Z2 := Blk.below (w := w2.drew) hBZ2 hbq
           obtain ⟨ap2, cp2, rfl, hrp2⟩ := Rd.ofOwn hop
           clear hop hbq)
        | ((with_reducible refine StepAt 24 ?_)
           (refine At.out (step_copyB (by rfl) (.tmp 20) (.tmp 23) 24 24 (by rfl) elemB (some ⟨G + 1 + 1, 16, none⟩) 8 8 ap2 4 cp2 (by rfl) (by rfl) (G + 1 + 1) 16 47 Z2 (putL 4 v.toNat) hBp2 hrp2 (by rw [putL_length]) (by rw [putL_length]; omega) (fun _ => rfl) (by rw [putL_length, hZl2]; omega) (G + 1 + 1) w2 hbp2 (Nat.le_refl _) ?_))
           (intro w3 hBn hbc2)))
    obtain ⟨Z3, hZn⟩ : ∃ Zn, Zn = splice Z2 16 (putL 4 v.toNat) := ⟨_, rfl⟩
    rw [← hZn] at hBn
    have hZl3 : Z3.length = 24 := by rw [hZn, length_splice _ _ _ (by rw [putL_length, hZl2]; omega)]; exact hZl2
    have HZ3 := Lib.hid hZn
    have hBZ3 := hBn
    clear hZn hBn
    have hF1d := hF1c.at hbc2 (Nat.lt_succ_self _)
    have hwd := hwc.trans (hbc2.mono (by omega))
    clear hF1c hwc hbp2 hBp2 hrp2 hS2
    obtain ⟨s, hs⟩ : ∃ s, s = crc (Z3.take 20) := ⟨_, rfl⟩
    have hsum := sum_any w3.drew (some ⟨G + 1 + 1, 0, none⟩) 24 (Z3.take 20) (((Blk.below hBZ3 ((Below.refl _ _).drew)).rd (by omega)).take8' 20 hZl3)
    rw [← hs, show (Z3.take 20).length = 20 from by rw [List.length_take]; omega] at hsum
    have HSm := Lib.hid hsum
    have HS := Lib.hid hs
    clear hs hsum
    go_wp2_with fail
    have hgs3 := hBZ3.lt
    have hS3 : Below (G + 1 + 1) w3 w3.drew := (Below.refl _ _).drew
    go_region_held3 (fun V => Below (G + 1 + 1) w3 V)
      (first
        | exact hS3
        | exact hbp3
        | exact hbs3
        | exact hbc3)
      (first
        | (go_at_call 22; refine HSm.out.mono ?_; rintro e ws ⟨rfl, hbq⟩
           have hbs3 : Below (G + 1 + 1) w3 ws := hS3.trans (hbq.mono (by first | omega | (simp; omega)))
           have hBs3 : Blk ws (G + 1 + 1) 47 Z3 := Blk.below (w := w3.drew) hBZ3 hbq
           have hgs3' := hBs3.lt
           clear hbq)
        | (go_at_call 21; refine (put32_any s _).mono ?_; rintro e wp3 ⟨rp3, rfl, hop, hbq⟩
           have hbp3 : Below (G + 1 + 1) w3 wp3 := hbs3.trans (hbq.mono (by first | omega | (simp; omega)))
           have hBp3 : Blk wp3 (G + 1 + 1) 47 Z3 := Blk.below hBs3 hbq
           obtain ⟨ap3, cp3, rfl, hrp3⟩ := Rd.ofOwn hop
           clear hop hbq)
        | ((with_reducible refine StepAt 29 ?_)
           (refine At.out (step_copyB (by rfl) (.tmp 25) (.tmp 28) 24 24 (by rfl) elemB (some ⟨G + 1 + 1, 20, none⟩) 4 4 ap3 4 cp3 (by rfl) (by rfl) (G + 1 + 1) 20 47 Z3 (putL 4 s.toNat) hBp3 hrp3 (by rw [putL_length]) (by rw [putL_length]; omega) (fun _ => rfl) (by rw [putL_length, hZl3]; omega) (G + 1 + 1) w3 hbp3 (Nat.le_refl _) ?_))
           (intro w4 hBn hbc3)))
    obtain ⟨Z4, hZn⟩ : ∃ Zn, Zn = splice Z3 20 (putL 4 s.toNat) := ⟨_, rfl⟩
    rw [← hZn] at hBn
    have hZl4 : Z4.length = 24 := by rw [hZn, length_splice _ _ _ (by rw [putL_length, hZl3]; omega)]; exact hZl3
    have HZ4 := Lib.hid hZn
    have hBZ4 := hBn
    clear hZn hBn
    have hF1e := hF1d.at hbc3 (Nat.lt_succ_self _)
    have hwe := hwd.trans (hbc3.mono (by omega))
    clear hF1d hwd hbp3 hBp3 hrp3 hS3 hbs3 hBs3
    go_wp2_with (with_reducible refine At.slot 30 ?_)
    refine At.out (wpList_load8 rfl _ rfl (.tmp 5) rfl arr24 (G + 1 + 1) Z4 rfl hBZ4 hZl4 ?_)
    go_wp2_with (with_reducible refine At.store 47 (.tmp 4) (.tmp 30) ?_)
    refine At.out (wpList_store8 rfl _ rfl (.tmp 4) (.tmp 30) rfl arr24 (G + 1) (zeroB 24) Z4 rfl rfl hF1e (zeroB_length 24) hZl4 ?_)
    intro w5 hB5 hbel5 _
    have hwf := hbel5 G w hwe (by omega)
    have hres : Z4 = headL key ck true v.toNat := by
      have e := head_splice key.toNat ck.toNat v.toNat 1
      rw [HZ4.out, HS.out, HZ3.out, HZ2.out, HZ1.out, HZ.out]
      exact e
    go_wp2_with fail
    have hwf' : Below w.heap.size w w5 := HG.out ▸ hwf
    exact bodyPost_ret (v := .agg (B8 Z4).toArray) (results_cell_row (fn := Try.f20) rfl _ _ (G + 1) 47 (B8 Z4).toArray (0, 0) _ rfl hB5 Try.underlying47 rfl (by obtain ⟨i, hi, _, hs⟩ := arr24.info; rw [hi]; simp [B8_length, hs, hZl4])) rfl ⟨by rw [hres], hwf'⟩
end Go.Proofs.Ytlahcdkhpekefaa
