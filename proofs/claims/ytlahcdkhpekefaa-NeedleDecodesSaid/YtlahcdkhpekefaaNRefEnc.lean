/- The document's Encode of a needle: the contract. Conditions: each contract's own premises. -/
import Derived.Test.YtlahcdkhpekefaaNEnc
import Derived.Test.YtlahcdkhpekefaaRefSum
import Derived.Test.YtlahcdkhpekefaaBlkV
namespace Go.Proofs.Ytlahcdkhpekefaa
open Go Go.RowKit

theorem refNEncode_no (key : UInt64) (ck : UInt32) (dead : Bool) (ad : Option Addr) (n c : Nat) (w : World) (f : Int) (hn : n ≤ 9223372036854775807) (hf : dead = true ∧ 0 < n ∧ f = 1 ∨ dead = false ∧ 65536 < n ∧ f = 5) :
    Calls Try.prog 10 #[needV key ck dead ad n c] w fun e w' => e = .returned (.tuple #[.slice none 0 0, .int .i64 f]) ∧ Below w.heap.size w w' := by
  unfold needV
  rcases hf with ⟨rfl, h, rfl⟩ | ⟨rfl, h, rfl⟩
  · have hi : (0 : Int) < (n : Int) := by omega
    go_enter Try.func10, Try.ntmps10
    go_wp2
    go_ret2
    exact ⟨rfl, (Below.refl _ _).alloc (Nat.le_refl _) _⟩
  · have hi : (65536 : Int) < (n : Int) := by omega
    go_enter Try.func10, Try.ntmps10
    go_wp2
    go_ret2
    exact ⟨rfl, (Below.refl _ _).alloc (Nat.le_refl _) _⟩

theorem hlen20 (dd : UInt8) (a b c : Nat) : ((([110, 100, dd, 0] ++ putL 8 a) ++ putL 4 b) ++ putL 4 c).length = 4 + 8 + 4 + 4 := by simp [putL_length]
theorem heap_size_alloc' (w : World) (o : Obj) : (w.alloc o).heap.size = w.heap.size + 1 := by simp
/-- A slice's length. -/
def lenV : Value → Nat
  | .slice _ n _ => n
  | _ => 0
theorem zeroB_succ (k : Nat) : zeroB k ++ [0] = zeroB (k + 1) := by unfold zeroB; rw [List.replicate_succ']
theorem own_lenV {w : World} {base : Nat} {e : TypeId} {sz : Nat} {v : Value} {n : Nat} {xs : List Value} (h : w.ownsRow base e sz v n xs) : lenV v = n := by
  rcases h.2 with ⟨rfl, rfl⟩ | ⟨g, cap, cur, rfl, _⟩ <;> rfl
/-- What the document's Encode gives. -/
def RNEncPost (w : World) (n : Nat) (X : List UInt8) (e : Ending) (w' : World) : Prop := ∃ r, e = .returned (.tuple #[r, .int .i64 0]) ∧ w'.ownsRow w.heap.size 5 1 r n (B8 X) ∧ Below w.heap.size w w'

set_option maxRecDepth 100000 in
set_option maxHeartbeats 4000000 in
theorem refNEncode_yes (key : UInt64) (ck : UInt32) (dead : Bool) (ad : Option Addr) (c : Nat) (l : List UInt8) (w : World) (hr : Rd w ad c (B8 l)) (hl : l.length ≤ 65536) (hd : dead = true → l.length = 0) :
    Calls Try.prog 10 #[needV key ck dead ad l.length c] w (RNEncPost w (sizeN l.length) (needL key ck dead l)) := by
  unfold needV
  obtain ⟨n, hn⟩ : ∃ n, n = l.length := ⟨_, rfl⟩
  obtain ⟨S, hS⟩ : ∃ S, S = sizeN n := ⟨_, rfl⟩
  have hS1 : n + 28 ≤ S := hS ▸ sizeN_ge n
  have hS2 : S ≤ n + 35 := hS ▸ sizeN_le n
  have hS8 : S % 8 = 0 := by rw [hS]; unfold sizeN; omega
  obtain ⟨dd, hdd⟩ : ∃ dd : UInt8, dd = if dead then 1 else 0 := ⟨_, rfl⟩
  obtain ⟨v, hv⟩ : ∃ v : UInt32, n = v.toNat := ⟨UInt32.ofNat n, by rw [UInt32.toNat_ofNat', Nat.mod_eq_of_lt (by omega)]⟩
  have h20 : head20 key ck dead n = ((([110, 100, dd, 0] ++ putL 8 key.toNat) ++ putL 4 ck.toNat) ++ putL 4 v.toNat) := by unfold head20; rw [hdd, hv]
  obtain ⟨s1, hs1⟩ : ∃ s1, s1 = crc ((([110, 100, dd, 0] ++ putL 8 key.toNat) ++ putL 4 ck.toNat) ++ putL 4 v.toNat) := ⟨_, rfl⟩
  obtain ⟨s2, hs2⟩ : ∃ s2, s2 = crc l := ⟨_, rfl⟩
  obtain ⟨B28, hB28⟩ : ∃ B, B = (((((([110, 100, dd, 0] ++ putL 8 key.toNat) ++ putL 4 ck.toNat) ++ putL 4 v.toNat) ++ putL 4 s1.toNat) ++ l) ++ putL 4 s2.toNat) := ⟨_, rfl⟩
  have hres : needL key ck dead l = B28 ++ zeroB (S - (28 + n)) := by
    unfold needL headL
    rw [← hn, h20, ← hs1, ← hs2, ← hS, hB28]
  rw [← hn, ← hS, hres]
  have hvi : IntKind.u32.wrap (n : Int) = (v.toNat : Int) := by rw [hv]; exact IntWalk.u32_in _ (by have := u32_lt v; omega)
  have hli : (n : Int) ≤ 65536 := by omega
  have hn0 : 0 ≤ (n : Int) := by omega
  obtain ⟨G, hG⟩ : ∃ G, G = w.heap.size := ⟨_, rfl⟩
  obtain ⟨C0, hC0⟩ : ∃ C0, C0 = #[Value.int .u64 (key.toNat : Int), .int .u32 (ck.toNat : Int), .bool dead, .slice ad n c] := ⟨_, rfl⟩
  have HN := Lib.hid hn
  have HS1 := Lib.hid hs1
  have HS2 := Lib.hid hs2
  have HB := Lib.hid hB28
  have hdn : dead = true → (n : Int) ≤ 0 := by intro h; have := hd h; omega
  clear hn hS hv h20 hs1 hs2 hB28 hres hd
  have hstart : ∀ o, Below G w (w.alloc o) := fun o => (Below.refl G w).alloc (Nat.le_of_eq hG) o
  cases dead with
  | false =>
    obtain rfl : dd = 0 := hdd
    clear hdn
    go_enter Try.func10, Try.ntmps10
    go_wp2_with fail
    obtain ⟨W0, hW0⟩ : ∃ W0, W0 = (w.alloc (.cells #[Value.int .u64 (key.toNat : Int), .int .u32 (ck.toNat : Int), .bool false, .slice ad n c] 26)).alloc (.cells #[.int .u8 110, .int .u8 100, .int .u8 0, .int .u8 0] 5) := ⟨_, rfl⟩
    rw [← hW0]
    have hc0 : W0.cell? ⟨G, 0, none⟩ = some (.int .u64 (key.toNat : Int)) := by rw [hW0, hG]; simp
    have hc1 : W0.cell? ⟨G, 1, none⟩ = some (.int .u32 (ck.toNat : Int)) := by rw [hW0, hG]; simp
    have hc3 : W0.cell? ⟨G, 3, none⟩ = some (.slice ad n c) := by rw [hW0, hG]; simp
    have hbw0 : Below G w W0 := by rw [hW0]; exact (hstart _).alloc (by simp; omega) _
    have ho0 : W0.ownsRow (G + 1) 5 1 (.slice (some ⟨G + 1, 0, none⟩) 4 4) 4 (B8 [110, 100, 0, 0]) := by
      rw [hW0]
      have := World.ownsRow_lit (base := G + 1) (e := 5) (size := 1) (w.alloc (.cells #[Value.int .u64 (key.toNat : Int), .int .u32 (ck.toNat : Int), .bool false, .slice ad n c] 26)) #[.int .u8 110, .int .u8 100, .int .u8 0, .int .u8 0] 4 (by simp; omega) (by unfold maxLen; omega) rfl
      simp only [heap_size_alloc', ← hG] at this
      exact this
    have hsz0 : G + 2 ≤ W0.heap.size := by rw [hW0]; simp; omega
    rw [← hG]
    have HG := Lib.hid hG
    clear hW0 hG hstart
    have hq0 : Below (G + 1) W0 W0 := Below.refl _ _
    refine (refPut64_any key _).mono ?_
    rintro e w0a ⟨r0, rfl, hop0, hbp0⟩
    have ho0x := own_below ho0 hbp0
    have hq0a : Below (G + 1) W0 w0a := hq0.trans (hbp0.mono (by have := hq0.size; omega))
    obtain ⟨ap0, cp0, rfl, hrp0⟩ := Rd.ofOwn hop0
    clear ho0 hop0 hbp0
    have hz0 := hq0a.size
    go_wp2_with (with_reducible refine At.slot 26 ?_)
    refine At.out (wpList_app rfl (.tmp 22) (.tmp 25) 24 rfl elemB rfl (G + 1) _ (4) (B8 ([110, 100, 0, 0])) rfl ho0x ap0 8 cp0 (B8 (putL 8 key.toNat)) rfl (by rw [B8_length, putL_length]) hrp0 (B8_one _) (by unfold maxLen; omega) (by omega) (by omega) ?_)
    intro vb1 w1 ho1 hbb1 _
    rw [← B8_append] at ho1
    have hq1 : Below (G + 1) W0 w1 := hq0a.trans hbb1
    clear ho0x hbb1 hq0a hrp0
    have hc1_w1 : w1.cell? ⟨G, 1, none⟩ = some (.int .u32 (ck.toNat : Int)) := (hq1.cell (p := ⟨G, 1, none⟩) (by simp)).trans hc1
    go_wp2_with fail
    refine (refPut32_any ck _).mono ?_
    rintro e w1a ⟨r1, rfl, hop1, hbp1⟩
    have ho1x := own_below ho1 hbp1
    have hq1a : Below (G + 1) W0 w1a := hq1.trans (hbp1.mono (by have := hq1.size; omega))
    obtain ⟨ap1, cp1, rfl, hrp1⟩ := Rd.ofOwn hop1
    clear ho1 hop1 hbp1
    have hz1 := hq1a.size
    go_wp2_with (with_reducible refine At.slot 31 ?_)
    refine At.out (wpList_app rfl (.tmp 27) (.tmp 30) 24 rfl elemB rfl (G + 1) _ (4 + 8) (B8 (([110, 100, 0, 0] ++ putL 8 key.toNat))) rfl ho1x ap1 4 cp1 (B8 (putL 4 ck.toNat)) rfl (by rw [B8_length, putL_length]) hrp1 (B8_one _) (by unfold maxLen; omega) (by omega) (by omega) ?_)
    intro vb2 w2 ho2 hbb2 _
    rw [← B8_append] at ho2
    have hq2 : Below (G + 1) W0 w2 := hq1a.trans hbb2
    clear ho1x hbb2 hq1a hrp1
    have hc3_w2 : w2.cell? ⟨G, 3, none⟩ = some (.slice ad n c) := (hq2.cell (p := ⟨G, 3, none⟩) (by simp)).trans hc3
    go_wp2_with fail
    refine (refPut32_any v _).mono ?_
    rintro e w2a ⟨r2, rfl, hop2, hbp2⟩
    have ho2x := own_below ho2 hbp2
    have hq2a : Below (G + 1) W0 w2a := hq2.trans (hbp2.mono (by have := hq2.size; omega))
    obtain ⟨ap2, cp2, rfl, hrp2⟩ := Rd.ofOwn hop2
    clear ho2 hop2 hbp2
    have hz2 := hq2a.size
    go_wp2_with (with_reducible refine At.slot 38 ?_)
    refine At.out (wpList_app rfl (.tmp 32) (.tmp 37) 24 rfl elemB rfl (G + 1) _ (4 + 8 + 4) (B8 ((([110, 100, 0, 0] ++ putL 8 key.toNat) ++ putL 4 ck.toNat))) rfl ho2x ap2 4 cp2 (B8 (putL 4 v.toNat)) rfl (by rw [B8_length, putL_length]) hrp2 (B8_one _) (by unfold maxLen; omega) (by omega) (by omega) ?_)
    intro vb3 w3 ho3 hbb3 _
    rw [← B8_append] at ho3
    have hq3 : Below (G + 1) W0 w3 := hq2a.trans hbb3
    clear ho2x hbb3 hq2a hrp2
    obtain ⟨ab, cb, rfl, hrb⟩ := Rd.ofOwn ho3
    have hsum1 := refSum_any w3 ab cb _ hrb
    rw [← HS1.out, hlen20 0 key.toNat ck.toNat v.toNat] at hsum1
    clear hrb
    go_wp2_with fail
    refine hsum1.mono ?_
    rintro e w3s ⟨rfl, hbs⟩
    have ho3s := own_below ho3 hbs
    have hq3s : Below (G + 1) W0 w3s := hq3.trans (hbs.mono (by have := hq3.size; omega))
    clear hsum1 hbs ho3
    go_wp2_with fail
    refine (refPut32_any s1 _).mono ?_
    rintro e w3a ⟨r3, rfl, hop3, hbp3⟩
    have ho3sx := own_below ho3s hbp3
    have hq3a : Below (G + 1) W0 w3a := hq3s.trans (hbp3.mono (by have := hq3s.size; omega))
    obtain ⟨ap3, cp3, rfl, hrp3⟩ := Rd.ofOwn hop3
    clear ho3s hop3 hbp3
    have hz3 := hq3a.size
    go_wp2_with (with_reducible refine At.slot 43 ?_)
    refine At.out (wpList_app rfl (.tmp 39) (.tmp 42) 24 rfl elemB rfl (G + 1) _ (4 + 8 + 4 + 4) (B8 (((([110, 100, 0, 0] ++ putL 8 key.toNat) ++ putL 4 ck.toNat) ++ putL 4 v.toNat))) rfl ho3sx ap3 4 cp3 (B8 (putL 4 s1.toNat)) rfl (by rw [B8_length, putL_length]) hrp3 (B8_one _) (by unfold maxLen; omega) (by omega) (by omega) ?_)
    intro vb4 w4 ho4 hbb4 _
    rw [← B8_append] at ho4
    have hq4 : Below (G + 1) W0 w4 := hq3a.trans hbb4
    clear ho3sx hbb4 hq3a hrp3
    have hc3_w4 : w4.cell? ⟨G, 3, none⟩ = some (.slice ad n c) := (hq4.cell (p := ⟨G, 3, none⟩) (by simp)).trans hc3
    have hrp4 := hr.kept (HG.out ▸ (hbw0.trans (hq4.mono (by omega))) : Below w.heap.size w w4)
    have ho4x := ho4
    have hq4a := hq4
    clear ho4
    have hz4 := hq4a.size
    go_wp2_with (with_reducible refine At.slot 47 ?_)
    refine At.out (wpList_app rfl (.tmp 44) (.tmp 46) 24 rfl elemB rfl (G + 1) _ (4 + 8 + 4 + 4 + 4) (B8 ((((([110, 100, 0, 0] ++ putL 8 key.toNat) ++ putL 4 ck.toNat) ++ putL 4 v.toNat) ++ putL 4 s1.toNat))) rfl ho4x ad n c (B8 l) rfl (by rw [B8_length]; exact HN.out) hrp4 (B8_one _) (by unfold maxLen; omega) (by omega) (by omega) ?_)
    intro vb5 w5 ho5 hbb5 _
    rw [← B8_append] at ho5
    have hq5 : Below (G + 1) W0 w5 := hq4a.trans hbb5
    clear ho4x hbb5 hq4a hrp4
    have hr5 := hr.kept (HG.out ▸ (hbw0.trans (hq5.mono (by omega))) : Below w.heap.size w w5)
    have hsum2 := refSum_any w5 ad c l hr5
    rw [← HS2.out, ← HN.out] at hsum2
    have hc3_w5 : w5.cell? ⟨G, 3, none⟩ = some (.slice ad n c) := (hq5.cell (p := ⟨G, 3, none⟩) (by simp)).trans hc3
    go_wp2_with fail
    refine hsum2.mono ?_
    rintro e w5s ⟨rfl, hbs⟩
    have ho5s := own_below ho5 hbs
    have hq5s : Below (G + 1) W0 w5s := hq5.trans (hbs.mono (by have := hq5.size; omega))
    clear hsum2 hbs ho5 hr5
    go_wp2_with fail
    refine (refPut32_any s2 _).mono ?_
    rintro e w5a ⟨r5, rfl, hop5, hbp5⟩
    have ho5sx := own_below ho5s hbp5
    have hq5a : Below (G + 1) W0 w5a := hq5s.trans (hbp5.mono (by have := hq5s.size; omega))
    obtain ⟨ap5, cp5, rfl, hrp5⟩ := Rd.ofOwn hop5
    clear ho5s hop5 hbp5
    have hz5 := hq5a.size
    go_wp2_with (with_reducible refine At.slot 53 ?_)
    refine At.out (wpList_app rfl (.tmp 48) (.tmp 52) 24 rfl elemB rfl (G + 1) _ (4 + 8 + 4 + 4 + 4 + n) (B8 (((((([110, 100, 0, 0] ++ putL 8 key.toNat) ++ putL 4 ck.toNat) ++ putL 4 v.toNat) ++ putL 4 s1.toNat) ++ l))) rfl ho5sx ap5 4 cp5 (B8 (putL 4 s2.toNat)) rfl (by rw [B8_length, putL_length]) hrp5 (B8_one _) (by unfold maxLen; omega) (by omega) (by omega) ?_)
    intro vb6 w6 ho6 hbb6 _
    rw [← B8_append] at ho6
    have hq6 : Below (G + 1) W0 w6 := hq5a.trans hbb6
    clear ho5sx hbb6 hq5a hrp5
    rw [← HB.out] at ho6
    have hz6 := hq6.size
    go_wp2_with fail
    have ho6 := own_len ho6 (show 4 + 8 + 4 + 4 + 4 + n + 4 = 28 + n by omega)
    have hbwf : Below G W0 W0 := Below.refl _ _
    have hmr := hr
    clear hc0 hc1 hc3 hq0
    go_wp2
    go_loopw [4] (fun s4 wr => ∃ (k m : Nat), wr.ownsRow (G + 1) 5 1 s4 m (B8 (B28 ++ zeroB k)) ∧ Below (G + 1) W0 wr ∧ m ≤ S ∧ Hid (m = 28 + n + k)) (fun s4 _ => S - lenV s4)
    case atStart => exact ⟨0, 28 + n, by simpa [zeroB] using ho6, hq6, by omega, Lib.hid rfl⟩
    case round =>
      clear ho6 hq6
      obtain ⟨k, m, ho, hq, hmS, HM⟩ := hrel
      obtain ⟨a4, c4, rfl, _⟩ := Rd.ofOwn ho
      have hz := hq.size
      have hmi : (m : Int) ≤ 65571 := by omega
      by_cases hm : m % 8 = 0
      · have hb : ((m : Int) % 8 != 0) = false := by have : (m : Int) % 8 = 0 := by omega
                                                     rw [this]; rfl
        have hmS2 : m = S ∧ k = S - (28 + n) := by have := HM.out; omega
        have HM2 := Lib.hid hmS2
        clear hm hmS2
        go_wp2
        go_ret2
        refine ⟨_, rfl, ?_, HG.out ▸ (hbw0.trans (hq.mono (by omega)))⟩
        rw [← HM2.out.2, ← HM2.out.1]
        exact own_base ho (HG.out ▸ (by omega))
      · have hb : ((m : Int) % 8 != 0) = true := by rw [bne_iff_ne]; omega
        have hmS2 : m + 1 ≤ S := by have := HM.out; omega
        have HM2 : Hid (m + 1 = 28 + n + (k + 1)) := Lib.hid (by have := HM.out; omega)
        clear hm
        go_wp2_with (with_reducible refine At.slot 60 ?_)
        refine At.out (wpList_app rfl (.tmp 58) (.tmp 59) 24 rfl elemB rfl (G + 1) _ m _ rfl (ho.alloc _) _ 1 1 [.int .u8 0] rfl rfl (Rd.one _ _ _) (one_int _ _) (by unfold maxLen; omega) (by omega) (by simp; omega) ?_)
        intro v2 w2 ho2 hb2 _
        have hq2 : Below (G + 1) W0 w2 := (hq.alloc (by omega) _).trans hb2
        have ho2' : w2.ownsRow (G + 1) 5 1 v2 (m + 1) (B8 (B28 ++ zeroB (k + 1))) := by
          rw [← zeroB_succ, ← List.append_assoc, B8_append]; exact ho2
        have hlv : lenV v2 = m + 1 := own_lenV ho2'
        have HLV := Lib.hid hlv
        clear ho2 hb2 ho hq hlv
        go_wp2
        go_roundw
        case rel => exact ⟨k + 1, m + 1, ho2', hq2, hmS2, HM2⟩
        case measure => rw [HLV.out]; simp [lenV]; omega
  | true =>
    obtain rfl : dd = 1 := hdd
    have hdn := hdn rfl
    go_enter Try.func10, Try.ntmps10
    go_wp2_with fail
    obtain ⟨W0, hW0⟩ : ∃ W0, W0 = (w.alloc (.cells #[Value.int .u64 (key.toNat : Int), .int .u32 (ck.toNat : Int), .bool true, .slice ad n c] 26)).alloc (.cells #[.int .u8 110, .int .u8 100, .int .u8 1, .int .u8 0] 5) := ⟨_, rfl⟩
    rw [← hW0]
    have hc0 : W0.cell? ⟨G, 0, none⟩ = some (.int .u64 (key.toNat : Int)) := by rw [hW0, hG]; simp
    have hc1 : W0.cell? ⟨G, 1, none⟩ = some (.int .u32 (ck.toNat : Int)) := by rw [hW0, hG]; simp
    have hc3 : W0.cell? ⟨G, 3, none⟩ = some (.slice ad n c) := by rw [hW0, hG]; simp
    have hbw0 : Below G w W0 := by rw [hW0]; exact (hstart _).alloc (by simp; omega) _
    have ho0 : W0.ownsRow (G + 1) 5 1 (.slice (some ⟨G + 1, 0, none⟩) 4 4) 4 (B8 [110, 100, 1, 0]) := by
      rw [hW0]
      have := World.ownsRow_lit (base := G + 1) (e := 5) (size := 1) (w.alloc (.cells #[Value.int .u64 (key.toNat : Int), .int .u32 (ck.toNat : Int), .bool true, .slice ad n c] 26)) #[.int .u8 110, .int .u8 100, .int .u8 1, .int .u8 0] 4 (by simp; omega) (by unfold maxLen; omega) rfl
      simp only [heap_size_alloc', ← hG] at this
      exact this
    have hsz0 : G + 2 ≤ W0.heap.size := by rw [hW0]; simp; omega
    rw [← hG]
    have HG := Lib.hid hG
    clear hW0 hG hstart
    have hq0 : Below (G + 1) W0 W0 := Below.refl _ _
    refine (refPut64_any key _).mono ?_
    rintro e w0a ⟨r0, rfl, hop0, hbp0⟩
    have ho0x := own_below ho0 hbp0
    have hq0a : Below (G + 1) W0 w0a := hq0.trans (hbp0.mono (by have := hq0.size; omega))
    obtain ⟨ap0, cp0, rfl, hrp0⟩ := Rd.ofOwn hop0
    clear ho0 hop0 hbp0
    have hz0 := hq0a.size
    go_wp2_with (with_reducible refine At.slot 26 ?_)
    refine At.out (wpList_app rfl (.tmp 22) (.tmp 25) 24 rfl elemB rfl (G + 1) _ (4) (B8 ([110, 100, 1, 0])) rfl ho0x ap0 8 cp0 (B8 (putL 8 key.toNat)) rfl (by rw [B8_length, putL_length]) hrp0 (B8_one _) (by unfold maxLen; omega) (by omega) (by omega) ?_)
    intro vb1 w1 ho1 hbb1 _
    rw [← B8_append] at ho1
    have hq1 : Below (G + 1) W0 w1 := hq0a.trans hbb1
    clear ho0x hbb1 hq0a hrp0
    have hc1_w1 : w1.cell? ⟨G, 1, none⟩ = some (.int .u32 (ck.toNat : Int)) := (hq1.cell (p := ⟨G, 1, none⟩) (by simp)).trans hc1
    go_wp2_with fail
    refine (refPut32_any ck _).mono ?_
    rintro e w1a ⟨r1, rfl, hop1, hbp1⟩
    have ho1x := own_below ho1 hbp1
    have hq1a : Below (G + 1) W0 w1a := hq1.trans (hbp1.mono (by have := hq1.size; omega))
    obtain ⟨ap1, cp1, rfl, hrp1⟩ := Rd.ofOwn hop1
    clear ho1 hop1 hbp1
    have hz1 := hq1a.size
    go_wp2_with (with_reducible refine At.slot 31 ?_)
    refine At.out (wpList_app rfl (.tmp 27) (.tmp 30) 24 rfl elemB rfl (G + 1) _ (4 + 8) (B8 (([110, 100, 1, 0] ++ putL 8 key.toNat))) rfl ho1x ap1 4 cp1 (B8 (putL 4 ck.toNat)) rfl (by rw [B8_length, putL_length]) hrp1 (B8_one _) (by unfold maxLen; omega) (by omega) (by omega) ?_)
    intro vb2 w2 ho2 hbb2 _
    rw [← B8_append] at ho2
    have hq2 : Below (G + 1) W0 w2 := hq1a.trans hbb2
    clear ho1x hbb2 hq1a hrp1
    have hc3_w2 : w2.cell? ⟨G, 3, none⟩ = some (.slice ad n c) := (hq2.cell (p := ⟨G, 3, none⟩) (by simp)).trans hc3
    go_wp2_with fail
    refine (refPut32_any v _).mono ?_
    rintro e w2a ⟨r2, rfl, hop2, hbp2⟩
    have ho2x := own_below ho2 hbp2
    have hq2a : Below (G + 1) W0 w2a := hq2.trans (hbp2.mono (by have := hq2.size; omega))
    obtain ⟨ap2, cp2, rfl, hrp2⟩ := Rd.ofOwn hop2
    clear ho2 hop2 hbp2
    have hz2 := hq2a.size
    go_wp2_with (with_reducible refine At.slot 38 ?_)
    refine At.out (wpList_app rfl (.tmp 32) (.tmp 37) 24 rfl elemB rfl (G + 1) _ (4 + 8 + 4) (B8 ((([110, 100, 1, 0] ++ putL 8 key.toNat) ++ putL 4 ck.toNat))) rfl ho2x ap2 4 cp2 (B8 (putL 4 v.toNat)) rfl (by rw [B8_length, putL_length]) hrp2 (B8_one _) (by unfold maxLen; omega) (by omega) (by omega) ?_)
    intro vb3 w3 ho3 hbb3 _
    rw [← B8_append] at ho3
    have hq3 : Below (G + 1) W0 w3 := hq2a.trans hbb3
    clear ho2x hbb3 hq2a hrp2
    obtain ⟨ab, cb, rfl, hrb⟩ := Rd.ofOwn ho3
    have hsum1 := refSum_any w3 ab cb _ hrb
    rw [← HS1.out, hlen20 1 key.toNat ck.toNat v.toNat] at hsum1
    clear hrb
    go_wp2_with fail
    refine hsum1.mono ?_
    rintro e w3s ⟨rfl, hbs⟩
    have ho3s := own_below ho3 hbs
    have hq3s : Below (G + 1) W0 w3s := hq3.trans (hbs.mono (by have := hq3.size; omega))
    clear hsum1 hbs ho3
    go_wp2_with fail
    refine (refPut32_any s1 _).mono ?_
    rintro e w3a ⟨r3, rfl, hop3, hbp3⟩
    have ho3sx := own_below ho3s hbp3
    have hq3a : Below (G + 1) W0 w3a := hq3s.trans (hbp3.mono (by have := hq3s.size; omega))
    obtain ⟨ap3, cp3, rfl, hrp3⟩ := Rd.ofOwn hop3
    clear ho3s hop3 hbp3
    have hz3 := hq3a.size
    go_wp2_with (with_reducible refine At.slot 43 ?_)
    refine At.out (wpList_app rfl (.tmp 39) (.tmp 42) 24 rfl elemB rfl (G + 1) _ (4 + 8 + 4 + 4) (B8 (((([110, 100, 1, 0] ++ putL 8 key.toNat) ++ putL 4 ck.toNat) ++ putL 4 v.toNat))) rfl ho3sx ap3 4 cp3 (B8 (putL 4 s1.toNat)) rfl (by rw [B8_length, putL_length]) hrp3 (B8_one _) (by unfold maxLen; omega) (by omega) (by omega) ?_)
    intro vb4 w4 ho4 hbb4 _
    rw [← B8_append] at ho4
    have hq4 : Below (G + 1) W0 w4 := hq3a.trans hbb4
    clear ho3sx hbb4 hq3a hrp3
    have hc3_w4 : w4.cell? ⟨G, 3, none⟩ = some (.slice ad n c) := (hq4.cell (p := ⟨G, 3, none⟩) (by simp)).trans hc3
    have hrp4 := hr.kept (HG.out ▸ (hbw0.trans (hq4.mono (by omega))) : Below w.heap.size w w4)
    have ho4x := ho4
    have hq4a := hq4
    clear ho4
    have hz4 := hq4a.size
    go_wp2_with (with_reducible refine At.slot 47 ?_)
    refine At.out (wpList_app rfl (.tmp 44) (.tmp 46) 24 rfl elemB rfl (G + 1) _ (4 + 8 + 4 + 4 + 4) (B8 ((((([110, 100, 1, 0] ++ putL 8 key.toNat) ++ putL 4 ck.toNat) ++ putL 4 v.toNat) ++ putL 4 s1.toNat))) rfl ho4x ad n c (B8 l) rfl (by rw [B8_length]; exact HN.out) hrp4 (B8_one _) (by unfold maxLen; omega) (by omega) (by omega) ?_)
    intro vb5 w5 ho5 hbb5 _
    rw [← B8_append] at ho5
    have hq5 : Below (G + 1) W0 w5 := hq4a.trans hbb5
    clear ho4x hbb5 hq4a hrp4
    have hr5 := hr.kept (HG.out ▸ (hbw0.trans (hq5.mono (by omega))) : Below w.heap.size w w5)
    have hsum2 := refSum_any w5 ad c l hr5
    rw [← HS2.out, ← HN.out] at hsum2
    have hc3_w5 : w5.cell? ⟨G, 3, none⟩ = some (.slice ad n c) := (hq5.cell (p := ⟨G, 3, none⟩) (by simp)).trans hc3
    go_wp2_with fail
    refine hsum2.mono ?_
    rintro e w5s ⟨rfl, hbs⟩
    have ho5s := own_below ho5 hbs
    have hq5s : Below (G + 1) W0 w5s := hq5.trans (hbs.mono (by have := hq5.size; omega))
    clear hsum2 hbs ho5 hr5
    go_wp2_with fail
    refine (refPut32_any s2 _).mono ?_
    rintro e w5a ⟨r5, rfl, hop5, hbp5⟩
    have ho5sx := own_below ho5s hbp5
    have hq5a : Below (G + 1) W0 w5a := hq5s.trans (hbp5.mono (by have := hq5s.size; omega))
    obtain ⟨ap5, cp5, rfl, hrp5⟩ := Rd.ofOwn hop5
    clear ho5s hop5 hbp5
    have hz5 := hq5a.size
    go_wp2_with (with_reducible refine At.slot 53 ?_)
    refine At.out (wpList_app rfl (.tmp 48) (.tmp 52) 24 rfl elemB rfl (G + 1) _ (4 + 8 + 4 + 4 + 4 + n) (B8 (((((([110, 100, 1, 0] ++ putL 8 key.toNat) ++ putL 4 ck.toNat) ++ putL 4 v.toNat) ++ putL 4 s1.toNat) ++ l))) rfl ho5sx ap5 4 cp5 (B8 (putL 4 s2.toNat)) rfl (by rw [B8_length, putL_length]) hrp5 (B8_one _) (by unfold maxLen; omega) (by omega) (by omega) ?_)
    intro vb6 w6 ho6 hbb6 _
    rw [← B8_append] at ho6
    have hq6 : Below (G + 1) W0 w6 := hq5a.trans hbb6
    clear ho5sx hbb6 hq5a hrp5
    rw [← HB.out] at ho6
    have hz6 := hq6.size
    go_wp2_with fail
    have ho6 := own_len ho6 (show 4 + 8 + 4 + 4 + 4 + n + 4 = 28 + n by omega)
    have hbwf : Below G W0 W0 := Below.refl _ _
    have hmr := hr
    clear hc0 hc1 hc3 hq0
    go_wp2
    go_loopw [4] (fun s4 wr => ∃ (k m : Nat), wr.ownsRow (G + 1) 5 1 s4 m (B8 (B28 ++ zeroB k)) ∧ Below (G + 1) W0 wr ∧ m ≤ S ∧ Hid (m = 28 + n + k)) (fun s4 _ => S - lenV s4)
    case atStart => exact ⟨0, 28 + n, by simpa [zeroB] using ho6, hq6, by omega, Lib.hid rfl⟩
    case round =>
      clear ho6 hq6
      obtain ⟨k, m, ho, hq, hmS, HM⟩ := hrel
      obtain ⟨a4, c4, rfl, _⟩ := Rd.ofOwn ho
      have hz := hq.size
      have hmi : (m : Int) ≤ 65571 := by omega
      by_cases hm : m % 8 = 0
      · have hb : ((m : Int) % 8 != 0) = false := by have : (m : Int) % 8 = 0 := by omega
                                                     rw [this]; rfl
        have hmS2 : m = S ∧ k = S - (28 + n) := by have := HM.out; omega
        have HM2 := Lib.hid hmS2
        clear hm hmS2
        go_wp2
        go_ret2
        refine ⟨_, rfl, ?_, HG.out ▸ (hbw0.trans (hq.mono (by omega)))⟩
        rw [← HM2.out.2, ← HM2.out.1]
        exact own_base ho (HG.out ▸ (by omega))
      · have hb : ((m : Int) % 8 != 0) = true := by rw [bne_iff_ne]; omega
        have hmS2 : m + 1 ≤ S := by have := HM.out; omega
        have HM2 : Hid (m + 1 = 28 + n + (k + 1)) := Lib.hid (by have := HM.out; omega)
        clear hm
        go_wp2_with (with_reducible refine At.slot 60 ?_)
        refine At.out (wpList_app rfl (.tmp 58) (.tmp 59) 24 rfl elemB rfl (G + 1) _ m _ rfl (ho.alloc _) _ 1 1 [.int .u8 0] rfl rfl (Rd.one _ _ _) (one_int _ _) (by unfold maxLen; omega) (by omega) (by simp; omega) ?_)
        intro v2 w2 ho2 hb2 _
        have hq2 : Below (G + 1) W0 w2 := (hq.alloc (by omega) _).trans hb2
        have ho2' : w2.ownsRow (G + 1) 5 1 v2 (m + 1) (B8 (B28 ++ zeroB (k + 1))) := by
          rw [← zeroB_succ, ← List.append_assoc, B8_append]; exact ho2
        have hlv : lenV v2 = m + 1 := own_lenV ho2'
        have HLV := Lib.hid hlv
        clear ho2 hb2 ho hq hlv
        go_wp2
        go_roundw
        case rel => exact ⟨k + 1, m + 1, ho2', hq2, hmS2, HM2⟩
        case measure => rw [HLV.out]; simp [lenV]; omega
end Go.Proofs.Ytlahcdkhpekefaa
