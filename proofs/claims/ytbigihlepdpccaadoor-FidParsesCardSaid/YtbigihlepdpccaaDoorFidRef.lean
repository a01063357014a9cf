/- The reference's Dec, hex and Text of chapter 15. -/
import Derived.Test.YtbigihlepdpccaaDoorFidParseNo
namespace Go.Proofs.YtbigihlepdpccaaDoor
open Go Go.RowKit

/-- The k lowest hexadecimal digits. -/
def lowH (v : Nat) : Nat → List UInt8
  | 0 => []
  | k + 1 => hexD (v / 16 ^ k % 16) :: lowH v k
theorem lowH_length (v : Nat) : ∀ k, (lowH v k).length = k
  | 0 => rfl
  | k + 1 => by unfold lowH; rw [List.length_cons, lowH_length v k]
theorem lowH_get (v : Nat) : ∀ k i, i < k → (lowH v k)[i]? = some (hexD (v / 16 ^ (k - 1 - i) % 16))
  | 0, i, h => by omega
  | k + 1, 0, h => by unfold lowH; simp
  | k + 1, i + 1, h => by
    unfold lowH
    rw [List.getElem?_cons_succ, lowH_get v k i (by omega)]
    congr 5; omega
theorem hexN16 (v j : Nat) (h : j < 16) : hexN v j = v / 16 ^ (15 - j) % 16 := by
  unfold hexN
  rw [show 60 - 4 * j = 4 * (15 - j) by omega, Nat.pow_mul]
theorem hexP_zero (v least k : Nat) (hk : k ≤ 16) (h0 : v / 16 ^ k = 0) (hl : least ≤ k) : ∀ j, j + k ≤ 16 → hexP v least j = []
  | 0, _ => rfl
  | j + 1, h => by
    have ih := hexP_zero v least k hk h0 hl j (by omega)
    refine hexP_skip v least j ?_ (by rw [ih]; rfl) (by omega)
    rw [hexN16 v j (by omega), show 15 - j = k + (15 - j - k) by omega, Nat.pow_add, ← Nat.div_div_eq_div_mul, h0]
    simp
theorem hexP_low (v least k : Nat) (hk : k ≤ 16) (h0 : v / 16 ^ k = 0) (hl : least ≤ k) (hmin : 0 < k → v / 16 ^ (k - 1) ≠ 0 ∨ k - 1 < least) : ∀ i, i ≤ k → hexP v least (16 - k + i) = (lowH v k).take i
  | 0, _ => by rw [hexP_zero v least k hk h0 hl (16 - k + 0) (by omega), List.take_zero]
  | i + 1, h => by
    have ih := hexP_low v least k hk h0 hl hmin i (by omega)
    have hd : hexN v (16 - k + i) = v / 16 ^ (k - 1 - i) % 16 := by rw [hexN16 _ _ (by omega)]; congr 3; omega
    have hlen : (hexP v least (16 - k + i)).length = i := by rw [ih, List.length_take, lowH_length]; omega
    rw [show 16 - k + (i + 1) = (16 - k + i) + 1 by omega, hexP_next v least (16 - k + i) ?_, ih, hd, List.take_add_one, lowH_get v k i (by omega)]
    · rfl
    · rintro ⟨e1, e2, e3⟩
      rw [hlen] at e2
      subst e2
      rw [hd, Nat.sub_zero] at e1
      rcases hmin (by omega) with hm | hm
      · have h2 : v / 16 ^ (k - 1) / 16 = 0 := by rw [Nat.div_div_eq_div_mul, ← Nat.pow_succ, Nat.succ_eq_add_one, show k - 1 + 1 = k by omega]; exact h0
        obtain ⟨X, hX⟩ : ∃ X, X = v / 16 ^ (k - 1) := ⟨_, rfl⟩
        rw [← hX] at hm h2 e1
        omega
      · omega
theorem hexL_low (v least k : Nat) (hk : k ≤ 16) (h0 : v / 16 ^ k = 0) (hl : least ≤ k) (hmin : 0 < k → v / 16 ^ (k - 1) ≠ 0 ∨ k - 1 < least) : lowH v k = hexL v least := by
  have := hexP_low v least k hk h0 hl hmin k (Nat.le_refl _)
  rw [show 16 - k + k = 16 by omega, List.take_of_length_le (by rw [lowH_length]; omega)] at this
  exact this.symm

theorem digits_at : ∀ n : Fin 16, (ByteArray.mk #[48, 49, 50, 51, 52, 53, 54, 55, 56, 57, 97, 98, 99, 100, 101, 102]).extract n.val (n.val + 1) = ByteArray.mk #[hexD n.val] := by decide +kernel

def strLen : Value → Nat
  | .string b => b.size
  | _ => 0

set_option maxRecDepth 100000 in
set_option maxHeartbeats 1000000 in
theorem refHex_any (v : UInt64) (least : Nat) (hl1 : 1 ≤ least) (hl2 : least ≤ 16) (w : World) :
    Calls Tryd.prog 14 #[.int .u64 v.toNat, .int .i64 least] w fun e w' => e = .returned (.string ⟨(hexL v.toNat least).toArray⟩) ∧ w' = w := by
  have hml : maxLen = 9223372036854775807 := by unfold maxLen; rfl
  have HML := Lib.hid hml; clear hml
  go_enter Tryd.func14, Tryd.ntmps14
  go_wp2
  go_loopw [0, 5] (fun s0 s5 wr => ∃ (k : Nat), k ≤ 16 ∧ s0 = .int .u64 ((v.toNat / 16 ^ k : Nat) : Int) ∧ s5 = .string ⟨(lowH v.toNat k).toArray⟩ ∧ (0 < k → v.toNat / 16 ^ (k - 1) ≠ 0 ∨ k - 1 < least) ∧ wr = w)
    (fun s0 s5 _ => (intOf s0).toNat + (16 - strLen s5))
  case atStart => exact ⟨0, by omega, by simp, rfl, fun h => absurd h (by omega), rfl⟩
  case round =>
    obtain ⟨k, hk, rfl, rfl, hmin, rfl⟩ := hrel
    obtain ⟨x, hx⟩ : ∃ x, x = v.toNat / 16 ^ k := ⟨_, rfl⟩
    obtain ⟨P, hP⟩ : ∃ P, P = lowH v.toNat k := ⟨_, rfl⟩
    have hPl : P.length = k := by rw [hP, lowH_length]
    rw [← hx, ← hP]
    have hx64 : x < 18446744073709551616 := by have := v.toNat_lt; rw [hx]; exact Nat.lt_of_le_of_lt (Nat.div_le_self _ _) this
    by_cases hgo : x ≠ 0 ∨ k < least
    · have hk16 : k < 16 := by
        rcases hgo with h | h
        · refine Nat.lt_of_not_le fun h16 => h ?_
          obtain rfl : k = 16 := by omega
          rw [hx]; exact Nat.div_eq_of_lt (Nat.lt_of_lt_of_le v.toNat_lt (by decide))
        · omega
      have hdig := digits_at ⟨x % 16, Nat.mod_lt _ (by decide)⟩
      have hdig : (ByteArray.mk #[48, 49, 50, 51, 52, 53, 54, 55, 56, 57, 97, 98, 99, 100, 101, 102]).extract (x % 16) (x % 16 + 1) = ByteArray.mk #[hexD (x % 16)] := hdig
      have hn16 : x % 16 < 16 := Nat.mod_lt _ (by decide)
      have hx2 : v.toNat / 16 ^ (k + 1) = x / 16 := by rw [hx, Nat.pow_succ, Nat.div_div_eq_div_mul]
      have hP2 : lowH v.toNat (k + 1) = hexD (x % 16) :: P := by rw [hP, hx]; rfl
      obtain ⟨y, hy⟩ : ∃ y, y = x / 16 := ⟨_, rfl⟩
      rw [← hy] at hx2
      have hq : ((x : Int) / 16) = (y : Int) := by omega
      have hym : x ≠ 0 → y < x := fun h => by omega
      have HY := Lib.hid hym
      clear hym hy
      have hr : ((x : Int) % 16) = ((x % 16 : Nat) : Int) := by omega
      have hap : ByteArray.mk #[hexD (x % 16)] ++ ByteArray.mk P.toArray = ByteArray.mk (hexD (x % 16) :: P).toArray := by
        show ByteArray.mk [hexD (x % 16)].toArray ++ ByteArray.mk P.toArray = _
        rw [ByteArray.mk_append_mk]; rfl
      have hmin2 : (0 < k + 1 → v.toNat / 16 ^ (k + 1 - 1) ≠ 0 ∨ k + 1 - 1 < least) := fun _ => by
        rw [Nat.add_sub_cancel, ← hx]; exact hgo
      obtain ⟨n, hn⟩ : ∃ n, n = x % 16 := ⟨_, rfl⟩
      rw [← hn] at hdig hn16 hP2 hr hap
      have HK := Lib.hid hPl
      have HX := Lib.hid hx2
      have HP := Lib.hid hP2
      have HM := Lib.hid hmin2
      have HG := Lib.hid hgo
      have hl1 : ¬ 9223372036854775807 < 1 + P.length := by omega
      clear hx hP hPl hx2 hP2 hmin2 hgo hmin hn
      have hni : (n : Int) < 16 := by omega
      have hmeas : y + (16 - (k + 1)) < x + (16 - k) := by
        rcases HG.out with h | h
        · have := HY.out h; omega
        · by_cases h0 : x = 0
          · have : y = 0 := by omega
            omega
          · have := HY.out h0; omega
      have hrel : ∃ k', k' ≤ 16 ∧ Value.int .u64 (y : Int) = .int .u64 ((v.toNat / 16 ^ k' : Nat) : Int) ∧ Value.string ⟨(hexD n :: P).toArray⟩ = .string ⟨(lowH v.toNat k').toArray⟩ ∧ (0 < k' → v.toNat / 16 ^ (k' - 1) ≠ 0 ∨ k' - 1 < least) ∧ True :=
        ⟨k + 1, by omega, by rw [HX.out], by rw [HP.out], HM.out, trivial⟩
      have hms : (intOf (Value.int .u64 (y : Int))).toNat + (16 - strLen (Value.string ⟨(hexD n :: P).toArray⟩)) < (intOf (Value.int .u64 (x : Int))).toNat + (16 - strLen (Value.string ⟨P.toArray⟩)) := by
        have e1 : strLen (Value.string ⟨(hexD n :: P).toArray⟩) = k + 1 := by show (hexD n :: P).length = _; rw [List.length_cons, HK.out]
        have e2 : strLen (Value.string ⟨P.toArray⟩) = k := HK.out
        rw [e1, e2]; simp only [intOf]; omega
      have HR := Lib.hid hrel
      have HMs := Lib.hid hms
      have HMe := Lib.hid hmeas
      clear hrel hms hmeas hk16 hk
      by_cases hx0 : x = 0
      · subst hx0
        have hlt : (P.length : Int) < (least : Int) := by have := HG.out; have := HK.out; omega
        have hr0 : n = 0 := by omega
        have hy0 : y = 0 := by omega
        subst hr0
        subst hy0
        clear hq hr hn16 hni
        go_wp2
        exact ⟨HR.out, HMs.out⟩
      · have hx0i : ¬ (x : Int) = 0 := by omega
        clear hx0
        go_wp2
        exact ⟨HR.out, HMs.out⟩
    · obtain ⟨g1, g2⟩ : x = 0 ∧ ¬ k < least := by omega
      subst g1
      have hlt : ¬ (P.length : Int) < (least : Int) := by omega
      have hres : P = hexL v.toNat least := by rw [hP]; exact hexL_low _ _ k hk hx.symm (by omega) hmin
      have HE := Lib.hid hres
      clear hres hP hPl hx hgo hmin
      go_wp2
      go_ret
      exact ⟨by rw [HE.out]; rfl, rfl⟩

set_option maxRecDepth 100000 in
set_option maxHeartbeats 1000000 in
theorem refDec_any (n : Nat) (hn1 : 1 ≤ n) (hn2 : n ≤ 99999999) (w : World) :
    Calls Tryd.prog 13 #[.int .i64 n] w fun e w' => e = .returned (.string ⟨(decL n).toArray⟩) ∧ Below w.heap.size w w' := by
  have hml : maxLen = 9223372036854775807 := by unfold maxLen; rfl
  have HML := Lib.hid hml; clear hml
  go_enter Tryd.func13, Tryd.ntmps13
  go_wp2
  go_loopw [0, 3] (fun s0 s3 wr => ∃ (x f : Nat) (P : List UInt8), x ≠ 0 ∧ x ≤ 99999999 ∧ s0 = .int .i64 (x : Int) ∧ s3 = .string ⟨P.toArray⟩ ∧ x < 10 ^ f ∧ P.length ≤ 20 - f ∧ f ≤ 20 ∧ Hid (decL n = decF f x ++ P) ∧ Below w.heap.size w wr)
    (fun s0 _ _ => (intOf s0).toNat)
  case atStart => exact ⟨n, 20, [], by omega, hn2, rfl, rfl, Nat.lt_of_le_of_lt hn2 (by decide), by simp, by omega, Lib.hid (by rw [List.append_nil]; rfl), Below.refl _ _⟩
  case round =>
    obtain ⟨x, f, P, hx0, hx9, rfl, rfl, hxf, hPl, hf, HD, hb⟩ := hrel
    have hxi : (0 : Int) < x := by omega
    have hdig : (48 : Int) + (x : Int) % 10 = ((UInt8.ofNat (48 + x % 10)).toNat : Int) := by rw [← dec_digit x]; omega
    obtain ⟨d, hd⟩ : ∃ d, d = UInt8.ofNat (48 + x % 10) := ⟨_, rfl⟩
    rw [← hd] at hdig
    obtain ⟨g, rfl⟩ : ∃ g, f = g + 1 := ⟨f - 1, by cases f with
      | zero => simp at hxf; omega
      | succ f => rfl⟩
    have hdec := decF_step g x hx0
    rw [← hd] at hdec
    have hconv : (convert 38 9 (.slice (some ⟨wr.heap.size, 0, none⟩) 1 1)).run Tryd.prog (wr.alloc (.cells #[.int .u8 (d.toNat : Int)] 5)) = .ok (.string ⟨#[d]⟩) (wr.alloc (.cells #[.int .u8 (d.toNat : Int)] 5)) := run_convert_bytes_back (P := Tryd.prog) (wr.alloc (.cells #[.int .u8 (d.toNat : Int)] 5)) 38 9 5 ⟨wr.heap.size, 0, none⟩ 1 [d] Tryd.underlying38 Tryd.underlying5 Tryd.underlying9
      (fun j hj => by
        have h1 : [d].length = 1 := rfl
        have : j = 0 := by omega
        subst this
        rw [Addr.add_lit, World.cell?_alloc_mark]; rfl)
    have hap : ByteArray.mk #[d] ++ ByteArray.mk P.toArray = ByteArray.mk (d :: P).toArray := by
      show ByteArray.mk [d].toArray ++ ByteArray.mk P.toArray = _
      rw [ByteArray.mk_append_mk]; rfl
    obtain ⟨y, hy⟩ : ∃ y, y = x / 10 := ⟨_, rfl⟩
    have hq : ((x : Int) / 10) = (y : Int) := by omega
    have hyx : y < x := by omega
    have hwy : wrap64 (y : Int) = (y : Int) := by unfold wrap64; omega
    rw [← hy] at hdec
    have hyf : y < 10 ^ g := by rw [Nat.pow_succ] at hxf; omega
    have hHD2 : Hid (decL n = decF g y ++ (d :: P)) := Lib.hid (by rw [HD.out, hdec]; simp)
    have HX := Lib.hid hxf
    have HYF := Lib.hid hyf
    have HYX := Lib.hid hyx
    have hb2 := hb.alloc hb.size (.cells #[.int .u8 (d.toNat : Int)] 5)
    have hl1 : ¬ 9223372036854775807 < 1 + P.length := by omega
    have H0 := Lib.hid hx0
    have H9 := Lib.hid hx9
    clear hd hxf hdec HD hy hyf hyx hb hx0 hx9
    by_cases hy0 : y = 0
    · subst hy0
      have hE := hHD2.out
      rw [decF_zero, List.nil_append] at hE
      have HE := Lib.hid hE
      clear hE
      go_wp2
      go_ret
      exact ⟨by rw [HE.out]; rfl, hb2⟩
    · have hyi : ¬ (y : Int) = 0 := by omega
      have HY0 := Lib.hid hy0
      clear hy0
      go_wp2
      go_roundw
      case rel => exact ⟨y, g, d :: P, HY0.out, by have := HYX.out; have := H9.out; omega, by rw [hwy], rfl, HYF.out, by simp; omega, by omega, hHD2, hb2⟩
      case measure => rw [hwy]; simp [intOf]; exact HYX.out

theorem refHexI (x : Nat) (l : Int) (w : World) (h : HexOk x l) :
    Calls Tryd.prog 14 #[.int .u64 (x : Int), .int .i64 l] w fun e w' => e = .returned (.string ⟨(HX x l).toArray⟩) ∧ Below w.heap.size w w' := by
  obtain ⟨h1, h2, h3⟩ := h
  have := refHex_any (UInt64.ofNat x) l.toNat (by omega) (by omega) w
  rw [UInt64.toNat_ofNat', Nat.mod_eq_of_lt (by omega), show ((l.toNat : Nat) : Int) = l from by omega] at this
  refine this.mono ?_
  rintro e w' ⟨he, rfl⟩
  exact ⟨he, Below.refl _ _⟩

set_option maxRecDepth 100000 in
set_option maxHeartbeats 2000000 in
theorem refText_ok (v : Nat) (key : UInt64) (c : UInt32) (hv1 : 1 ≤ v) (hv2 : v ≤ 99999999) (hk : key.toNat ≠ 0) (w : World) :
    Calls Tryd.prog 7 #[fidV v key c] w fun e w' => e = .returned (.tuple #[.string ⟨(textL v key c).toArray⟩, .int .i64 0]) ∧ Below w.heap.size w w' := by
  unfold fidV
  have h1 : (1 : Int) ≤ v := by omega
  have h2 : (v : Int) ≤ 99999999 := by omega
  have h3 : ((key.toNat : Int) == 0) = false := by rw [beq_eq_false_iff_ne]; omega
  have hD := refDec_any v hv1 (by omega)
  have o1 : HexOk key.toNat 1 := ⟨key.toNat_lt, by decide, by decide⟩
  have o2 : HexOk c.toNat 8 := ⟨by have := c.toNat_lt; omega, by decide, by decide⟩
  have l1 : (decL v).length ≤ 20 := decF_le 20 v
  have l2 := HX_le key.toNat 1
  have l3 := HX_le c.toNat 8
  have hT : textL v key c = decL v ++ [44] ++ HX key.toNat 1 ++ [44] ++ HX c.toNat 8 := rfl
  obtain ⟨D, hDe⟩ : ∃ D, D = decL v := ⟨_, rfl⟩
  rw [← hDe] at hD hT l1
  have HT := Lib.hid hT
  clear hk hDe hT
  go_enter Tryd.func7, Tryd.ntmps7
  go_wp2
  obtain ⟨w0, hw0⟩ : ∃ w0, w0 = (w.alloc (Obj.cells #[Value.int IntKind.i64 ↑v, Value.int IntKind.u64 ↑key.toNat, Value.int IntKind.u32 ↑c.toNat] 25)) := ⟨_, rfl⟩
  rw [← hw0]
  have hS : w0.cell? ⟨w.heap.size, 0, none⟩ = some (.int .i64 v) ∧ w0.cell? ⟨w.heap.size, 1, none⟩ = some (.int .u64 key.toNat) ∧ w0.cell? ⟨w.heap.size, 2, none⟩ = some (.int .u32 c.toNat) ∧ Below w.heap.size w w0 ∧ w.heap.size ≤ w0.heap.size := by
    subst hw0
    refine ⟨?_, ?_, ?_, (Below.refl _ _).alloc (Nat.le_refl _) _, by simp⟩ <;> rw [World.cell?_alloc_mark] <;> rfl
  obtain ⟨hS1, hS2, hS3, hS4, hS5⟩ := hS
  clear hw0
  have hcw : IntKind.u64.wrap (c.toNat : Int) = (c.toNat : Int) := IntWalk.u64_in _ (by have := c.toNat_lt; omega)
  have hs1 : ¬ 9223372036854775807 < D.length + 1 := by omega
  have hs2 : ¬ 9223372036854775807 < D.length + 1 + (HX key.toNat 1).length := by omega
  have hs3 : ¬ 9223372036854775807 < D.length + 1 + (HX key.toNat 1).length + 1 := by omega
  have hs4 : ¬ 9223372036854775807 < D.length + 1 + (HX key.toNat 1).length + 1 + (HX c.toNat 8).length := by omega
  go_region_held3 (fun W => W.cell? ⟨w.heap.size, 0, none⟩ = some (.int .i64 v) ∧ W.cell? ⟨w.heap.size, 1, none⟩ = some (.int .u64 key.toNat) ∧ W.cell? ⟨w.heap.size, 2, none⟩ = some (.int .u32 c.toNat) ∧ Below w.heap.size w W ∧ w.heap.size ≤ W.heap.size)
    (first
      | exact ⟨hS1, hS2, hS3, hS4.drew, hS5⟩
      | exact kept3 (by assumption) (by assumption))
    (first
      | (go_at_call 13; refine (hD _).mono ?_; rintro e w1 ⟨rfl, hb1⟩)
      | (go_at_call 14; refine (refHexI _ _ _ (by assumption)).mono ?_; rintro e w1 ⟨rfl, hb1⟩))
  go_wp2
  rename_i hH
  go_ret2
  refine ⟨?_, hH.2.2.2.1⟩
  have e : (ByteArray.mk D.toArray ++ ByteArray.mk #[44] ++ ByteArray.mk (HX key.toNat 1).toArray ++ ByteArray.mk #[44] ++ ByteArray.mk (HX c.toNat 8).toArray) = ByteArray.mk (textL v key c).toArray := by
    rw [HT.out]
    show (ByteArray.mk D.toArray ++ ByteArray.mk [44].toArray ++ ByteArray.mk (HX key.toNat 1).toArray ++ ByteArray.mk [44].toArray ++ ByteArray.mk (HX c.toNat 8).toArray) = _
    simp only [ByteArray.mk_append_mk]
  rw [← e]
  rfl

set_option maxRecDepth 100000 in
set_option maxHeartbeats 1000000 in
theorem refText_bad (v : Int) (key : UInt64) (c : UInt32) (h : v < 1 ∨ 99999999 < v ∨ key.toNat = 0) (w : World) :
    Calls Tryd.prog 7 #[fidV v key c] w fun e w' => e = .returned (.tuple #[.string ⟨#[]⟩, .int .i64 1]) ∧ Below w.heap.size w w' := by
  unfold fidV
  have hb : ∀ o, Below w.heap.size w (w.alloc o) := fun o => (Below.refl _ _).alloc (Nat.le_refl _) o
  by_cases h1 : v < 1
  · clear h
    go_enter Tryd.func7, Tryd.ntmps7
    go_wp2
    go_ret2
    exact ⟨rfl, hb _⟩
  · by_cases h2 : 99999999 < v
    · clear h
      go_enter Tryd.func7, Tryd.ntmps7
      go_wp2
      go_ret2
      exact ⟨rfl, hb _⟩
    · have h3 : ((key.toNat : Int) == 0) = true := by rw [beq_iff_eq]; omega
      have h4 : (1 : Int) ≤ v := by omega
      have h5 : v ≤ 99999999 := by omega
      clear h h1 h2
      go_enter Tryd.func7, Tryd.ntmps7
      go_wp2
      go_ret2
      exact ⟨rfl, hb _⟩
theorem refText_any (S : List UInt8) (hno : ¬ IsText S) (v : Int) (key : UInt64) (c : UInt32) (w : World) :
    Calls Tryd.prog 7 #[fidV v key c] w fun e w' => TAny S e ∧ Below w.heap.size w w' := by
  by_cases h : v < 1 ∨ 99999999 < v ∨ key.toNat = 0
  · refine (refText_bad v key c h w).mono ?_
    rintro e w' ⟨rfl, hb⟩
    exact ⟨.inr rfl, hb⟩
  · obtain ⟨n, rfl⟩ : ∃ n : Nat, v = n := ⟨v.toNat, by omega⟩
    refine (refText_ok n key c (by omega) (by omega) (by omega) w).mono ?_
    rintro e w' ⟨rfl, hb⟩
    exact ⟨.inl ⟨_, fun e => hno ⟨n, key, c, by omega, by omega, by omega, e⟩, rfl⟩, hb⟩
end Go.Proofs.YtbigihlepdpccaaDoor
