/- wire's Encode: the plain function, the contract. Conditions: each contract's own premises. -/
import Derived.Test.YteenbobblbehoaaEnc
import Derived.Test.YteenbobblbehoaaVar
import Derived.Test.YteenbobblbehoaaZig
import Derived.Test.YteenbobblbehoaaBlkV
namespace Go.Proofs.Yteenbobblbehoaa
open Go Go.RowKit

/-- Numbers' bytes. -/
def numsL (l : List Int) : List UInt8 := (l.map fun n => uv (zigN n)).flatten
/-- A message's bytes. -/
def bodyL (v0 v1 v2 : Nat) (nums : List Int) (data : List UInt8) : List UInt8 := uv v0 ++ uv v1 ++ uv v2 ++ uv nums.length ++ numsL nums ++ uv data.length ++ data
/-- A message, as a value. -/
def msgV (fr to kd : Int) (an : Option Addr) (nn cn : Nat) (ad : Option Addr) (nd cd : Nat) : Value := .agg #[.int .i64 fr, .int .i64 to, .int .i64 kd, .slice an nn cn, .slice ad nd cd]
/-- A number of a node or a kind. -/
def smallB (n : Int) : Bool := decide (0 ≤ n) && decide (n ≤ 2147483647)

set_option maxRecDepth 100000 in
theorem small_any (n : Int) (w : World) : Calls Try.prog 67 #[.int .i64 n] w fun e w' => e = .returned (.bool (smallB n)) ∧ w = w' := by
  obtain ⟨s, hs⟩ : ∃ s, s = smallB n := ⟨_, rfl⟩
  rw [← hs]
  unfold smallB at hs
  have HS := Lib.hid hs
  clear hs
  by_cases h0 : 0 ≤ n
  · by_cases h1 : n ≤ 2147483647
    · have hb : s = true := by rw [HS.out]; simp [h0, h1]
      subst hb
      clear HS
      go_enter Try.func67, Try.ntmps67
      go_wp2
      go_ret
      exact ⟨rfl, rfl⟩
    · have hb : s = false := by rw [HS.out]; simp [h1]
      subst hb
      clear HS
      go_enter Try.func67, Try.ntmps67
      go_wp2
      go_ret
      exact ⟨rfl, rfl⟩
  · have hb : s = false := by rw [HS.out]; simp [h0]
    subst hb
    clear HS
    go_enter Try.func67, Try.ntmps67
    go_wp2
    go_ret
    exact ⟨rfl, rfl⟩

/-- Is a message refused for its numbers? -/
def wBad (fr to kd : Int) (nn : Nat) : Bool := !smallB fr || (!smallB to || (!smallB kd || decide (64 < nn)))

set_option maxRecDepth 100000 in
set_option maxHeartbeats 2000000 in
theorem wEncode_no (fr to kd : Int) (an : Option Addr) (nn cn : Nat) (ad : Option Addr) (nd cd : Nat) (w : World) (f : Int) (hn : nn ≤ 9223372036854775807) (hd : nd ≤ 9223372036854775807)
    (hf : wBad fr to kd nn = true ∧ f = 1 ∨ wBad fr to kd nn = false ∧ 1047552 < nd ∧ f = 5) :
    Calls Try.prog 50 #[msgV fr to kd an nn cn ad nd cd] w fun e w' => e = .returned (.tuple #[.slice none 0 0, .int .i64 f]) ∧ Below w.heap.size w w' := by
  have hstart : ∀ o, Below w.heap.size w (w.alloc o) := fun o => (Below.refl _ _).alloc (Nat.le_refl _) o
  unfold msgV
  obtain ⟨s0, h0⟩ : ∃ s, s = smallB fr := ⟨_, rfl⟩
  obtain ⟨s1, h1⟩ : ∃ s, s = smallB to := ⟨_, rfl⟩
  obtain ⟨s2, h2⟩ : ∃ s, s = smallB kd := ⟨_, rfl⟩
  have c0 := fun w => small_any fr w
  have c1 := fun w => small_any to w
  have c2 := fun w => small_any kd w
  unfold wBad at hf
  rw [← h0] at c0 hf
  rw [← h1] at c1 hf
  rw [← h2] at c2 hf
  have H0 := Lib.hid c0
  have H1 := Lib.hid c1
  have H2 := Lib.hid c2
  clear c0 c1 c2 h0 h1 h2
  cases s0 with
  | false =>
    obtain rfl : f = 1 := by rcases hf with h | h; exact h.2; simp at h
    clear hf
    go_enter Try.func50, Try.ntmps50
    go_wp2_with fail
    refine (H0.out _).mono ?_
    rintro e w1 ⟨rfl, rfl⟩
    go_wp2
    go_ret2
    exact ⟨rfl, hstart _⟩
  | true =>
    cases s1 with
    | false =>
      obtain rfl : f = 1 := by rcases hf with h | h; exact h.2; simp at h
      clear hf
      go_enter Try.func50, Try.ntmps50
      go_wp2_with fail
      refine (H0.out _).mono ?_
      rintro e w1 ⟨rfl, rfl⟩
      go_wp2_with fail
      refine (H1.out _).mono ?_
      rintro e w1 ⟨rfl, rfl⟩
      go_wp2
      go_ret2
      exact ⟨rfl, hstart _⟩
    | true =>
      cases s2 with
      | false =>
        obtain rfl : f = 1 := by rcases hf with h | h; exact h.2; simp at h
        clear hf
        go_enter Try.func50, Try.ntmps50
        go_wp2_with fail
        refine (H0.out _).mono ?_
        rintro e w1 ⟨rfl, rfl⟩
        go_wp2_with fail
        refine (H1.out _).mono ?_
        rintro e w1 ⟨rfl, rfl⟩
        go_wp2_with fail
        refine (H2.out _).mono ?_
        rintro e w1 ⟨rfl, rfl⟩
        go_wp2
        go_ret2
        exact ⟨rfl, hstart _⟩
      | true =>
        have hf2 : 64 < nn ∧ f = 1 ∨ nn ≤ 64 ∧ 1047552 < nd ∧ f = 5 := by simpa using hf
        clear hf
        rcases hf2 with ⟨hq, rfl⟩ | ⟨hq, hq2, rfl⟩
        · have hqi : (64 : Int) < (nn : Int) := by omega
          go_enter Try.func50, Try.ntmps50
          go_wp2_with fail
          refine (H0.out _).mono ?_
          rintro e w1 ⟨rfl, rfl⟩
          go_wp2_with fail
          refine (H1.out _).mono ?_
          rintro e w1 ⟨rfl, rfl⟩
          go_wp2_with fail
          refine (H2.out _).mono ?_
          rintro e w1 ⟨rfl, rfl⟩
          go_wp2
          go_ret2
          exact ⟨rfl, hstart _⟩
        · have hqi : (nn : Int) ≤ 64 := by omega
          have hqi2 : (1047552 : Int) < (nd : Int) := by omega
          go_enter Try.func50, Try.ntmps50
          go_wp2_with fail
          refine (H0.out _).mono ?_
          rintro e w1 ⟨rfl, rfl⟩
          go_wp2_with fail
          refine (H1.out _).mono ?_
          rintro e w1 ⟨rfl, rfl⟩
          go_wp2_with fail
          refine (H2.out _).mono ?_
          rintro e w1 ⟨rfl, rfl⟩
          go_wp2
          go_ret2
          exact ⟨rfl, hstart _⟩
theorem uv_len (x : Nat) : (uv x).length ≤ 11 := (uvF_length 10 x).2
theorem numsL_snoc (l : List Int) (n : Int) : numsL (l ++ [n]) = numsL l ++ uv (zigN n) := by simp [numsL]
theorem numsL_len : ∀ l : List Int, (numsL l).length ≤ 11 * l.length
  | [] => Nat.le_refl _
  | n :: l => by
    have h1 := numsL_len l
    have h2 := uv_len (zigN n)
    show (uv (zigN n) ++ numsL l).length ≤ _
    rw [List.length_append, List.length_cons]; omega

/-- The first k numbers' bytes of a message's head. -/
def preL (a b c d : Nat) (k : Nat) : List UInt8 := ([uv a, uv b, uv c, uv d].take k).flatten
/-- What Encode gives. -/
def WEP (w : World) (X : List UInt8) (e : Ending) (w' : World) : Prop := ∃ r, e = .returned (.tuple #[r, .int .i64 0]) ∧ w'.ownsRow w.heap.size 5 1 r (8 + X.length) (B8 (encL X)) ∧ Below w.heap.size w w'

set_option maxRecDepth 100000 in
set_option maxHeartbeats 8000000 in
theorem wEncode_yes (v0 v1 v2 : UInt64) (h0 : smallB v0.toNat = true) (h1 : smallB v1.toNat = true) (h2 : smallB v2.toNat = true) (an : Option Addr) (cn : Nat) (nums : List Int) (ad : Option Addr) (cd : Nat) (data : List UInt8) (w : World)
    (hrn : Rd w an cn (BI nums)) (hbn : ∀ n ∈ nums, -9223372036854775808 ≤ n ∧ n ≤ 9223372036854775807) (hnn : nums.length ≤ 64) (hrd : Rd w ad cd (B8 data)) (hdl : data.length ≤ 1047552) :
    Calls Try.prog 50 #[msgV v0.toNat v1.toNat v2.toNat an nums.length cn ad data.length cd] w (WEP w (bodyL v0.toNat v1.toNat v2.toNat nums data)) := by
  unfold msgV
  have c0 := fun w => small_any v0.toNat w
  have c1 := fun w => small_any v1.toNat w
  have c2 := fun w => small_any v2.toNat w
  rw [h0] at c0
  rw [h1] at c1
  rw [h2] at c2
  have H0 := Lib.hid c0
  have H1 := Lib.hid c1
  have H2 := Lib.hid c2
  have hw0 : IntKind.u64.wrap (v0.toNat : Int) = (v0.toNat : Int) := IntWalk.u64_in _ (by have := u64_lt v0; omega)
  have hw1 : IntKind.u64.wrap (v1.toNat : Int) = (v1.toNat : Int) := IntWalk.u64_in _ (by have := u64_lt v1; omega)
  have hw2 : IntKind.u64.wrap (v2.toNat : Int) = (v2.toNat : Int) := IntWalk.u64_in _ (by have := u64_lt v2; omega)
  obtain ⟨vn, hvn⟩ : ∃ v : UInt64, v.toNat = nums.length := ⟨UInt64.ofNat nums.length, by rw [UInt64.toNat_ofNat', Nat.mod_eq_of_lt (by omega)]⟩
  obtain ⟨vd, hvd⟩ : ∃ v : UInt64, v.toNat = data.length := ⟨UInt64.ofNat data.length, by rw [UInt64.toNat_ofNat', Nat.mod_eq_of_lt (by omega)]⟩
  have hwn : IntKind.u64.wrap (nums.length : Int) = (vn.toNat : Int) := by rw [hvn]; exact IntWalk.u64_in _ (by omega)
  have hwd : IntKind.u64.wrap (data.length : Int) = (vd.toNat : Int) := by rw [hvd]; exact IntWalk.u64_in _ (by omega)
  have i0 : ∀ w, (Instr.index 113 (.agg #[.int .i64 v0.toNat, .int .i64 v1.toNat, .int .i64 v2.toNat, .int .i64 nums.length]) (.int .i64 0)).run Try.prog w = .ok (.int .i64 v0.toNat) w := fun _ => by kernel_rfl
  have i1 : ∀ w, (Instr.index 113 (.agg #[.int .i64 v0.toNat, .int .i64 v1.toNat, .int .i64 v2.toNat, .int .i64 nums.length]) (.int .i64 1)).run Try.prog w = .ok (.int .i64 v1.toNat) w := fun _ => by kernel_rfl
  have i2 : ∀ w, (Instr.index 113 (.agg #[.int .i64 v0.toNat, .int .i64 v1.toNat, .int .i64 v2.toNat, .int .i64 nums.length]) (.int .i64 2)).run Try.prog w = .ok (.int .i64 v2.toNat) w := fun _ => by kernel_rfl
  have i3 : ∀ w, (Instr.index 113 (.agg #[.int .i64 v0.toNat, .int .i64 v1.toNat, .int .i64 v2.toNat, .int .i64 nums.length]) (.int .i64 3)).run Try.prog w = .ok (.int .i64 nums.length) w := fun _ => by kernel_rfl
  have hnni : (nums.length : Int) ≤ 64 := by omega
  have hdli : (data.length : Int) ≤ 1047552 := by omega
  have HVN := Lib.hid hvn
  have HVD := Lib.hid hvd
  have HBN := Lib.hid hbn
  clear c0 c1 c2 h0 h1 h2 hvn hvd hbn
  go_enter Try.func50, Try.ntmps50
  go_wp2_with fail
  refine (H0.out _).mono ?_
  rintro e w1 ⟨rfl, rfl⟩
  go_wp2_with fail
  refine (H1.out _).mono ?_
  rintro e w1 ⟨rfl, rfl⟩
  go_wp2_with fail
  refine (H2.out _).mono ?_
  rintro e w1 ⟨rfl, rfl⟩
  go_wp2_with fail
  obtain ⟨G, hG⟩ : ∃ G, G = w.heap.size := ⟨_, rfl⟩
  obtain ⟨W0, hW0⟩ : ∃ W0, W0 = w.alloc (.cells #[Value.int .i64 (v0.toNat : Int), .int .i64 (v1.toNat : Int), .int .i64 (v2.toNat : Int), .slice an nums.length cn, .slice ad data.length cd] 71) := ⟨_, rfl⟩
  have hbw0 : Below G w W0 := by rw [hW0]; exact (Below.refl _ _).alloc (Nat.le_of_eq hG) _
  have hBM : BlkV W0 G 71 #[Value.int .i64 (v0.toNat : Int), .int .i64 (v1.toNat : Int), .int .i64 (v2.toNat : Int), .slice an nums.length cn, .slice ad data.length cd] := by rw [hW0, hG]; exact BlkV.new w _ _
  have hz0 : G + 1 ≤ W0.heap.size := hBM.lt
  rw [← hW0, ← hG]
  have HG := Lib.hid hG
  clear hG hW0
  go_loopw [4, 47] (fun s4 s47 wr => ∃ (k : Nat) (X : List UInt8), k ≤ 4 ∧ s47 = .int .i64 k ∧ wr.ownsRow (G + 1) 5 1 s4 X.length (B8 X) ∧ Below (G + 1) W0 wr ∧ Hid (X = preL v0.toNat v1.toNat v2.toNat vn.toNat k) ∧ X.length ≤ 11 * k) (fun _ s47 _ => 4 - (intOf s47).toNat)
  case atStart => exact ⟨0, [], by omega, rfl, World.ownsRow_nil _ _ _ _, Below.refl _ _, Lib.hid rfl, by simp⟩
  case round =>
    obtain ⟨k, X, hk, rfl, ho, hb, HX, hXl⟩ := hrel
    by_cases hk4 : k < 4
    · have hkc : k = 0 ∨ k = 1 ∨ k = 2 ∨ k = 3 := by omega
      clear hk hk4
      have I := Lib.hid (And.intro i0 (And.intro i1 (And.intro i2 i3)))
      clear i0 i1 i2 i3
      obtain ⟨i0, i1, i2, i3⟩ := I.out
      rcases hkc with rfl | rfl | rfl | rfl
      · clear i1 i2 i3
        go_wp2_with fail
        refine (uvarint_any v0 _).mono ?_
        rintro e w1 ⟨r1, rfl, ho1, hb1⟩
        have hob1 := own_below ho hb1
        have hb1' : Below (G + 1) W0 w1 := hb.trans (hb1.mono (by have := hb.size; omega))
        obtain ⟨a1, c1, rfl, hrd1⟩ := Rd.ofOwn ho1
        clear ho ho1 hb1
        have hul := uv_len v0.toNat
        have hz1 := hb1'.size
        go_wp2_with (with_reducible refine At.slot 54 ?_)
        refine At.out (wpList_app rfl (.tmp 50) (.tmp 53) 31 rfl elemB rfl (G + 1) _ X.length _ rfl hob1 a1 (uv v0.toNat).length c1 (B8 (uv v0.toNat)) rfl (B8_length _).symm hrd1 (B8_one _) (by unfold maxLen; omega) (by omega) (by omega) ?_)
        intro v2' w2 ho2 hb2 _
        rw [← B8_append, ← List.length_append] at ho2
        have hb2' : Below (G + 1) W0 w2 := hb1'.trans hb2
        have HX' : Hid (X ++ uv v0.toNat = preL v0.toNat v1.toNat v2.toNat vn.toNat 1) := Lib.hid (by rw [HX.out]; simp [preL])
        have hXl' : (X ++ uv v0.toNat).length ≤ 11 * 1 := by rw [List.length_append]; omega
        clear hob1 hb2 hrd1
        go_wp2
        go_roundw
        case rel => exact ⟨1, X ++ uv v0.toNat, by omega, rfl, ho2, hb2', HX', hXl'⟩
        case measure => simp [intOf]
      · clear i0 i2 i3
        go_wp2_with fail
        refine (uvarint_any v1 _).mono ?_
        rintro e w1 ⟨r1, rfl, ho1, hb1⟩
        have hob1 := own_below ho hb1
        have hb1' : Below (G + 1) W0 w1 := hb.trans (hb1.mono (by have := hb.size; omega))
        obtain ⟨a1, c1, rfl, hrd1⟩ := Rd.ofOwn ho1
        clear ho ho1 hb1
        have hul := uv_len v1.toNat
        have hz1 := hb1'.size
        go_wp2_with (with_reducible refine At.slot 54 ?_)
        refine At.out (wpList_app rfl (.tmp 50) (.tmp 53) 31 rfl elemB rfl (G + 1) _ X.length _ rfl hob1 a1 (uv v1.toNat).length c1 (B8 (uv v1.toNat)) rfl (B8_length _).symm hrd1 (B8_one _) (by unfold maxLen; omega) (by omega) (by omega) ?_)
        intro v2' w2 ho2 hb2 _
        rw [← B8_append, ← List.length_append] at ho2
        have hb2' : Below (G + 1) W0 w2 := hb1'.trans hb2
        have HX' : Hid (X ++ uv v1.toNat = preL v0.toNat v1.toNat v2.toNat vn.toNat 2) := Lib.hid (by rw [HX.out]; simp [preL])
        have hXl' : (X ++ uv v1.toNat).length ≤ 11 * 2 := by rw [List.length_append]; omega
        clear hob1 hb2 hrd1
        go_wp2
        go_roundw
        case rel => exact ⟨2, X ++ uv v1.toNat, by omega, rfl, ho2, hb2', HX', hXl'⟩
        case measure => simp [intOf]
      · clear i0 i1 i3
        go_wp2_with fail
        refine (uvarint_any v2 _).mono ?_
        rintro e w1 ⟨r1, rfl, ho1, hb1⟩
        have hob1 := own_below ho hb1
        have hb1' : Below (G + 1) W0 w1 := hb.trans (hb1.mono (by have := hb.size; omega))
        obtain ⟨a1, c1, rfl, hrd1⟩ := Rd.ofOwn ho1
        clear ho ho1 hb1
        have hul := uv_len v2.toNat
        have hz1 := hb1'.size
        go_wp2_with (with_reducible refine At.slot 54 ?_)
        refine At.out (wpList_app rfl (.tmp 50) (.tmp 53) 31 rfl elemB rfl (G + 1) _ X.length _ rfl hob1 a1 (uv v2.toNat).length c1 (B8 (uv v2.toNat)) rfl (B8_length _).symm hrd1 (B8_one _) (by unfold maxLen; omega) (by omega) (by omega) ?_)
        intro v2' w2 ho2 hb2 _
        rw [← B8_append, ← List.length_append] at ho2
        have hb2' : Below (G + 1) W0 w2 := hb1'.trans hb2
        have HX' : Hid (X ++ uv v2.toNat = preL v0.toNat v1.toNat v2.toNat vn.toNat 3) := Lib.hid (by rw [HX.out]; simp [preL])
        have hXl' : (X ++ uv v2.toNat).length ≤ 11 * 3 := by rw [List.length_append]; omega
        clear hob1 hb2 hrd1
        go_wp2
        go_roundw
        case rel => exact ⟨3, X ++ uv v2.toNat, by omega, rfl, ho2, hb2', HX', hXl'⟩
        case measure => simp [intOf]
      · clear i0 i1 i2
        go_wp2_with fail
        refine (uvarint_any vn _).mono ?_
        rintro e w1 ⟨r1, rfl, ho1, hb1⟩
        have hob1 := own_below ho hb1
        have hb1' : Below (G + 1) W0 w1 := hb.trans (hb1.mono (by have := hb.size; omega))
        obtain ⟨a1, c1, rfl, hrd1⟩ := Rd.ofOwn ho1
        clear ho ho1 hb1
        have hul := uv_len vn.toNat
        have hz1 := hb1'.size
        go_wp2_with (with_reducible refine At.slot 54 ?_)
        refine At.out (wpList_app rfl (.tmp 50) (.tmp 53) 31 rfl elemB rfl (G + 1) _ X.length _ rfl hob1 a1 (uv vn.toNat).length c1 (B8 (uv vn.toNat)) rfl (B8_length _).symm hrd1 (B8_one _) (by unfold maxLen; omega) (by omega) (by omega) ?_)
        intro v2' w2 ho2 hb2 _
        rw [← B8_append, ← List.length_append] at ho2
        have hb2' : Below (G + 1) W0 w2 := hb1'.trans hb2
        have HX' : Hid (X ++ uv vn.toNat = preL v0.toNat v1.toNat v2.toNat vn.toNat 4) := Lib.hid (by rw [HX.out]; simp [preL])
        have hXl' : (X ++ uv vn.toNat).length ≤ 11 * 4 := by rw [List.length_append]; omega
        clear hob1 hb2 hrd1
        go_wp2
        go_roundw
        case rel => exact ⟨4, X ++ uv vn.toNat, by omega, rfl, ho2, hb2', HX', hXl'⟩
        case measure => simp [intOf]
    · obtain rfl : k = 4 := by omega
      have m3 := (hBM.at hb (Nat.lt_succ_self _)).cell 3
      have m4 := (hBM.at hb (Nat.lt_succ_self _)).cell 4
      simp only [List.getElem?_toArray, List.getElem?_cons_succ, List.getElem?_cons_zero] at m3 m4
      have hz := hb.size
      have hlt : G < wr.heap.size := by omega
      clear i0 i1 i2 i3
      go_wp2
      obtain ⟨wo, hwo⟩ : ∃ wo : World, wo = wr := ⟨_, rfl⟩
      rw [← hwo] at ho hb m3 m4 hz hlt ⊢
      clear hwo
      go_loopw [4, 59] (fun s4 s59 wr => ∃ (k : Nat) (X : List UInt8), k ≤ nums.length ∧ s59 = .int .i64 k ∧ wr.ownsRow (G + 1) 5 1 s4 X.length (B8 X) ∧ Below (G + 1) W0 wr ∧ Hid (X = preL v0.toNat v1.toNat v2.toNat vn.toNat 4 ++ numsL (nums.take k)) ∧ X.length ≤ 44 + 11 * k) (fun _ s59 _ => nums.length - (intOf s59).toNat)
      case atStart => exact ⟨0, X, by omega, rfl, ho, hb, Lib.hid (by rw [HX.out]; simp [numsL]), by omega⟩
      case round =>
        clear ho hb HX hXl m3 m4 hz hlt
        obtain ⟨k, X, hk, rfl, ho, hb, HX, hXl⟩ := hrel
        have hbG : Below G w wr := hbw0.trans (hb.mono (by omega))
        have hz := hb.size
        by_cases hlt : k < nums.length
        · obtain ⟨b1, o1, rfl, hc1⟩ := (hrn.kept (HG.out ▸ hbG : Below w.heap.size w wr)).cs.bi k hlt
          obtain ⟨x, hx⟩ : ∃ x, x = nums[k] := ⟨_, rfl⟩
          rw [← hx] at hc1
          have hxb := HBN.out x (by rw [hx]; exact List.getElem_mem _)
          have hzg := zig_toNat hxb
          have hzig := zig_any x hxb wr
          obtain ⟨z, hzz⟩ : ∃ z, z = zig x := ⟨_, rfl⟩
          rw [← hzz] at hzig hzg
          have HXK : Hid (numsL (nums.take (k + 1)) = numsL (nums.take k) ++ uv z.toNat) := Lib.hid (by rw [List.take_succ_eq_append_getElem hlt, numsL_snoc, ← hx, hzg])
          have HZ := Lib.hid hzig
          clear hx hzz hzg hzig hxb
          have hki : (k : Int) < (nums.length : Int) := by omega
          go_wp2_with fail
          refine HZ.out.mono ?_
          rintro e w1 ⟨rfl, hw⟩
          have hw := hw.symm
          subst hw
          go_wp2_with fail
          refine (uvarint_any z _).mono ?_
          rintro e w1 ⟨r1, rfl, ho1, hb1⟩
          have hob1 := own_below ho hb1
          have hb1' : Below (G + 1) W0 w1 := hb.trans (hb1.mono (by omega))
          obtain ⟨a1, c1, rfl, hrd1⟩ := Rd.ofOwn ho1
          clear ho ho1 hb1
          have hul := uv_len z.toNat
          have hz1 := hb1'.size
          go_wp2_with (with_reducible refine At.slot 67 ?_)
          refine At.out (wpList_app rfl (.tmp 63) (.tmp 66) 31 rfl elemB rfl (G + 1) _ X.length _ rfl hob1 a1 (uv z.toNat).length c1 (B8 (uv z.toNat)) rfl (B8_length _).symm hrd1 (B8_one _) (by unfold maxLen; omega) (by omega) (by omega) ?_)
          intro v2' w2 ho2 hb2 _
          rw [← B8_append, ← List.length_append] at ho2
          have hb2' : Below (G + 1) W0 w2 := hb1'.trans hb2
          have HX' : Hid (X ++ uv z.toNat = preL v0.toNat v1.toNat v2.toNat vn.toNat 4 ++ numsL (nums.take (k + 1))) := Lib.hid (by rw [HX.out, HXK.out, List.append_assoc])
          have hXl' : (X ++ uv z.toNat).length ≤ 44 + 11 * (k + 1) := by rw [List.length_append]; omega
          clear hob1 hb2 hrd1 hc1
          go_wp2
          go_roundw
          case rel =>
            repeat apply Exists.intro
            refine ⟨?_, rfl⟩
            exact ⟨k + 1, X ++ uv z.toNat, by omega, by go_num, ho2, hb2', HX', hXl'⟩
          case measure => simp [intOf]; omega
        · obtain rfl : k = nums.length := by omega
          have m4 := (hBM.at hb (Nat.lt_succ_self _)).cell 4
          simp only [List.getElem?_toArray, List.getElem?_cons_succ, List.getElem?_cons_zero] at m4
          have hltG : G < wr.heap.size := by omega
          rw [List.take_length] at HX
          go_wp2_with fail
          refine (uvarint_any vd _).mono ?_
          rintro e w1 ⟨r1, rfl, ho1, hb1⟩
          have hob1 := own_below ho hb1
          have hb1' : Below (G + 1) W0 w1 := hb.trans (hb1.mono (by omega))
          obtain ⟨a1, c1, rfl, hrd1⟩ := Rd.ofOwn ho1
          clear ho ho1 hb1
          have hul := uv_len vd.toNat
          have hz1 := hb1'.size
          go_wp2_with (with_reducible refine At.slot 75 ?_)
          refine At.out (wpList_app rfl (.tmp 69) (.tmp 74) 31 rfl elemB rfl (G + 1) _ X.length _ rfl hob1 a1 (uv vd.toNat).length c1 (B8 (uv vd.toNat)) rfl (B8_length _).symm hrd1 (B8_one _) (by unfold maxLen; omega) (by omega) (by omega) ?_)
          intro v2' w2 ho2 hb2 _
          rw [← B8_append, ← List.length_append] at ho2
          have hb2' : Below (G + 1) W0 w2 := hb1'.trans hb2
          have hbG2 : Below G w w2 := hbw0.trans (hb2'.mono (by omega))
          obtain ⟨Y, hY⟩ : ∃ Y, Y = X ++ uv vd.toNat := ⟨_, rfl⟩
          have hYl : Y.length ≤ 55 + 11 * nums.length := by rw [hY, List.length_append]; omega
          rw [← hY] at ho2
          have HY := Lib.hid hY
          have m4b := (hBM.at hb2' (Nat.lt_succ_self _)).cell 4
          simp only [List.getElem?_toArray, List.getElem?_cons_succ, List.getElem?_cons_zero] at m4b
          have hrd2 := hrd.kept (HG.out ▸ hbG2 : Below w.heap.size w w2)
          have hz2 := hb2'.size
          have hltG2 : G < w2.heap.size := by omega
          clear hob1 hb2 hrd1 m4 hY
          go_wp2_with (with_reducible refine At.slot 79 ?_)
          refine At.out (wpList_app rfl (.tmp 76) (.tmp 78) 31 rfl elemB rfl (G + 1) _ Y.length _ rfl ho2 ad data.length cd (B8 data) rfl (B8_length _).symm hrd2 (B8_one _) (by unfold maxLen; omega) (by omega) (by omega) ?_)
          intro v3' w3 ho3 hb3 _
          rw [← B8_append, ← List.length_append] at ho3
          have hbG3 : Below G w w3 := hbG2.trans (hb3.mono (by omega))
          have HB : Hid (bodyL v0.toNat v1.toNat v2.toNat nums data = Y ++ data) := Lib.hid (by
            rw [HY.out, HX.out]; unfold bodyL; rw [HVN.out, HVD.out]; simp [preL])
          obtain ⟨Z, hZ⟩ : ∃ Z, Z = Y ++ data := ⟨_, rfl⟩
          have hZl : Z.length ≤ 1048576 := by rw [hZ, List.length_append]; omega
          rw [← hZ] at ho3
          have HZ := Lib.hid hZ
          obtain ⟨a3, c3, rfl, hr3⟩ := Rd.ofOwn ho3
          clear ho2 hb3 hZ ho3
          go_wp2_with fail
          refine (encode_any w3 a3 c3 Z hr3 hZl).mono ?_
          rintro e w4 ⟨r4, rfl, ho4, hb4⟩
          have hGs := hbG3.size
          have hGs2 := HG.out
          have hbG4 : Below w.heap.size w w4 := HG.out ▸ hbG3.trans (hb4.mono (by omega))
          have ho4' := own_base ho4 hGs
          go_wp2
          go_ret2
          refine ⟨r4, rfl, ?_, hbG4⟩
          rw [HB.out, ← HZ.out]
          exact ho4'
end Go.Proofs.Yteenbobblbehoaa
