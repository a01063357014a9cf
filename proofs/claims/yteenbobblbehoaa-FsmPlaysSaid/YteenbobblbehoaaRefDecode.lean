/- The document's Decode of a record: the contract. Conditions: each contract's own premises. -/
import Derived.Test.YteenbobblbehoaaDecode
import Derived.Test.YteenbobblbehoaaRefSum
import Derived.Test.YteenbobblbehoaaGet0
namespace Go.Proofs.Yteenbobblbehoaa
open Go Go.RowKit

theorem keep_alloc {B : Nat} {w W : World} {o : Obj} (h : Below B w W ∧ B ≤ W.heap.size) : Below B w (W.alloc o) ∧ B ≤ (W.alloc o).heap.size :=
  ⟨h.1.alloc h.2 _, by simp; omega⟩
theorem keep_drew {B : Nat} {w W : World} (h : Below B w W ∧ B ≤ W.heap.size) : Below B w W.drew ∧ B ≤ W.drew.heap.size := ⟨h.1.drew, h.2⟩
theorem keep_alloc_drew {B : Nat} {w W : World} {o : Obj} (h : Below B w W.drew ∧ B ≤ W.drew.heap.size) : Below B w (W.alloc o).drew ∧ B ≤ (W.alloc o).drew.heap.size :=
  ⟨(Below.trans h.1 (((Below.refl B W.drew).alloc h.2 o))), by have := h.2; simp at this ⊢; omega⟩
theorem keep_below {B : Nat} {w W W' : World} (hb : Below B W W') (h : Below B w W ∧ B ≤ W.heap.size) : Below B w W' ∧ B ≤ W'.heap.size :=
  ⟨h.1.trans hb, Nat.le_trans h.2 hb.size⟩

theorem rd_some {w : World} {a : Option Addr} {c : Nat} {l : List UInt8} (hr : Rd w a c (B8 l)) (h : 0 < l.length) : ∃ b o, a = some ⟨b, o, none⟩ ∧ b < w.heap.size := by
  obtain ⟨b, o, rfl, hc⟩ := hr.cs.b8 0 h
  exact ⟨b, o, rfl, World.block_lt_of_cell? w _ hc⟩

set_option maxRecDepth 100000 in
set_option maxHeartbeats 1000000 in
theorem refDecode_no (w : World) (a : Option Addr) (c : Nat) (l : List UInt8) (hr : Rd w a c (B8 l)) (f : Int)
    (hf : l.length < 8 ∧ f = 2 ∨ (8 ≤ l.length ∧ (1048576 < getN (l.take 4) ∧ f = 5 ∨ getN (l.take 4) ≤ 1048576 ∧ l.length < 8 + getN (l.take 4) ∧ f = 2))) :
    Calls Try.prog 75 #[.slice a l.length c] w fun e w' => e = .returned (.tuple #[.slice none 0 0, .int .i64 0, .int .i64 f]) ∧ Below w.heap.size w w' := by
  have hlm := hr.le
  rw [B8_length] at hlm
  rcases hf with ⟨h8, rfl⟩ | ⟨h8, hf⟩
  · have h8i : (l.length : Int) < 8 := by omega
    clear hr
    go_enter Try.func75, Try.ntmps75
    go_wp2
    go_ret3
    exact ⟨rfl, Below.refl _ _⟩
  · have h8i : (8 : Int) ≤ (l.length : Int) := by omega
    have G := refGet32_any w a c l hr (by omega)
    have hnlt := getN_lt4 l (by omega)
    obtain ⟨n, hn⟩ : ∃ n, n = getN (l.take 4) := ⟨_, rfl⟩
    rw [← hn] at hf G hnlt
    clear hn hr
    have hwr : IntKind.i64.wrap (n : Int) = (n : Int) := IntWalk.i64_in _ (by omega)
    rcases hf with ⟨h1, rfl⟩ | ⟨h1, h2, rfl⟩
    · go_enter Try.func75, Try.ntmps75
      go_wp2_with fail
      refine G.mono ?_
      rintro e w1 ⟨rfl, hq⟩
      have hb := hq.below w.heap.size
      clear hq G
      go_wp2
      go_ret3
      exact ⟨rfl, hb⟩
    · have h2i : (l.length : Int) < 8 + (n : Int) := by omega
      go_enter Try.func75, Try.ntmps75
      go_wp2_with fail
      refine G.mono ?_
      rintro e w1 ⟨rfl, hq⟩
      have hb := hq.below w.heap.size
      clear hq G
      go_wp2
      go_ret3
      exact ⟨rfl, hb⟩

set_option maxRecDepth 100000 in
set_option maxHeartbeats 2000000 in
theorem refDecode_full (w : World) (a : Option Addr) (c : Nat) (l : List UInt8) (hr : Rd w a c (B8 l)) (h8 : 8 ≤ l.length) (n : Nat) (hnn : getN (l.take 4) = n) (hn : n ≤ 1048576) (hl : 8 + n ≤ l.length) (yes : Bool)
    (hy : (decide ((crc (l.take 4 ++ (l.drop 8).take n)).toNat = getN ((l.drop 4).take 4))) = yes) :
    Calls Try.prog 75 #[.slice a l.length c] w (DecPost yes w n ((l.drop 8).take n)) := by
  have hlm := hr.le
  have hcap := hr.1
  rw [B8_length] at hlm hcap
  have h8i : (8 : Int) ≤ (l.length : Int) := by omega
  obtain ⟨b, o, rfl, hbw⟩ := rd_some hr (by omega)
  have G := refGet32_any w _ c l hr (by omega)
  rw [hnn] at G
  obtain ⟨S, hS⟩ : ∃ S, S = getN ((l.drop 4).take 4) := ⟨_, rfl⟩
  have hSlt : S < 4294967296 := by rw [hS]; exact getN_lt4 _ (by rw [List.length_drop]; omega)
  rw [← hS] at hy
  have hhl : (l.take 4).length = 4 := by rw [List.length_take]; omega
  have hpl : ((l.drop 8).take n).length = n := by rw [List.length_take, List.length_drop]; omega
  have hr4 : Rd w (some ⟨b, o + 4, none⟩) (c - 4) (B8 (l.drop 4)) := by
    obtain ⟨ad', hs, hp⟩ := part_mk hr 4 l.length (by omega) (by rw [B8_length]; omega)
    have hs' : Value.slice (some ⟨b, o + 4, none⟩) (l.length - 4) (c - 4) = .slice ad' (l.length - 4) (c - 4) := by
      rw [← hs]; unfold sliced; rw [if_neg (by omega)]; simp [Addr.add_lit]
    simp only [Value.slice.injEq, and_self, and_true] at hs'
    rw [hs', B8_drop]
    have := hp.rd
    rwa [List.take_of_length_le (by rw [List.length_drop, B8_length]; omega)] at this
  have hrh : Rd w (some ⟨b, o, none⟩) c (B8 (l.take 4)) := hr.take8 4
  have hdl : (l.drop 4).length = l.length - 4 := by rw [List.length_drop]
  have G2 : ∀ W : World, Below w.heap.size w W → Calls Try.prog 85 #[.slice (some ⟨b, o + 4, none⟩) (l.length - 4) (c - 4)] W fun e w' => e = .returned (.int .u32 (S : Nat)) ∧ Qt W w' := by
    intro W hb
    have := refGet32_any W _ _ _ (hr4.kept hb) (by rw [hdl]; omega)
    rwa [hdl, ← hS] at this
  obtain ⟨h, hh⟩ : ∃ h, h = l.take 4 := ⟨_, rfl⟩
  obtain ⟨p, hp⟩ : ∃ p, p = (l.drop 8).take n := ⟨_, rfl⟩
  rw [← hh, ← hp] at hy
  rw [← hh] at hhl hrh
  rw [← hp] at hpl ⊢
  obtain ⟨s, hs⟩ : ∃ s, s = crc (h ++ p) := ⟨_, rfl⟩
  rw [← hs] at hy
  have hni : (n : Int) ≤ 1048576 := by omega
  have hnl : (8 : Int) + (n : Int) ≤ (l.length : Int) := by omega
  have hwr : IntKind.i64.wrap (n : Int) = (n : Int) := IntWalk.i64_in _ (by omega)
  have hc4 : ¬ c = 4 := by omega
  have hci : (4 : Int) ≤ (c : Int) := by omega
  have hli : (4 : Int) ≤ (l.length : Int) := by omega
  have HS := Lib.hid hs
  have HP := Lib.hid hp
  have HH := Lib.hid hh
  have HHL := Lib.hid hhl
  have HPL := Lib.hid hpl
  have HY := Lib.hid hy
  have HG2 := Lib.hid G2
  clear hs hp hh hS hnn hhl hpl hy hr4 hdl G2
  go_enter Try.func75, Try.ntmps75
  go_wp2_with fail
  refine G.mono ?_
  rintro e w1 ⟨rfl, hq⟩
  have hb1 := hq.below w.heap.size
  have hs1 : w.heap.size ≤ w1.heap.size := Nat.le_of_eq hq.size.symm
  clear hq G
  have hr1 := hr.kept hb1
  go_wp2_with (with_reducible refine At.slot 24 ?_)
  refine At.out (wpList_lh rfl (.tmp 21) (.const (.int .i64 8)) (.tmp 23) rfl elemB _ l.length c (B8 l) rfl (hr1.kept ((Below.refl _ _).alloc (Nat.le_refl _) _)) .i64 .i64 8 (8 + n) rfl rfl (by omega) (by rw [B8_length]; omega) ?_)
  intro ap hp3
  have hrp := hp3.rd
  rw [← B8_drop, show 8 + n - 8 = n by omega, ← B8_take, ← HP.out] at hrp
  rw [show 8 + n - 8 = n by omega]
  clear hp3
  go_wp2_with (with_reducible refine At.slot 25 ?_)
  refine At.out (wpList_app rfl (.tmp 20) (.tmp 24) 31 rfl elemB rfl w1.heap.size _ 0 [] rfl (own_empty w1 _) ap n (c - 8) (B8 p) rfl (by rw [B8_length]; exact HPL.out.symm) hrp (B8_one _) (by unfold maxLen; omega) (by omega) (by simp) ?_)
  intro v2 w2 ho2 hb2 _
  rw [Nat.zero_add, List.nil_append] at ho2
  have hb2' : Below w1.heap.size w1 w2 := ((Below.refl _ _).alloc (Nat.le_refl _) _).trans hb2
  have hw2 : Below w.heap.size w w2 := hb1.trans (hb2'.mono hs1)
  obtain ⟨a2, c2, rfl, hrd2⟩ := Rd.ofOwn ho2
  have hrh2 := hrh.kept hw2
  have hsz2 := hw2.size
  clear hrp hb2 hb2' hr1
  go_wp2_with fail
  have H0 : Below w2.heap.size w2 w2 := Below.refl _ _
  go_region_held3 (fun W => Below w2.heap.size w2 W ∧ w2.heap.size ≤ W.heap.size)
    (first
      | exact ⟨H0.drew, Nat.le_refl _⟩
      | exact keep_alloc_drew (by assumption)
      | exact ⟨hb3', hb3'.size⟩
      | exact ⟨hb4', hb4'.size⟩
      | exact ⟨hb5', hb5'.size⟩
      | exact ⟨hb6', hb6'.size⟩)
    (first
      | ((refine step_app (by rfl) (.tmp 26) (.tmp 28) 31 (by rfl) elemB (by rfl) w2.heap.size _ 0 [] (by rfl) ((own_empty w2 _).drew) _ 4 c (B8 h) (by rfl) (by rw [B8_length]; exact HHL.out.symm) (hrh2.kept ((Below.refl _ _).alloc (Nat.le_refl _) _).drew) (B8_one _) (by unfold maxLen; omega) (by omega) (by simp) ?_
          intro v3 w3 ho3 hb3
          rw [Nat.zero_add, List.nil_append] at ho3
          have hb3' : Below w2.heap.size w2 w3 := (((Below.refl _ _).alloc (Nat.le_refl _) _).drew).trans hb3))
      | ((refine step_app (by rfl) (.tmp 29) (.tmp 30) 31 (by rfl) elemB (by rfl) w2.heap.size v3 4 (B8 h) (by rfl) ho3 _ n c2 (B8 p) (by rfl) (by rw [B8_length]; exact HPL.out.symm) (hrd2.kept hb3') (B8_one _) (by unfold maxLen; omega) (by omega) hb3'.size ?_
          intro v4 w4 ho4 hb4
          have hb4' : Below w2.heap.size w2 w4 := hb3'.trans hb4
          obtain ⟨a4, c4, rfl, hrd4⟩ := Rd.ofOwn ho4
          rw [← B8_append] at hrd4
          have hsum := refSum_any w4 a4 c4 (h ++ p) hrd4
          rw [show (h ++ p).length = 4 + n from by rw [List.length_append, HHL.out, HPL.out], ← HS.out] at hsum))
      | (go_at_call 42; refine hsum.mono ?_; rintro e w5 ⟨rfl, hb5⟩
         have hb5' : Below w2.heap.size w2 w5 := hb4'.trans (hb5.mono hb4'.size)
         have hb5 := hb5'
         clear hsum)
      | (go_at_call 85; refine (HG2.out _ (hw2.trans (hb5'.mono hsz2))).mono ?_; rintro e w6 ⟨rfl, hq6⟩
         have hb6 : Below w2.heap.size w5 w6 := hq6.below _
         have hb6' : Below w2.heap.size w2 w6 := hb5'.trans hb6))
  have hw6 : Below w.heap.size w w6 := hw2.trans (hb6'.mono hsz2)
  have ho6 := own_base (own_below ho2 hb6') hs1
  clear ho3 ho4 ho2
  cases yes with
  | true =>
    have hb : ((s.toNat : Int) != (S : Int)) = false := by have := of_decide_eq_true HY.out; rw [this]; simp
    go_wp2
    go_ret3
    exact ⟨_, fun _ => ⟨rfl, ho6⟩, fun h => by simp at h, hw6⟩
  | false =>
    have hb : ((s.toNat : Int) != (S : Int)) = true := by have := of_decide_eq_false HY.out; rw [bne_iff_ne]; omega
    go_wp2
    go_ret3
    exact ⟨.slice none 0 0, fun h => by simp at h, fun _ => rfl, hw6⟩

/-- The document's Decode. -/
theorem refDecode_any (w : World) (a : Option Addr) (c : Nat) (l : List UInt8) (hr : Rd w a c (B8 l)) :
    Calls Try.prog 75 #[.slice a l.length c] w fun e w' => ∃ r, e = .returned (decV r (decR l)) ∧ w'.ownsRow w.heap.size 5 1 r (decR l).1.length (B8 (decR l).1) ∧ Below w.heap.size w w' := by
  by_cases h8 : l.length < 8
  · refine (refDecode_no w a c l hr 2 (.inl ⟨h8, rfl⟩)).mono ?_
    rintro e w' ⟨rfl, hb⟩
    have e : decR l = ([], 0, 2) := by unfold decR; rw [if_pos h8]
    rw [e]
    exact ⟨_, rfl, World.ownsRow_nil _ _ _ _, hb⟩
  · by_cases hbig : 1048576 < getN (l.take 4)
    · refine (refDecode_no w a c l hr 5 (.inr ⟨by omega, .inl ⟨hbig, rfl⟩⟩)).mono ?_
      rintro e w' ⟨rfl, hb⟩
      have e : decR l = ([], 0, 5) := by unfold decR; rw [if_neg h8, if_pos hbig]
      rw [e]
      exact ⟨_, rfl, World.ownsRow_nil _ _ _ _, hb⟩
    · by_cases hsh : l.length < 8 + getN (l.take 4)
      · refine (refDecode_no w a c l hr 2 (.inr ⟨by omega, .inr ⟨by omega, hsh, rfl⟩⟩)).mono ?_
        rintro e w' ⟨rfl, hb⟩
        have e : decR l = ([], 0, 2) := by unfold decR; rw [if_neg h8, if_neg hbig, if_pos hsh]
        rw [e]
        exact ⟨_, rfl, World.ownsRow_nil _ _ _ _, hb⟩
      · refine (refDecode_full w a c l hr (by omega) _ rfl (by omega) (by omega) _ rfl).mono ?_
        intro e w' h
        exact decPost_any l h8 hbig hsh h
end Go.Proofs.Yteenbobblbehoaa
