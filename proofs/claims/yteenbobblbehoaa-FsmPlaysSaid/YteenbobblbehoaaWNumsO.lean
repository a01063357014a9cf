/- The document's Numbers: the contract. Conditions: each contract's own premises. -/
import Derived.Test.YteenbobblbehoaaWDecO
namespace Go.Proofs.Yteenbobblbehoaa
open Go Go.RowKit

/-- Numbers of 64 bits, as cells. -/
def B64 (l : List Nat) : List Value := l.map fun (n : Nat) => Value.int .u64 (n : Int)
theorem B64_length (l : List Nat) : (B64 l).length = l.length := by simp [B64]
theorem B64_snoc (l : List Nat) (n : Nat) : B64 (l ++ [n]) = B64 l ++ [.int .u64 (n : Int)] := by simp [B64]
theorem B64_get (l : List Nat) (k : Nat) (hk : k < l.length) : (B64 l)[k]? = some (.int .u64 (l[k] : Int)) := by simp [B64, hk]
theorem elemU : ElemT Try.prog 124 68 1 (.int .u64 0) 8 := ⟨Try.underlying124, info_parts (by kernel_rfl)⟩

/-- What Numbers gives. -/
def NumP (w : World) (a : Option Addr) (c : Nat) (l : List UInt8) (r : Option (List Nat × List UInt8)) (e : Ending) (w' : World) : Prop :=
  Below w.heap.size w w' ∧ ((r = none ∧ e = .returned (.tuple #[.slice none 0 0, .slice none 0 0, .bool false])) ∨
    ∃ vs rest av cv a' c', r = some (vs, rest) ∧ e = .returned (.tuple #[.slice av vs.length cv, .slice a' rest.length c', .bool true]) ∧ w'.ownsRow w.heap.size 68 1 (.slice av vs.length cv) vs.length (B64 vs) ∧ Sub a c (B8 l) a' c' (B8 rest))
theorem NumP.no {w w' : World} {a : Option Addr} {c : Nat} {l : List UInt8} (hb : Below w.heap.size w w') : NumP w a c l none (.returned (.tuple #[.slice none 0 0, .slice none 0 0, .bool false])) w' := ⟨hb, .inl ⟨rfl, rfl⟩⟩
theorem NumP.yes {w w' : World} {a a' av : Option Addr} {c c' cv n m : Nat} {l : List UInt8} {vs : List Nat} {rest : List UInt8} (hn : n = vs.length) (hm : m = rest.length) (hb : Below w.heap.size w w') (ho : w'.ownsRow w.heap.size 68 1 (.slice av n cv) n (B64 vs)) (hs : Sub a c (B8 l) a' c' (B8 rest)) :
    NumP w a c l (some (vs, rest)) (.returned (.tuple #[.slice av n cv, .slice a' m c', .bool true])) w' := by
  subst hn hm
  exact ⟨hb, .inr ⟨vs, rest, av, cv, a', c', rfl, rfl, ho, hs⟩⟩

set_option maxRecDepth 100000 in
set_option maxHeartbeats 1000000 in
theorem refNumbers_any (w : World) (a : Option Addr) (c : Nat) (l : List UInt8) (n : Nat) (hn : n ≤ 1000) (hr : Rd w a c (B8 l)) :
    Calls Try.prog 76 #[.slice a l.length c, .int .i64 (n : Int)] w (NumP w a c l (numsR n l)) := by
  obtain ⟨X, hX⟩ : ∃ X, X = numsR n l := ⟨_, rfl⟩
  rw [← hX]
  have HX := Lib.hid hX
  clear hX
  go_enter Try.func76, Try.ntmps76
  go_wp2
  go_loopw [0, 7, 8] (fun s0 s7 s8 wr => ∃ (k : Nat) (vs : List Nat) (r : List UInt8) (a' : Option Addr) (c' : Nat) (av : Option Addr) (cv : Nat), k ≤ n ∧ s8 = .int .i64 k ∧ s0 = .slice a' r.length c' ∧ s7 = .slice av k cv ∧ Hid (numsR k l = some (vs, r)) ∧ Sub a c (B8 l) a' c' (B8 r) ∧
    wr.ownsRow w.heap.size 68 1 (.slice av k cv) k (B64 vs) ∧ Below w.heap.size w wr) (fun _ _ s8 _ => n - (intOf s8).toNat)
  case atStart => exact ⟨0, [], l, a, c, none, 0, by omega, rfl, rfl, rfl, Lib.hid rfl, Sub.refl _ _ _, World.ownsRow_nil _ _ _ _, Below.refl _ _⟩
  case round =>
    obtain ⟨k, vs, r, a', c', av, cv, hk, rfl, rfl, rfl, HN, hs, ho, hb⟩ := hrel
    by_cases hlt : k < n
    · have hread := refRead_any wr a' c' r (hs _ (hr.kept hb))
      obtain ⟨v, j, E, hR⟩ : ∃ v j E, rd r = (v, j, E) := ⟨_, _, _, rfl⟩
      rw [hR] at hread
      unfold rdV at hread
      simp only at hread
      have HRd := Lib.hid hread
      have hki : (k : Int) < (n : Int) := by omega
      clear hread
      by_cases hE : E = 0
      · subst hE
        have hj := (rd_canon hR).2.2.1
        have hrep := numsR_yes HN.out (by rw [hR])
        rw [hR] at hrep
        simp only at hrep
        have HREP := Lib.hid hrep
        have HJ := Lib.hid hj
        have hz := hb.size
        clear hR hrep hj HN
        go_wp2_with fail
        refine HRd.out.mono ?_
        rintro e w1 ⟨rfl, hw⟩
        subst hw
        clear HRd
        go_wp2_with (with_reducible refine At.slot 28 ?_)
        refine At.out (wpList_app rfl (.tmp 25) (.tmp 27) 124 rfl elemU rfl w.heap.size (.slice av k cv) k (B64 vs) rfl (ho.alloc _) _ 1 1 [.int .u64 (v : Int)] rfl rfl (Rd.one _ _ _) (one_int _ _) (by unfold maxLen; omega) (by omega) (by simp; omega) ?_)
        intro v2 w2 ho2 hb2 _
        rw [← B64_snoc] at ho2
        have hb2' : Below w.heap.size w w2 := (hb.alloc hz _).trans hb2
        obtain ⟨a2, c2, rfl, _⟩ := Rd.ofOwn ho2
        clear ho hb2
        go_wp2_with (with_reducible refine At.slot 31 ?_)
        refine At.out (wpList_plW rfl (.tmp 29) (.tmp 30) rfl elemB a' r.length c' rfl .i64 j rfl HJ.out ?_)
        have hs2 : Sub a c (B8 l) (partA a' c' j) (c' - j) (B8 (r.drop j)) := hs.trans (by
          have := sub_drop a' c' (B8 r) j (by rw [B8_length]; exact HJ.out)
          rwa [← B8_drop] at this)
        have hlen : (r.drop j).length = r.length - j := List.length_drop
        have HL := Lib.hid hlen
        clear hlen
        go_wp2
        go_roundw
        case rel => exact ⟨k + 1, vs ++ [v], r.drop j, partA a' c' j, c' - j, a2, c2, by omega, by go_num, by rw [HL.out], rfl, HREP, hs2, ho2, hb2'⟩
        case measure => simp [intOf]; omega
      · have hno : X = none := by rw [HX.out]; exact numsR_no HN.out (by rw [hR]; exact hE) hlt
        have HNO := Lib.hid hno
        have hEi : ((E : Int) != 0) = true := by rw [bne_iff_ne]; omega
        clear hR hno hE
        go_wp2_with fail
        refine HRd.out.mono ?_
        rintro e w1 ⟨rfl, hw⟩
        subst hw
        clear HRd
        go_wp2
        go_ret3
        rw [HNO.out]
        exact NumP.no hb
    · obtain rfl : k = n := by omega
      have hyes : X = some (vs, r) := by rw [HX.out]; exact HN.out
      have hvl : k = vs.length := (numsR_len HN.out).1.symm
      have HVL := Lib.hid hvl
      have HYES := Lib.hid hyes
      clear hyes hvl
      go_wp2
      go_ret3
      rw [HYES.out]
      exact NumP.yes HVL.out rfl hb ho hs
end Go.Proofs.Yteenbobblbehoaa
