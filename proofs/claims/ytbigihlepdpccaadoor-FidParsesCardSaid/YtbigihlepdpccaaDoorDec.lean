/- fid's decimal: the plain function, the contract. Conditions: each contract's own premises. -/
import Derived.Test.YtbigihlepdpccaaDoorHex
namespace Go.Proofs.YtbigihlepdpccaaDoor
open Go Go.RowKit

def decF : Nat → Nat → List UInt8
  | 0, _ => []
  | f + 1, n => if n = 0 then [] else decF f (n / 10) ++ [UInt8.ofNat (48 + n % 10)]
def decL (n : Nat) : List UInt8 := decF 20 n
theorem decF_step (f n : Nat) (h : n ≠ 0) : decF (f + 1) n = decF f (n / 10) ++ [UInt8.ofNat (48 + n % 10)] := if_neg h
theorem decF_zero : ∀ f, decF f 0 = []
  | 0 => rfl
  | _ + 1 => if_pos rfl
theorem dec_digit (x : Nat) : (48 : Int) + ((x % 10 : Nat) : Int) = ((UInt8.ofNat (48 + x % 10)).toNat : Int) := by
  rw [UInt8.toNat_ofNat', Nat.mod_eq_of_lt (show 48 + x % 10 < 2 ^ 8 by omega)]; omega
theorem own_one (w : World) (u : Value) (e : TypeId) (base : Nat) (hb : base ≤ w.heap.size) : (w.alloc (.cells #[u] e)).ownsRow base e 1 (.slice (some ⟨w.heap.size, 0, none⟩) 1 1) 1 [u] := by
  have := World.ownsRow_lit (e := e) (size := 1) w #[u] 1 hb (by unfold maxLen; simp) rfl
  simpa using this

set_option maxRecDepth 100000 in
set_option maxHeartbeats 400000 in
theorem decimal_any (n : Nat) (hn1 : 1 ≤ n) (hn2 : n ≤ 9223372036854775807) (w : World) :
    Calls Tryd.prog 11 #[.int .i64 n] w fun e w' => e = .returned (.string ⟨(decL n).toArray⟩) ∧ Below w.heap.size w w' := by
  have hml : maxLen = 9223372036854775807 := by unfold maxLen; rfl
  have HML := Lib.hid hml; clear hml
  have HN1 := Lib.hid hn1; clear hn1
  go_enter Tryd.func11, Tryd.ntmps11
  go_wp2
  go_loopw [0, 3] (fun s0 s3 wr => ∃ (f x : Nat) (suf : List UInt8), f + suf.length = 20 ∧ s0 = .int .i64 x ∧ x ≤ 9223372036854775807 ∧ x < 10 ^ f ∧ (0 < x ∨ 0 < suf.length) ∧ Hid (decF f x ++ suf = decL n) ∧ wr.ownsRow w.heap.size 5 1 s3 suf.length (B8 suf) ∧ Below w.heap.size w wr)
    (fun s0 _ _ => (intOf s0).toNat)
  case atStart => exact ⟨20, n, [], rfl, rfl, hn2, by omega, .inl (by have := HN1.out; omega), Lib.hid (List.append_nil _), World.ownsRow_nil _ _ _ _, Below.refl _ _⟩
  case round =>
    obtain ⟨f, x, suf, hf, rfl, hx, hxf, hpos, HE, ho, hb⟩ := hrel
    obtain ⟨a, c, rfl, hrd⟩ := Rd.ofOwn ho
    by_cases hlt : 0 < x
    · have hxi : (0 : Int) < x := by omega
      have hdig : (48 : Int) + (x : Int) % 10 = ((UInt8.ofNat (48 + x % 10)).toNat : Int) := by rw [← dec_digit x]; omega
      obtain ⟨d, hd⟩ : ∃ d, d = UInt8.ofNat (48 + x % 10) := ⟨_, rfl⟩
      rw [← hd] at hdig
      obtain ⟨f, rfl⟩ : ∃ g, f = g + 1 := ⟨f - 1, by cases f with
        | zero => simp at hxf; omega
        | succ f => rfl⟩
      have hdec := decF_step f x (by omega)
      have HD := Lib.hid hd
      have HX := Lib.hid hxf
      have HP := Lib.hid hdec
      clear hd hxf hdec hpos
      go_wp2_with (with_reducible refine At.slot 14 ?_)
      refine At.out (wpList_app rfl (.tmp 12) (.tmp 13) 38 rfl elemB rfl w.heap.size _ 1 [.int .u8 (d.toNat : Int)] rfl (own_one wr _ _ _ hb.size) _ suf.length c (B8 suf) rfl (B8_length suf).symm (hrd.kept ((Below.refl _ _).alloc (Nat.le_refl _) _)) (B8_one _) (by have := HML.out; omega) (by omega) (by have := hb.size; simp; omega) ?_)
      intro v1 w1 ho1 hb1 _
      have hb2 := (hb.alloc hb.size (.cells #[.int .u8 (d.toNat : Int)] 5)).trans hb1
      clear hb hb1 ho hrd
      go_wp2
      go_roundw
      case rel =>
        refine ⟨f, x / 10, d :: suf, by simp; omega, by simp, by omega, ?_, .inr (by simp), ?_, ?_, hb2⟩
        · have := HX.out
          rw [Nat.pow_succ] at this
          omega
        · have h1 := HE.out
          rw [HP.out, ← HD.out] at h1
          have h2 : decF f (x / 10) ++ d :: suf = decL n := by rw [← h1]; simp
          exact Lib.hid h2
        · rw [List.length_cons, Nat.add_comm]; exact ho1
      case measure => simp [intOf]; omega
    · obtain rfl : x = 0 := by omega
      have hp : 0 < suf.length := by omega
      obtain ⟨g, cap, hv, _⟩ := own_pos ho hp
      simp only [Value.slice.injEq, true_and] at hv
      obtain ⟨rfl, rfl⟩ := hv
      have hconv := run_convert_bytes_back (P := Tryd.prog) wr 38 9 5 ⟨g, 0, none⟩ c suf Tryd.underlying38 Tryd.underlying5 Tryd.underlying9
        (fun j hj => by rw [Addr.add_lit, Nat.zero_add]; exact own_cell8n ho j hj)
      have hs : suf = decL n := by rw [← HE.out, decF_zero]; rfl
      have HS := Lib.hid hs
      clear hs ho hrd hpos
      go_wp2
      go_ret
      exact ⟨by rw [HS.out]; rfl, hb⟩
end Go.Proofs.YtbigihlepdpccaaDoor
