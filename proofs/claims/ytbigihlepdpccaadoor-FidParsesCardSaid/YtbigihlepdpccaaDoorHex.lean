/- fid's hex and decimal: the plain functions, the contracts. Conditions: each contract's own premises. -/
import Derived.Test.YtbigihlepdpccaaDoorCom0
import Derived.Laws.IdiomStrings
namespace Go.Proofs.YtbigihlepdpccaaDoor
open Go Go.RowKit

/-- A digit. -/
def hexD (n : Nat) : UInt8 := if n < 10 then UInt8.ofNat (48 + n) else UInt8.ofNat (87 + n)
def hexN (v j : Nat) : Nat := v / 2 ^ (60 - 4 * j) % 16
/-- The first j digits of 16, without noughts ahead of the last 'least'. -/
def hexP (v least : Nat) : Nat → List UInt8
  | 0 => []
  | j + 1 => if hexN v j = 0 ∧ (hexP v least j).length = 0 ∧ 4 * least ≤ 60 - 4 * j then [] else hexP v least j ++ [hexD (hexN v j)]
def hexL (v least : Nat) : List UInt8 := hexP v least 16
theorem hexP_le (v least : Nat) : ∀ j, (hexP v least j).length ≤ j
  | 0 => Nat.le_refl _
  | j + 1 => by
    have := hexP_le v least j
    unfold hexP
    split
    · simp
    · simp; omega
theorem hexP_skip (v least k : Nat) (h1 : hexN v k = 0) (h2 : (hexP v least k).length = 0) (h3 : 4 * least ≤ 60 - 4 * k) : hexP v least (k + 1) = [] := if_pos ⟨h1, h2, h3⟩
theorem hexP_next (v least k : Nat) (h : ¬ (hexN v k = 0 ∧ (hexP v least k).length = 0 ∧ 4 * least ≤ 60 - 4 * k)) : hexP v least (k + 1) = hexP v least k ++ [hexD (hexN v k)] := if_neg h
theorem hexL_pos (v least : Nat) (h : 1 ≤ least) : 0 < (hexL v least).length := by
  show 0 < (hexP v least (15 + 1)).length
  rw [hexP_next v least 15 (by omega)]
  simp
theorem hexD_lo (n : Nat) (h : n < 10) : (48 : Int) + (n : Int) = ((hexD n).toNat : Int) := by
  unfold hexD; rw [if_pos h, UInt8.toNat_ofNat', Nat.mod_eq_of_lt (by omega)]; omega
theorem hexD_hi (n : Nat) (h : ¬ n < 10) (h2 : n < 16) : (97 : Int) + (n : Int) - 10 = ((hexD n).toNat : Int) := by
  unfold hexD; rw [if_neg h, UInt8.toNat_ofNat', Nat.mod_eq_of_lt (by omega)]; omega
theorem hex_bits (v : UInt64) (m : Nat) : bits BinOp.and IntKind.u64 ((v.toNat : Int) / 2 ^ m) 15 % 256 = ((v.toNat / 2 ^ m % 16 : Nat) : Int) := by
  have h1 : (v.toNat : Int) / 2 ^ m = ((v.toNat / 2 ^ m : Nat) : Int) := by rw [Int.natCast_ediv, Int.natCast_pow]; rfl
  have h2 : (15 : Int) = ((15 : Nat) : Int) := rfl
  have hv := u64_lt v
  have hd : v.toNat / 2 ^ m ≤ v.toNat := Nat.div_le_self _ _
  rw [h1, h2, u64_and_nat _ _ (by omega) (by omega), show v.toNat / 2 ^ m &&& 15 = v.toNat / 2 ^ m % 16 from Nat.and_two_pow_sub_one_eq_mod _ 4]
  omega

set_option maxRecDepth 100000 in
set_option maxHeartbeats 400000 in
theorem hex_any (v : UInt64) (least : Nat) (hl1 : 1 ≤ least) (hl2 : least ≤ 16) (w : World) :
    Calls Tryd.prog 12 #[.int .u64 v.toNat, .int .i64 least] w fun e w' => e = .returned (.string ⟨(hexL v.toNat least).toArray⟩) ∧ Below w.heap.size w w' := by
  have hml : maxLen = 9223372036854775807 := by unfold maxLen; rfl
  have HML := Lib.hid hml; clear hml
  go_enter Tryd.func12, Tryd.ntmps12
  go_wp2
  go_loopw [5, 6] (fun s5 s6 wr => ∃ (k : Nat), k ≤ 16 ∧ s6 = .int .i64 (60 - 4 * (k : Int)) ∧ wr.ownsRow w.heap.size 5 1 s5 (hexP v.toNat least k).length (B8 (hexP v.toNat least k)) ∧ Below w.heap.size w wr)
    (fun _ s6 _ => (intOf s6 + 4).toNat)
  case atStart => exact ⟨0, by omega, rfl, World.ownsRow_nil _ _ _ _, Below.refl _ _⟩
  case round =>
    obtain ⟨k, hk, rfl, ho, hb⟩ := hrel
    obtain ⟨a, c, rfl, hrd⟩ := Rd.ofOwn ho
    by_cases hlt : k < 16
    · obtain ⟨m, hm⟩ : ∃ m : Nat, 60 - 4 * (k : Int) = m := ⟨60 - 4 * k, by omega⟩
      rw [hm]
      obtain ⟨pre, hpre⟩ : ∃ pre, pre = hexP v.toNat least k := ⟨_, rfl⟩
      rw [← hpre] at ho hrd ⊢
      have hplen := hexP_le v.toNat least k
      rw [← hpre] at hplen
      have hm60 : m ≤ 60 := by omega
      have hbit := hex_bits v m
      obtain ⟨n, hn⟩ : ∃ n, n = v.toNat / 2 ^ m % 16 := ⟨_, rfl⟩
      rw [← hn] at hbit
      have hn16 : n < 16 := by omega
      have hnk : hexN v.toNat k = n := by unfold hexN; rw [hn, show 60 - 4 * k = m from by omega]
      by_cases hA : n = 0 ∧ pre.length = 0 ∧ 4 * least ≤ m
      · obtain ⟨h0, h1, h2⟩ := hA
        have hnext := hexP_skip v.toNat least k (by omega) (by rw [← hpre]; exact h1) (by omega)
        subst h0
        obtain rfl := List.eq_nil_of_length_eq_zero h1
        have h3 : 4 * (least : Int) ≤ (m : Int) := by omega
        have hbit0 : bits BinOp.and IntKind.u64 ((v.toNat : Int) / 2 ^ m) 15 % 256 = 0 := hbit
        have HN := Lib.hid hnext
        have HM := Lib.hid hm
        clear hnext hm hpre hbit hn hnk h1 hn16
        go_wp2
        go_roundw
        case rel => exact ⟨k + 1, by omega, by have := HM.out; congr 1; push_cast; omega, by rw [HN.out]; exact ho, hb⟩
        case measure => simp [intOf]; omega
      · have hnext := hexP_next v.toNat least k (by rw [hnk, ← hpre]; omega)
        rw [hnk, ← hpre] at hnext
        have HN := Lib.hid hnext
        have HM := Lib.hid hm
        have HA := Lib.hid hA
        have hm0 : (0 : Int) ≤ m := by omega
        clear hnext hm hpre hn hnk hA
        have hwr : ∀ (x : UInt8), (wr.alloc (.cells #[.int .u8 (x.toNat : Int)] 5)).heap.size = wr.heap.size + 1 := fun x => by simp
        have hdone : ∀ (d : UInt8) (v1 : Value) (w1 : World), hexD n = d → w1.ownsRow w.heap.size 5 1 v1 (pre.length + 1) (B8 pre ++ [.int .u8 (d.toNat : Int)]) → Below w.heap.size (wr.alloc (.cells #[.int .u8 (d.toNat : Int)] 5)) w1 →
            ∃ k' : Nat, k' ≤ 16 ∧ Value.int .i64 ((m : Int) - 4) = .int .i64 (60 - 4 * (k' : Int)) ∧ w1.ownsRow w.heap.size 5 1 v1 (hexP v.toNat least k').length (B8 (hexP v.toNat least k')) ∧ Below w.heap.size w w1 := by
          rintro d v1 w1 rfl ho1 hb1
          refine ⟨k + 1, by omega, by have := HM.out; congr 1; push_cast; omega, ?_, (hb.alloc hb.size _).trans hb1⟩
          rw [HN.out, B8_append, List.length_append]
          exact ho1
        obtain ⟨d, hd⟩ : ∃ d, d = hexD n := ⟨_, rfl⟩
        have HD := Lib.hid hd
        by_cases h10 : n < 10
        · have hdig := hexD_lo n h10
          rw [← hd] at hdig
          have h10' : (n : Int) < 10 := by omega
          clear hd
          by_cases h0 : n = 0
          · have h0b : ((n : Int) == 0) = true := by rw [h0]; rfl
            by_cases hp0 : pre.length = 0
            · have hpb : ((pre.length : Int) == 0) = true := by rw [hp0]; rfl
              have hml : (m : Int) < 4 * (least : Int) := by have := HA.out; omega
              go_wp2_with (with_reducible refine At.slot 36 ?_)
              refine At.out (wpList_app rfl (.tmp 32) (.tmp 35) 38 rfl elemB rfl w.heap.size _ pre.length _ rfl (ho.alloc _) _ 1 1 [.int .u8 48] rfl rfl (Rd.one _ _ _) (one_int _ _) (by have := HML.out; omega) (by omega) (by have := hb.size; simp; omega) ?_)
              intro v1 w1 ho1 hb1 _
              have hr := hdone 48 v1 w1 (by rw [h0]; rfl) ho1 hb1
              clear hdone hb1 hb ho ho1
              go_wp2
              go_roundw
              case rel => exact hr
              case measure => simp [intOf]; omega
            · have hpb : ((pre.length : Int) == 0) = false := by rw [beq_eq_false_iff_ne]; omega
              go_wp2_with (with_reducible refine At.slot 36 ?_)
              refine At.out (wpList_app rfl (.tmp 32) (.tmp 35) 38 rfl elemB rfl w.heap.size _ pre.length _ rfl (ho.alloc _) _ 1 1 [.int .u8 48] rfl rfl (Rd.one _ _ _) (one_int _ _) (by have := HML.out; omega) (by omega) (by have := hb.size; simp; omega) ?_)
              intro v1 w1 ho1 hb1 _
              have hr := hdone 48 v1 w1 (by rw [h0]; rfl) ho1 hb1
              clear hdone hb1 hb ho ho1
              go_wp2
              go_roundw
              case rel => exact hr
              case measure => simp [intOf]; omega
          · have h0b : ((n : Int) == 0) = false := by rw [beq_eq_false_iff_ne]; omega
            go_wp2_with (with_reducible refine At.slot 36 ?_)
            refine At.out (wpList_app rfl (.tmp 32) (.tmp 35) 38 rfl elemB rfl w.heap.size _ pre.length _ rfl (ho.alloc _) _ 1 1 [.int .u8 (d.toNat : Int)] rfl rfl (Rd.one _ _ _) (one_int _ _) (by have := HML.out; omega) (by omega) (by have := hb.size; simp; omega) ?_)
            intro v1 w1 ho1 hb1 _
            have hr := hdone d v1 w1 HD.out.symm ho1 hb1
            clear hdone hb1 hb ho ho1
            go_wp2
            go_roundw
            case rel => exact hr
            case measure => simp [intOf]; omega
        · have hdig := hexD_hi n h10 hn16
          rw [← hd] at hdig
          have h10' : (10 : Int) ≤ n := by omega
          clear hd
          by_cases h0 : n = 0
          · omega
          · have h0b : ((n : Int) == 0) = false := by rw [beq_eq_false_iff_ne]; omega
            go_wp2_with (with_reducible refine At.slot 42 ?_)
            refine At.out (wpList_app rfl (.tmp 37) (.tmp 41) 38 rfl elemB rfl w.heap.size _ pre.length _ rfl (ho.alloc _) _ 1 1 [.int .u8 (d.toNat : Int)] rfl rfl (Rd.one _ _ _) (one_int _ _) (by have := HML.out; omega) (by omega) (by have := hb.size; simp; omega) ?_)
            intro v1 w1 ho1 hb1 _
            have hr := hdone d v1 w1 HD.out.symm ho1 hb1
            clear hdone hb1 hb ho ho1
            go_wp2
            go_roundw
            case rel => exact hr
            case measure => simp [intOf]; omega
    · obtain rfl : k = 16 := by omega
      obtain ⟨g, cap, hv, _⟩ := own_pos ho (hexL_pos v.toNat least hl1)
      simp only [Value.slice.injEq, true_and] at hv
      obtain ⟨rfl, rfl⟩ := hv
      have hconv := run_convert_bytes_back (P := Tryd.prog) wr 38 9 5 ⟨g, 0, none⟩ c (hexL v.toNat least) Tryd.underlying38 Tryd.underlying5 Tryd.underlying9
        (fun j hj => by rw [Addr.add_lit, Nat.zero_add]; exact own_cell8n ho j hj)
      rw [show hexL v.toNat least = hexP v.toNat least 16 from rfl] at hconv
      obtain ⟨pre, hpre⟩ : ∃ pre, pre = hexP v.toNat least 16 := ⟨_, rfl⟩
      rw [← hpre] at hconv ⊢
      have HP := Lib.hid hpre
      clear hpre ho hrd
      go_wp2
      go_ret
      exact ⟨by rw [HP.out]; rfl, hb⟩
end Go.Proofs.YtbigihlepdpccaaDoor
