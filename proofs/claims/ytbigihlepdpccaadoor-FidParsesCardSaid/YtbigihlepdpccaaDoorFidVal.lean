/- fid's value: what digits of a base say. -/
import Derived.Test.YtbigihlepdpccaaDoorFidL
import Derived.Test.YtbigihlepdpccaaDoorText
namespace Go.Proofs.YtbigihlepdpccaaDoor
open Go Go.RowKit

/-- '[]byte(s)': the bytes in a new row. -/
theorem bytes_conv (l : List UInt8) (w : World) : ∃ c w1, (convert 9 38 (.string ⟨l.toArray⟩)).run Tryd.prog w = .ok (.slice (some ⟨w.heap.size, 0, none⟩) l.length c) w1 ∧ Below w.heap.size w w1 ∧ Cs w1 (some ⟨w.heap.size, 0, none⟩) (B8 l) := by
  have h := run_bytes_of_string (P := Tryd.prog) w 9 38 5 ⟨l.toArray⟩ Tryd.underlying9 Tryd.underlying38 Tryd.underlying5
  refine ⟨_, _, h, ((Below.refl _ _).drew).alloc (Nat.le_refl _) _, ?_⟩
  intro j u hu
  refine ⟨w.heap.size, 0, rfl, ?_⟩
  have hsz : (bytesRow ⟨l.toArray⟩ (grownCap w (ByteArray.mk l.toArray).size 0 5))[0 + j]? = some u := by
    have hj : j < l.length := by
      have := (List.getElem?_eq_some_iff.1 hu).1
      rwa [B8_length] at this
    rw [Nat.zero_add]
    unfold bytesRow
    rw [Array.getElem?_append_left (by simpa using hj)]
    rw [← hu]
    simp [B8]
  rw [show w.heap.size = w.drew.heap.size from rfl, World.cell?_alloc_mark]
  exact hsz

set_option maxRecDepth 100000 in
set_option maxHeartbeats 1000000 in
theorem value_ok (base most : Nat) (l : List UInt8) (hb1 : 2 ≤ base) (hb2 : base ≤ 16) (hm : most ≤ 16) (h1 : 1 ≤ l.length) (h2 : l.length ≤ most) (hd : ∀ c ∈ l, DOk base c) (w : World) :
    Calls Tryd.prog 16 #[.string ⟨l.toArray⟩, .int .u64 base, .int .i64 most] w fun e w' => e = .returned (.tuple #[.int .u64 (valN base l : Nat), .bool true]) ∧ Below w.heap.size w w' := by
  have hml : maxLen = 9223372036854775807 := by unfold maxLen; rfl
  have HML := Lib.hid hml; clear hml
  have hsz : (ByteArray.mk l.toArray).size = l.length := str_size l
  have hc1 : ¬ (l.length : Int) < 1 := by omega
  have hc2 : ¬ (most : Int) < (l.length : Int) := by omega
  obtain ⟨cp, w1, hconv, hbw, hcs⟩ := bytes_conv l w
  go_enter Tryd.func16, Tryd.ntmps16
  go_wp2
  have HB := Lib.hid hbw
  clear hbw hconv
  go_loopw [8, 24] (fun s8 s24 wr => ∃ (k : Nat), k ≤ l.length ∧ s24 = .int .i64 (k : Int) ∧ s8 = .int .u64 (valN base (l.take k) : Nat) ∧ wr = w1)
    (fun _ s24 _ => l.length - (intOf s24).toNat)
  case atStart => exact ⟨0, by omega, rfl, rfl, rfl⟩
  case round =>
    obtain ⟨k, hk, rfl, rfl, rfl⟩ := hrel
    by_cases hlt : k < l.length
    · obtain ⟨b, o, hbo, hcell⟩ := hcs.b8 k hlt
      simp only [Option.some.injEq, Addr.mk.injEq, and_true] at hbo
      obtain ⟨rfl, rfl⟩ := hbo
      rw [Nat.zero_add] at hcell
      have hlti : (k : Int) < (l.length : Int) := by omega
      obtain ⟨x, hx⟩ : ∃ x, x = l[k] := ⟨_, rfl⟩
      rw [← hx] at hcell
      have hok := hd x (by rw [hx]; exact List.getElem_mem hlt)
      have hnext : valN base (l.take (k + 1)) = valN base (l.take k) * base + dv x := by
        rw [List.take_succ_eq_append_getElem hlt, ← hx, valN_snoc]
      obtain ⟨o1, o2, o3⟩ := hok
      have hx8 := x.toNat_lt
      obtain ⟨V, hV⟩ : ∃ V, V = valN base (l.take k) := ⟨_, rfl⟩
      rw [← hV] at hnext ⊢
      have hlast : V * base + dv x < 18446744073709551616 := by
        have h3 := valN_lt base (l.take (k + 1)) (fun c hc => hd c (List.mem_of_mem_take hc))
        rw [hnext, List.length_take, Nat.min_eq_left (by omega)] at h3
        have h4 : base ^ (k + 1) ≤ 16 ^ 16 := Nat.le_trans (Nat.pow_le_pow_left hb2 _) (Nat.pow_le_pow_right (by decide) (by omega))
        omega
      obtain ⟨d, hd'⟩ : ∃ d, d = dv x := ⟨_, rfl⟩
      rw [← hd'] at hnext hlast o3
      have hfin : IntKind.u64.wrap (IntKind.u64.wrap ((V : Int) * (base : Int)) + (d : Int)) = ((V * base + d : Nat) : Int) := by
        have e1 : IntKind.u64.wrap ((V : Int) * (base : Int)) = (V : Int) * (base : Int) := by
          rw [← Int.natCast_mul]; exact IntWalk.u64_in _ (by omega)
        rw [e1, ← Int.natCast_mul, ← Int.natCast_add]; exact IntWalk.u64_in _ (by omega)
      have ho3 : ¬ (base : Int) ≤ (d : Int) := by omega
      have ho3' : (d : Int) < (base : Int) := by omega
      have ho48 : ¬ (x.toNat : Int) < 48 := by omega
      have HX := Lib.hid hx
      have HV := Lib.hid hV
      have HN := Lib.hid hnext
      by_cases h97 : 97 ≤ x.toNat
      · have hn : IntKind.u64.wrap (IntKind.u64.wrap (IntKind.u64.wrap (x.toNat : Int) - 97) + 10) = (d : Int) := by
          have e0 : d = x.toNat - 97 + 10 := by rw [hd']; unfold dv; rw [if_pos h97]
          rw [IntWalk.u64_in (x.toNat : Int) (by omega), IntWalk.u64_in ((x.toNat : Int) - 97) (by omega), IntWalk.u64_in _ (by omega)]
          omega
        have hn2 : (x.toNat : Int) - 97 + 10 = (d : Int) := by
          rw [hd']; unfold dv; rw [if_pos h97]; omega
        have g1 : (97 : Int) ≤ (x.toNat : Int) := by omega
        have g2 : (57 : Int) < (x.toNat : Int) := by omega
        have g3 : ¬ (x.toNat : Int) < 97 := by omega
        have HD := Lib.hid hd'
        clear hx hV hnext hd' o1 o2 o3 hlast h97 hd
        go_wp2
        go_roundw
        case rel => exact ⟨k + 1, by omega, by congr 1, by rw [HN.out, Int.natCast_add, Int.natCast_mul], trivial⟩
        case measure => simp [intOf]; omega
      · have hn : IntKind.u64.wrap (IntKind.u64.wrap (x.toNat : Int) - 48) = (d : Int) := by
          have e0 : d = x.toNat - 48 := by rw [hd']; unfold dv; rw [if_neg h97]
          rw [IntWalk.u64_in (x.toNat : Int) (by omega), IntWalk.u64_in _ (by omega)]
          omega
        have hn2 : (x.toNat : Int) - 48 = (d : Int) := by
          rw [hd']; unfold dv; rw [if_neg h97]; omega
        have g1 : ¬ (97 : Int) ≤ (x.toNat : Int) := by omega
        have g2 : ¬ (57 : Int) < (x.toNat : Int) := by omega
        have HD := Lib.hid hd'
        clear hx hV hnext hd' o1 o2 o3 hlast h97 hd
        go_wp2
        go_roundw
        case rel => exact ⟨k + 1, by omega, by congr 1, by rw [HN.out, Int.natCast_add, Int.natCast_mul], trivial⟩
        case measure => simp [intOf]; omega
    · obtain rfl : k = l.length := by omega
      have hnl : ¬ (l.length : Int) < (l.length : Int) := by omega
      rw [List.take_length]
      clear hcs hd
      go_wp2
      go_ret2
      exact ⟨rfl, HB.out⟩

/-- What value hands back, whatever it is given. -/
def VAny (e : Ending) : Prop := ∃ (V : Nat) (b : Bool), V < 18446744073709551616 ∧ e = .returned (.tuple #[.int .u64 (V : Int), .bool b])
theorem VAny.no : VAny (.returned (.tuple #[.int .u64 0, .bool false])) := ⟨0, false, by decide, rfl⟩
theorem wrap64_nat (z : Int) : ∃ V : Nat, V < 18446744073709551616 ∧ IntKind.u64.wrap z = (V : Int) := by
  have h1 : 0 ≤ IntKind.u64.wrap z ∧ IntKind.u64.wrap z < 18446744073709551616 := by
    rw [IntKind.wrap_u64]; omega
  exact ⟨(IntKind.u64.wrap z).toNat, by omega, by omega⟩

set_option maxRecDepth 100000 in
set_option maxHeartbeats 1000000 in
theorem value_any (base most : Nat) (l : List UInt8) (hm : most ≤ 16) (w : World) :
    Calls Tryd.prog 16 #[.string ⟨l.toArray⟩, .int .u64 base, .int .i64 most] w fun e w' => VAny e ∧ Below w.heap.size w w' := by
  have hml : maxLen = 9223372036854775807 := by unfold maxLen; rfl
  have HML := Lib.hid hml; clear hml
  have hsz : (ByteArray.mk l.toArray).size = l.length := str_size l
  have hb0 := Below.refl w.heap.size w
  by_cases h1 : l.length < 1
  · have hc1 : (l.length : Int) < 1 := by omega
    go_enter Tryd.func16, Tryd.ntmps16
    go_wp2
    go_ret2
    exact ⟨VAny.no, hb0⟩
  by_cases h2 : most < l.length
  · have hc1 : ¬ (l.length : Int) < 1 := by omega
    have hc2 : (most : Int) < (l.length : Int) := by omega
    go_enter Tryd.func16, Tryd.ntmps16
    go_wp2
    go_ret2
    exact ⟨VAny.no, hb0⟩
  have hc1 : ¬ (l.length : Int) < 1 := by omega
  have hc2 : ¬ (most : Int) < (l.length : Int) := by omega
  obtain ⟨cp, w1, hconv, hbw, hcs⟩ := bytes_conv l w
  go_enter Tryd.func16, Tryd.ntmps16
  go_wp2
  have HB := Lib.hid hbw
  clear hbw hconv hb0
  go_loopw [8, 24] (fun s8 s24 wr => ∃ (k V : Nat), k ≤ l.length ∧ V < 18446744073709551616 ∧ s24 = .int .i64 (k : Int) ∧ s8 = .int .u64 (V : Int) ∧ wr = w1)
    (fun _ s24 _ => l.length - (intOf s24).toNat)
  case atStart => exact ⟨0, 0, by omega, by omega, rfl, rfl, rfl⟩
  case round =>
    obtain ⟨k, V, hk, hV, rfl, rfl, rfl⟩ := hrel
    by_cases hlt : k < l.length
    · obtain ⟨b, o, hbo, hcell⟩ := hcs.b8 k hlt
      simp only [Option.some.injEq, Addr.mk.injEq, and_true] at hbo
      obtain ⟨rfl, rfl⟩ := hbo
      rw [Nat.zero_add] at hcell
      have hlti : (k : Int) < (l.length : Int) := by omega
      obtain ⟨x, hx⟩ : ∃ x, x = l[k] := ⟨_, rfl⟩
      rw [← hx] at hcell
      have hx8 := x.toNat_lt
      clear hx
      by_cases h48 : x.toNat < 48
      · have g0 : (x.toNat : Int) < 48 := by omega
        have g1 : ¬ (97 : Int) ≤ (x.toNat : Int) := by omega
        clear h48
        go_wp2
        go_ret2
        exact ⟨VAny.no, HB.out⟩
      have g0 : ¬ (x.toNat : Int) < 48 := by omega
      by_cases h97 : 97 ≤ x.toNat
      · have hn2 : (x.toNat : Int) - 97 + 10 = ((x.toNat - 97 + 10 : Nat) : Int) := by omega
        obtain ⟨d, hd⟩ : ∃ d, d = x.toNat - 97 + 10 := ⟨_, rfl⟩
        rw [← hd] at hn2
        have g1 : (97 : Int) ≤ (x.toNat : Int) := by omega
        have g2 : (57 : Int) < (x.toNat : Int) := by omega
        have g3 : ¬ (x.toNat : Int) < 97 := by omega
        have hd8 : d < 1000 := by omega
        by_cases hdb : base ≤ d
        · have g4 : (base : Int) ≤ (d : Int) := by omega
          clear hd hd8 h97 h48
          go_wp2
          go_ret2
          exact ⟨VAny.no, HB.out⟩
        · have g4 : ¬ (base : Int) ≤ (d : Int) := by omega
          obtain ⟨V1, hV1, hV2⟩ := wrap64_nat (IntKind.u64.wrap ((V : Int) * (base : Int)) + (d : Int))
          clear hd hd8 h97 h48
          go_wp2
          go_roundw
          case rel => exact ⟨k + 1, V1, by omega, hV1, by congr 1, rfl, trivial⟩
          case measure => simp [intOf]; omega
      · have g1 : ¬ (97 : Int) ≤ (x.toNat : Int) := by omega
        by_cases h57 : 57 < x.toNat
        · have g2 : (57 : Int) < (x.toNat : Int) := by omega
          have g3 : (x.toNat : Int) < 97 := by omega
          clear h57 h97 h48
          go_wp2
          go_ret2
          exact ⟨VAny.no, HB.out⟩
        have g2 : ¬ (57 : Int) < (x.toNat : Int) := by omega
        have hn2 : (x.toNat : Int) - 48 = ((x.toNat - 48 : Nat) : Int) := by omega
        obtain ⟨d, hd⟩ : ∃ d, d = x.toNat - 48 := ⟨_, rfl⟩
        rw [← hd] at hn2
        by_cases hdb : base ≤ d
        · have g4 : (base : Int) ≤ (d : Int) := by omega
          clear hd h97 h48
          go_wp2
          go_ret2
          exact ⟨VAny.no, HB.out⟩
        · have g4 : ¬ (base : Int) ≤ (d : Int) := by omega
          obtain ⟨V1, hV1, hV2⟩ := wrap64_nat (IntKind.u64.wrap ((V : Int) * (base : Int)) + (d : Int))
          clear hd h97 h48
          go_wp2
          go_roundw
          case rel => exact ⟨k + 1, V1, by omega, hV1, by congr 1, rfl, trivial⟩
          case measure => simp [intOf]; omega
    · obtain rfl : k = l.length := by omega
      have hnl : ¬ (l.length : Int) < (l.length : Int) := by omega
      clear hcs
      go_wp2
      go_ret2
      exact ⟨⟨V, true, hV, rfl⟩, HB.out⟩
end Go.Proofs.YtbigihlepdpccaaDoor
