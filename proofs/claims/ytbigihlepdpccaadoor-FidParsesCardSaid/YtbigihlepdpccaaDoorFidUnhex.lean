/- The reference's unhex. -/
import Derived.Test.YtbigihlepdpccaaDoorFidRef
namespace Go.Proofs.YtbigihlepdpccaaDoor
open Go Go.RowKit

theorem bget (l : List UInt8) (k : Nat) (x : UInt8) (hk : k < l.length) (hx : x = l[k]) : ∀ h, (ByteArray.mk l.toArray)[k]'h = x := by
  intro h; rw [hx]; rfl

set_option maxRecDepth 100000 in
set_option maxHeartbeats 1000000 in
theorem unhex_ok (least most : Nat) (l : List UInt8) (hm : most ≤ 16) (h1 : least ≤ l.length) (h2 : l.length ≤ most) (hd : ∀ c ∈ l, DOk 16 c) (w : World) :
    Calls Tryd.prog 17 #[.string ⟨l.toArray⟩, .int .i64 least, .int .i64 most] w fun e w' => e = .returned (.tuple #[.int .u64 (valN 16 l : Nat), .bool true]) ∧ w' = w := by
  have hml : maxLen = 9223372036854775807 := by unfold maxLen; rfl
  have HML := Lib.hid hml; clear hml
  have hsz : (ByteArray.mk l.toArray).size = l.length := str_size l
  have hc1 : ¬ (l.length : Int) < least := by omega
  have hc2 : ¬ (most : Int) < (l.length : Int) := by omega
  go_enter Tryd.func17, Tryd.ntmps17
  go_wp2
  go_loopw [8, 9] (fun s8 s9 wr => ∃ (k : Nat), k ≤ l.length ∧ s9 = .int .i64 (k : Int) ∧ s8 = .int .u64 (valN 16 (l.take k) : Nat) ∧ wr = w)
    (fun _ s9 _ => l.length - (intOf s9).toNat)
  case atStart => exact ⟨0, by omega, rfl, rfl, rfl⟩
  case round =>
    obtain ⟨k, hk, rfl, rfl, rfl⟩ := hrel
    by_cases hlt : k < l.length
    · have hlti : (k : Int) < (l.length : Int) := by omega
      obtain ⟨x, hx⟩ : ∃ x, x = l[k] := ⟨_, rfl⟩
      have hget := bget l k x hlt hx
      have hok := hd x (by rw [hx]; exact List.getElem_mem hlt)
      have hnext : valN 16 (l.take (k + 1)) = valN 16 (l.take k) * 16 + dv x := by
        rw [List.take_succ_eq_append_getElem hlt, ← hx, valN_snoc]
      obtain ⟨o1, o2, o3⟩ := hok
      have hx8 := x.toNat_lt
      obtain ⟨V, hV⟩ : ∃ V, V = valN 16 (l.take k) := ⟨_, rfl⟩
      rw [← hV] at hnext ⊢
      have hlast : V * 16 + dv x < 18446744073709551616 := by
        have h3 := valN_lt 16 (l.take (k + 1)) (fun c hc => hd c (List.mem_of_mem_take hc))
        rw [hnext, List.length_take, Nat.min_eq_left (by omega)] at h3
        have h4 : 16 ^ (k + 1) ≤ 16 ^ 16 := Nat.pow_le_pow_right (by decide) (by omega)
        omega
      have HX := Lib.hid hx
      have HV := Lib.hid hV
      have HN := Lib.hid hnext
      have e1 : IntKind.u64.wrap ((V : Int) * 16) = (V : Int) * 16 := IntWalk.u64_in _ (by omega)
      by_cases h97 : 97 ≤ x.toNat
      · have e0 : dv x = x.toNat - 97 + 10 := by unfold dv; rw [if_pos h97]
        rw [e0] at hlast o3
        have e2 : IntKind.u64.wrap ((V : Int) * 16 + ((x.toNat : Int) - 97)) = (V : Int) * 16 + ((x.toNat : Int) - 97) := IntWalk.u64_in _ (by omega)
        have e3 : IntKind.u64.wrap ((V : Int) * 16 + ((x.toNat : Int) - 97) + 10) = ((V * 16 + (x.toNat - 97 + 10) : Nat) : Int) := by rw [IntWalk.u64_in _ (by omega)]; omega
        have g1 : (97 : Int) ≤ (x.toNat : Int) := by omega
        have g2 : ¬ (x.toNat : Int) ≤ 57 := by omega
        have g3 : (x.toNat : Int) ≤ 102 := by omega
        have g4 : (48 : Int) ≤ (x.toNat : Int) := by omega
        rw [e0] at hnext
        have HN2 := Lib.hid hnext
        have HE3 := Lib.hid e3
        have HE1 := Lib.hid e1
        have HE2 := Lib.hid e2
        clear hx hV hnext o1 o2 o3 hlast h97 hd e0 e1 e2 e3
        go_wp2
        go_roundw
        case rel => exact ⟨k + 1, by omega, by congr 1, by rw [HN2.out, HE1.out, HE2.out, HE3.out], trivial⟩
        case measure => simp [intOf]; omega
      · have e0 : dv x = x.toNat - 48 := by unfold dv; rw [if_neg h97]
        rw [e0] at hlast o3
        have e3 : IntKind.u64.wrap ((V : Int) * 16 + ((x.toNat : Int) - 48)) = ((V * 16 + (x.toNat - 48) : Nat) : Int) := by rw [IntWalk.u64_in _ (by omega)]; omega
        have g2 : (x.toNat : Int) ≤ 57 := by omega
        have g4 : (48 : Int) ≤ (x.toNat : Int) := by omega
        rw [e0] at hnext
        have HN2 := Lib.hid hnext
        have HE3 := Lib.hid e3
        have HE1 := Lib.hid e1
        clear hx hV hnext o1 o2 o3 hlast h97 hd e0 e1 e3
        go_wp2
        go_roundw
        case rel => exact ⟨k + 1, by omega, by congr 1, by rw [HN2.out, HE1.out, HE3.out], trivial⟩
        case measure => simp [intOf]; omega
    · obtain rfl : k = l.length := by omega
      have hnl : ¬ (l.length : Int) < (l.length : Int) := by omega
      rw [List.take_length]
      clear hd
      go_wp2
      go_ret2
      exact ⟨rfl, rfl⟩

set_option maxRecDepth 100000 in
set_option maxHeartbeats 1000000 in
theorem unhex_any (least most : Nat) (l : List UInt8) (hm : most ≤ 16) (hll : l.length < 4294967281) (w : World) :
    Calls Tryd.prog 17 #[.string ⟨l.toArray⟩, .int .i64 least, .int .i64 most] w fun e w' => VAny6 e ∧ w' = w := by
  have hml : maxLen = 9223372036854775807 := by unfold maxLen; rfl
  have HML := Lib.hid hml; clear hml
  have hsz : (ByteArray.mk l.toArray).size = l.length := str_size l
  have hno : VAny6 (.returned (.tuple #[.int .u64 0, .bool false])) := ⟨0, false, rfl⟩
  by_cases h1 : l.length < least
  · have hc1 : (l.length : Int) < least := by omega
    clear h1
    go_enter Tryd.func17, Tryd.ntmps17
    go_wp2
    go_ret2
    exact ⟨hno, rfl⟩
  by_cases h2 : most < l.length
  · have hc1 : ¬ (l.length : Int) < least := by omega
    have hc2 : (most : Int) < (l.length : Int) := by omega
    clear h1 h2
    go_enter Tryd.func17, Tryd.ntmps17
    go_wp2
    go_ret2
    exact ⟨hno, rfl⟩
  have hc1 : ¬ (l.length : Int) < least := by omega
  have hc2 : ¬ (most : Int) < (l.length : Int) := by omega
  clear h1
  go_enter Tryd.func17, Tryd.ntmps17
  go_wp2
  go_loopw [8, 9] (fun s8 s9 wr => ∃ (k : Nat) (V : UInt64), k ≤ l.length ∧ s9 = .int .i64 (k : Int) ∧ s8 = .int .u64 (V.toNat : Int) ∧ wr = w)
    (fun _ s9 _ => l.length - (intOf s9).toNat)
  case atStart => exact ⟨0, 0, by omega, rfl, rfl, rfl⟩
  case round =>
    obtain ⟨k, V, hk, rfl, rfl, rfl⟩ := hrel
    by_cases hlt : k < l.length
    · have hlti : (k : Int) < (l.length : Int) := by omega
      obtain ⟨x, hx⟩ : ∃ x, x = l[k] := ⟨_, rfl⟩
      have hget := bget l k x hlt hx
      have hx8 := x.toNat_lt
      have hw : ∀ z : Int, ∃ U : UInt64, IntKind.u64.wrap z = (U.toNat : Int) := fun z => by
        obtain ⟨U, h1, h2⟩ := wrap64_nat z
        exact ⟨UInt64.ofNat U, by rw [h2, UInt64.toNat_ofNat', Nat.mod_eq_of_lt (by omega)]⟩
      clear hx
      by_cases h48 : 48 ≤ x.toNat ∧ x.toNat ≤ 57
      · obtain ⟨U, hU⟩ := hw (IntKind.u64.wrap ((V.toNat : Int) * 16) + ((x.toNat : Int) - 48))
        have g2 : (x.toNat : Int) ≤ 57 := by omega
        have g4 : (48 : Int) ≤ (x.toNat : Int) := by omega
        have HU := Lib.hid hU
        clear h48 hU hw
        go_wp2
        go_roundw
        case rel => exact ⟨k + 1, U, by omega, by congr 1, by rw [HU.out], trivial⟩
        case measure => simp [intOf]; omega
      by_cases h97 : 97 ≤ x.toNat ∧ x.toNat ≤ 102
      · obtain ⟨U, hU⟩ := hw (IntKind.u64.wrap (IntKind.u64.wrap ((V.toNat : Int) * 16) + ((x.toNat : Int) - 97)) + 10)
        have g1 : (97 : Int) ≤ (x.toNat : Int) := by omega
        have g2 : ¬ (x.toNat : Int) ≤ 57 := by omega
        have g3 : (x.toNat : Int) ≤ 102 := by omega
        have g4 : (48 : Int) ≤ (x.toNat : Int) := by omega
        have HU := Lib.hid hU
        clear h48 h97 hU hw
        go_wp2
        go_roundw
        case rel => exact ⟨k + 1, U, by omega, by congr 1, by rw [HU.out], trivial⟩
        case measure => simp [intOf]; omega
      clear hw
      by_cases a1 : x.toNat < 48
      · have g1 : ¬ (48 : Int) ≤ (x.toNat : Int) := by omega
        have g2 : ¬ (97 : Int) ≤ (x.toNat : Int) := by omega
        clear h48 h97 a1
        go_wp2
        go_ret2
        exact ⟨hno, rfl⟩
      have g1 : (48 : Int) ≤ (x.toNat : Int) := by omega
      have g2 : ¬ (x.toNat : Int) ≤ 57 := by omega
      by_cases a2 : x.toNat < 97
      · have g3 : ¬ (97 : Int) ≤ (x.toNat : Int) := by omega
        clear h48 h97 a1 a2
        go_wp2
        go_ret2
        exact ⟨hno, rfl⟩
      · have g3 : (97 : Int) ≤ (x.toNat : Int) := by omega
        have g4 : ¬ (x.toNat : Int) ≤ 102 := by omega
        clear h48 h97 a1 a2
        go_wp2
        go_ret2
        exact ⟨hno, rfl⟩
    · obtain rfl : k = l.length := by omega
      have hnl : ¬ (l.length : Int) < (l.length : Int) := by omega
      go_wp2
      go_ret2
      exact ⟨⟨V, true, rfl⟩, rfl⟩
end Go.Proofs.YtbigihlepdpccaaDoor
