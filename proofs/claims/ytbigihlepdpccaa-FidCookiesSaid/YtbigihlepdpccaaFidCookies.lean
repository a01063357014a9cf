/- FidCookies: for all numbers the law returns true. Conditions: none. -/
import Derived.Test.YtbigihlepdpccaaCookie
import Derived.Test.YtbigihlepdpccaaText
namespace Go.Proofs.Ytbigihlepdpccaa
open Go Go.RowKit

set_option maxRecDepth 100000 in
set_option maxHeartbeats 1000000 in
theorem fidCookies_any (v : Int) (key : UInt64) (salt bb : UInt32) (w : World) (_hv : -9223372036854775808 ≤ v ∧ v ≤ 9223372036854775807) :
    Calls Try.prog 3 #[.int .i64 v, .int .u64 key.toNat, .int .u32 salt.toNat, .int .u32 bb.toNat] w fun e w' => e = .returned (.bool true) ∧ Below w.heap.size w w' := by
  have c1 := cookie_any v key salt
  have c2 := refCookie_any v key salt
  have c3 := cookie_any v key (salt ^^^ bb)
  have hx := u32_bin_xor salt bb
  have ho := ck_other v key salt bb
  obtain ⟨s2, hs2⟩ : ∃ s, s = salt ^^^ bb := ⟨_, rfl⟩
  rw [← hs2] at c3 hx ho
  obtain ⟨a, ha⟩ : ∃ a, a = ck v key salt := ⟨_, rfl⟩
  obtain ⟨b, hb⟩ : ∃ b, b = ck v key s2 := ⟨_, rfl⟩
  rw [← ha] at c1 c2 ho
  rw [← hb] at c3 ho
  have hn : ((a.toNat : Int) != (a.toNat : Int)) = false := by simp
  have he : ((((bb.toNat : Int) == 0) : Bool) == (((b.toNat : Int) == (a.toNat : Int)) : Bool)) = true := by
    have e1 : ((bb.toNat : Int) == 0) = (bb == 0) := by
      rw [Bool.eq_iff_iff, beq_iff_eq, beq_iff_eq, ← UInt32.toNat_inj]
      show (bb.toNat : Int) = 0 ↔ bb.toNat = 0
      omega
    have e2 : ((b.toNat : Int) == (a.toNat : Int)) = (b == a) := by
      rw [Bool.eq_iff_iff, beq_iff_eq, beq_iff_eq, ← UInt32.toNat_inj]
      omega
    rw [e1, e2, ho]
    simp
  clear ho hs2 ha hb _hv
  go_enter Try.func3, Try.ntmps3
  go_wp2_with fail
  refine (c1 w).mono ?_
  rintro e w1 ⟨rfl, hw⟩
  subst hw
  go_wp2_with fail
  refine (c2 _).mono ?_
  rintro e w1 ⟨rfl, hw⟩
  subst hw
  go_wp2_with fail
  refine (c3 _).mono ?_
  rintro e w1 ⟨rfl, hw⟩
  subst hw
  go_wp2_with fail
  refine (fidKnown_any _).mono ?_
  rintro e w1 ⟨rfl, hb⟩
  go_wp2
  go_ret
  exact ⟨rfl, hb⟩
end Go.Proofs.Ytbigihlepdpccaa
