/- The document's Twice: the contract. Conditions: its own premises. -/
import Derived.Test.YtoagneajlfglcaaNetRefAt
namespace Go.Proofs.Ytoagneajlfglcaa
open Go Go.RowKit

set_option maxRecDepth 100000 in
set_option maxHeartbeats 2000000 in
theorem refTwice_f (w : World) (F : Nat → Prop) (g : Nat) (L : List Ms) (h : NetF 41 w F g L) (hL : L.length ≤ 4096) (hl : ∀ M ∈ L, M.nums.length ≤ 100000000 ∧ M.data.length ≤ 100000000) (i : Int) :
    Calls Try.prog 18 #[.pointer (some ⟨g, 0, none⟩), .int .i64 i] w fun e w' => e = .returned (.bool (twiceB L i)) ∧ NetF 41 w' (grew F w w') g (twiceL L i) ∧ Off F w w' := by
  have hat := refAt_o w F g L h hL hl i
  cases ha : atL L i with
  | none =>
    rw [ha] at hat
    have HAT := Lib.hid hat
    have HI := Lib.hid h
    have hb : twiceB L i = false := by unfold twiceB; rw [ha]; rfl
    have hl' : twiceL L i = L := by unfold twiceL; rw [ha]
    rw [hb, hl']
    clear hat h hl ha hb hl'
    go_enter Try.func18, Try.ntmps18
    go_wp2_with fail
    refine HAT.out.mono ?_
    rintro e w1 ⟨x, rfl, hx1, hb1⟩
    have hx1 : MsR w1 x.toList Ms.zero := hx1.toR
    obtain ⟨an, cn, ad, cd, rfl⟩ := MsR.vals hx1
    have hI1 := HI.out.kept hb1
    have hI2 := fun o => hI1.kept ((Below.refl w1.heap.size w1).alloc (Nat.le_refl _) o)
    have H2 := Lib.hid hI2
    have HB1 := Lib.hid hb1
    clear hI1 hI2 hx1 hb1
    go_wp2
    go_ret
    have hbb := fun o => HB1.out.trans ((Below.refl w.heap.size w1).alloc HB1.out.size o)
    exact ⟨rfl, (H2.out _).grewn, Off.ofBelow (hbb _)⟩
  | some M =>
    rw [ha] at hat
    have hlM := hl M (atL_mem ha)
    have HAT := Lib.hid hat
    have HI := Lib.hid h
    have hb : twiceB L i = decide (L.length < 4096) := by unfold twiceB; rw [ha]; rfl
    have hl' : twiceL L i = sendL L M := by unfold twiceL; rw [ha]
    rw [hb, hl']
    obtain ⟨r, hr⟩ : ∃ r, r = decide (L.length < 4096) := ⟨_, rfl⟩
    rw [← hr]
    have HR := Lib.hid hr
    clear hat h hl ha hb hl' hr
    go_enter Try.func18, Try.ntmps18
    go_wp2_with fail
    refine HAT.out.mono ?_
    rintro e w1 ⟨x, rfl, hx1, hb1⟩
    have hx1 : MsR w1 x.toList M := hx1.toR
    have hI1 := HI.out.kept hb1
    obtain ⟨an, cn, ad, cd, hxe, t1, t2⟩ := hx1
    obtain rfl : x = #[.int .i64 M.fr, .int .i64 M.to, .int .i64 M.kd, .slice an M.nums.length cn, .slice ad M.data.length cd] := by rw [← Array.toList_inj, hxe]
    obtain ⟨W2, hW2⟩ : ∃ W2, W2 = w1.alloc (.cells #[.int .i64 M.fr, .int .i64 M.to, .int .i64 M.kd, .slice an M.nums.length cn, .slice ad M.data.length cd] 31) := ⟨_, rfl⟩
    have hb2 : Below w1.heap.size w1 W2 := by rw [hW2]; exact (Below.refl _ _).alloc (Nat.le_refl _) _
    have hs := refSend_f W2 F g L (hI1.kept hb2) hL M an ad cn cd (t1.1.kept hb2) (t2.1.kept hb2) hlM.1 hlM.2
    unfold msV at hs
    rw [← HR.out] at hs
    have HS := Lib.hid hs
    have HW2 := Lib.hid hW2
    have HB1 := Lib.hid (hb1.trans (hb2.mono hb1.size))
    clear hs hW2 hb1 hb2 hI1 t1 t2 hxe
    go_wp2_with fail
    rw [← HW2.out]
    refine HS.out.mono ?_
    rintro e w3 ⟨rfl, hI3, hb3⟩
    have HI3 : Hid (NetF 41 w3 (grew F W2 w3) g (sendL L M)) := Lib.hid hI3
    have HB3 := Lib.hid hb3
    clear hI3 hb3
    go_wp2
    go_ret
    have hoo : Off F w w3 := (Off.ofBelow HB1.out).then HB3.out
    refine ⟨rfl, HI3.out.sub (fun q hq => hq.elim .inl fun h => .inr ⟨Nat.le_trans HB1.out.size h.1, h.2⟩) ?_, hoo⟩
    rintro q (hq | hq)
    · exact HI3.out.lt q (.inl hq)
    · exact hq.2
end Go.Proofs.Ytoagneajlfglcaa
