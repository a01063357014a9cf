/- net's Twice; a nil Net: the contracts. Conditions: each contract's own premises. -/
import Derived.Test.YtoagneajlfglcaaNetTake
namespace Go.Proofs.Ytoagneajlfglcaa
open Go Go.RowKit

/-- The messages behind a Send. -/
def sendL (L : List Ms) (M : Ms) : List Ms := if L.length < 4096 then L ++ [M] else L
def twiceL (L : List Ms) (i : Int) : List Ms := match atL L i with | some M => sendL L M | none => L
def twiceB (L : List Ms) (i : Int) : Bool := (atL L i).isSome && decide (L.length < 4096)
theorem atL_mem {L : List Ms} {i : Int} {M : Ms} (h : atL L i = some M) : M ∈ L := by
  unfold atL at h
  split at h
  · exact List.mem_of_getElem? h
  · cases h

set_option maxRecDepth 100000 in
set_option maxHeartbeats 2000000 in
theorem twice_any (w : World) (B g : Nat) (L : List Ms) (h : NetI w B g L) (hL : L.length ≤ 4096) (hl : ∀ M ∈ L, M.nums.length ≤ 100000000 ∧ M.data.length ≤ 100000000) (i : Int) :
    Calls Try.prog 8 #[.pointer (some ⟨g, 0, none⟩), .int .i64 i] w fun e w' => e = .returned (.bool (twiceB L i)) ∧ NetI w' B g (twiceL L i) ∧ Below B w w' := by
  have hBw : B ≤ w.heap.size := by
    obtain ⟨⟨v, xs, h1, _, _⟩, h4⟩ := h
    have := h1.lt; omega
  have hat := at_any w B g L h hL hl i
  cases ha : atL L i with
  | none =>
    rw [ha] at hat
    have HAT := Lib.hid hat
    have HI := Lib.hid h
    have hb : twiceB L i = false := by unfold twiceB; rw [ha]; rfl
    have hl' : twiceL L i = L := by unfold twiceL; rw [ha]
    rw [hb, hl']
    clear hat h hl ha hb hl'
    go_enter Try.func8, Try.ntmps8
    go_wp2_with fail
    refine HAT.out.mono ?_
    rintro e w1 ⟨x, rfl, hx1, hb1⟩
    have hx1 : MsR w1 x.toList Ms.zero := hx1
    obtain ⟨an, cn, ad, cd, rfl⟩ := MsR.vals hx1
    have hI1 := HI.out.kept hb1
    have hI2 := fun o => hI1.kept ((Below.refl w1.heap.size w1).alloc (Nat.le_refl _) o)
    have H2 := Lib.hid hI2
    have HB1 := Lib.hid hb1
    clear hI1 hI2 hx1 hb1
    go_wp2
    go_ret
    exact ⟨rfl, H2.out _, (HB1.out.mono hBw).trans ((Below.refl B w1).alloc (by have := HB1.out.size; omega) _)⟩
  | some M =>
    rw [ha] at hat
    have hlM := hl M (atL_mem ha)
    have HAT := Lib.hid hat
    have HI := Lib.hid h
    have hb : twiceB L i = decide (L.length < 4096) := by unfold twiceB; rw [ha]; rfl
    have hl' : twiceL L i = sendL L M := by unfold twiceL; rw [ha]
    rw [hb, hl']
    obtain ⟨r, hr⟩ : ∃ r, r = decide (L.length < 4096) := ⟨_, rfl⟩
    rw [← hr]
    have HR := Lib.hid hr
    clear hat h hl ha hb hl' hr
    go_enter Try.func8, Try.ntmps8
    go_wp2_with fail
    refine HAT.out.mono ?_
    rintro e w1 ⟨x, rfl, hx1, hb1⟩
    have hx1 : MsR w1 x.toList M := hx1
    have hI1 := HI.out.kept hb1
    obtain ⟨an, cn, ad, cd, hxe, t1, t2⟩ := hx1
    obtain rfl : x = #[.int .i64 M.fr, .int .i64 M.to, .int .i64 M.kd, .slice an M.nums.length cn, .slice ad M.data.length cd] := by rw [← Array.toList_inj, hxe]
    obtain ⟨W2, hW2⟩ : ∃ W2, W2 = w1.alloc (.cells #[.int .i64 M.fr, .int .i64 M.to, .int .i64 M.kd, .slice an M.nums.length cn, .slice ad M.data.length cd] 31) := ⟨_, rfl⟩
    have hb2 : Below w1.heap.size w1 W2 := by rw [hW2]; exact (Below.refl _ _).alloc (Nat.le_refl _) _
    have hs := send_any W2 B g L (hI1.kept hb2) hL M an ad cn cd (t1.1.kept hb2) (t2.1.kept hb2) hlM.1 hlM.2
    unfold msV at hs
    rw [← HR.out] at hs
    have HS := Lib.hid hs
    have HW2 := Lib.hid hW2
    have HB1 := Lib.hid (hb1.trans (hb2.mono hb1.size))
    clear hs hW2 hb1 hb2 hI1 t1 t2 hxe
    go_wp2_with fail
    rw [← HW2.out]
    refine HS.out.mono ?_
    rintro e w3 ⟨rfl, hI3, hb3⟩
    have HI3 : Hid (NetI w3 B g (sendL L M)) := Lib.hid hI3
    have HB3 := Lib.hid hb3
    clear hI3 hb3
    go_wp2
    go_ret
    exact ⟨rfl, HI3.out, (HB1.out.mono hBw).trans HB3.out⟩
end Go.Proofs.Ytoagneajlfglcaa
