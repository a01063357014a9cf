/- fsm's commands, one contract for all. Conditions: its own premises. -/
import Derived.Test.YteenbobblbehoaaFsmGrow
import Derived.Test.YteenbobblbehoaaFsmAssign
import Derived.Test.YteenbobblbehoaaFsmChangeT
import Derived.Test.YteenbobblbehoaaFsmChangeF
namespace Go.Proofs.Yteenbobblbehoaa
open Go Go.RowKit

set_option maxRecDepth 100000 in
set_option maxHeartbeats 1000000 in
theorem nothing_any (w : World) (F : Nat → Prop) (t : Nat) (L : List Vl) (hT : TabI w F t L) (v : Value) : Calls Try.prog 22 #[ptrV t, v] w (AnsP w F t (([], 0), L)) := by
  have HT := Lib.hid hT
  clear hT
  go_enter Try.func22, Try.ntmps22
  go_wp2
  go_ret2
  exact AnsP.no 0 HT.out (Below.refl _ _)
theorem AnsP.slice {w w' : World} {F : Nat → Prop} {t : Nat} {X : (List Int × Nat) × List Vl} {e : Ending} (h : AnsP w F t X e w') : ∃ a n c k, e = .returned (.tuple #[.slice a n c, .int .i64 k]) ∧ AnsP w F t X (.returned (.tuple #[.slice a n c, .int .i64 k])) w' := by
  obtain ⟨a, c, rfl, h1⟩ := h
  exact ⟨a, _, c, _, rfl, a, c, rfl, h1⟩

set_option maxRecDepth 100000 in
set_option maxHeartbeats 1000000 in
theorem freeze_any (w : World) (F : Nat → Prop) (t : Nat) (L : List Vl) (hT : TabI w F t L) (a : Option Addr) (c n : Nat) (id ep st : Int) (nodes : List Int) (hn : n = nodes.length + 3) (hr : Rd w a c (BI (id :: ep :: st :: nodes))) (hl : nodes.length ≤ 64) (hok : OkL L) :
    Calls Try.prog 26 #[ptrV t, .slice a n c] w (AnsP w F t (changeL L id ep st nodes true)) := by
  have hC := changeT_any w F t L hT a c n id ep st nodes hn hr hl hok
  obtain ⟨X, hX⟩ : ∃ X, X = changeL L id ep st nodes true := ⟨_, rfl⟩
  rw [← hX] at hC ⊢
  have HC := Lib.hid hC
  clear hC hX hT hr hn hl hok
  unfold ptrV at HC ⊢
  go_enter Try.func26, Try.ntmps26
  go_wp2_with fail
  refine HC.out.mono ?_
  intro e w1 h1
  obtain ⟨a1, n1, c1, k1, rfl, h2⟩ := h1.slice
  have H2 := Lib.hid h2
  clear h1 h2
  go_wp2
  go_ret2
  exact H2.out
set_option maxRecDepth 100000 in
set_option maxHeartbeats 1000000 in
theorem place_any (w : World) (F : Nat → Prop) (t : Nat) (L : List Vl) (hT : TabI w F t L) (a : Option Addr) (c n : Nat) (id ep st : Int) (nodes : List Int) (hn : n = nodes.length + 3) (hr : Rd w a c (BI (id :: ep :: st :: nodes))) (hl : nodes.length ≤ 64) (hok : OkL L) :
    Calls Try.prog 27 #[ptrV t, .slice a n c] w (AnsP w F t (changeL L id ep st nodes false)) := by
  have hC := changeF_any w F t L hT a c n id ep st nodes hn hr hl hok
  obtain ⟨X, hX⟩ : ∃ X, X = changeL L id ep st nodes false := ⟨_, rfl⟩
  rw [← hX] at hC ⊢
  have HC := Lib.hid hC
  clear hC hX hT hr hn hl hok
  unfold ptrV at HC ⊢
  go_enter Try.func27, Try.ntmps27
  go_wp2_with fail
  refine HC.out.mono ?_
  intro e w1 h1
  obtain ⟨a1, n1, c1, k1, rfl, h2⟩ := h1.slice
  have H2 := Lib.hid h2
  clear h1 h2
  go_wp2
  go_ret2
  exact H2.out

/-- The function of a kind. -/
def fkN (kd : Nat) : Nat := if kd = 1 then 22 else if kd = 2 then 23 else if kd = 3 then 24 else if kd = 4 then 25 else if kd = 5 then 26 else 27
theorem mayB_kd {kd : Int} {n : Nat} (h : mayB kd n = true) : ∃ k : Nat, kd = (k : Int) ∧ 1 ≤ k ∧ k ≤ 6 := by
  unfold mayB at h
  refine ⟨kd.toNat, ?_⟩
  by_cases h1 : 1 ≤ kd ∧ kd ≤ 6
  · omega
  · rw [if_neg (by omega), if_neg (by omega), if_neg (by omega), if_neg (by omega), if_neg (by omega)] at h
    cases h
theorem tblC_at (t : Nat) (v : Value) (k : Nat) (h1 : 1 ≤ k) (h6 : k ≤ 6) : (tblC t v)[1 + k]? = some (fnV t (fkN k)) := by
  rcases (by omega : k = 1 ∨ k = 2 ∨ k = 3 ∨ k = 4 ∨ k = 5 ∨ k = 6) with rfl | rfl | rfl | rfl | rfl | rfl <;> rfl
theorem op_any (w : World) (F : Nat → Prop) (t : Nat) (L : List Vl) (hT : TabI w F t L) (hok : OkL L) (kd : Nat) (h1 : 1 ≤ kd) (h6 : kd ≤ 6) (a : Option Addr) (c n : Nat) (l : List Int) (hn : n = l.length) (hr : TRd w 3 a c (BI l)) (hl : l.length ≤ 64) (hm : mayB kd n = true) :
    Calls Try.prog (fkN kd) #[ptrV t, .slice a n c] w (AnsP w F t (opL L kd l)) := by
  rcases (by omega : kd = 1 ∨ kd = 2 ∨ kd = 3 ∨ kd = 4 ∨ kd = 5 ∨ kd = 6) with rfl | rfl | rfl | rfl | rfl | rfl
  · exact nothing_any w F t L hT _
  · exact grow_any w F t L hT a c n l hn hr.1 hl
  · have : n = 2 := by simpa [mayB] using hm
    subst this
    match l, hn with
    | [x, y], _ => exact assign_any w F t L hT a c x y hr hok
  · have : n = 1 := by simpa [mayB] using hm
    subst this
    match l, hn with
    | [x], _ => exact look_any w F t L hT a c x hr.1 hok
  · have h3 : 3 ≤ n := by simpa [mayB] using hm
    match l, hn with
    | [], hn => simp at hn; omega
    | [_], hn => simp at hn; omega
    | [_, _], hn => simp at hn; omega
    | x :: y :: z :: r, hn => exact freeze_any w F t L hT a c n x y z r (by simpa using hn) hr.1 (by simp at hl; omega) hok
  · have h3 : 3 ≤ n := by simpa [mayB] using hm
    match l, hn with
    | [], hn => simp at hn; omega
    | [_], hn => simp at hn; omega
    | [_, _], hn => simp at hn; omega
    | x :: y :: z :: r, hn => exact place_any w F t L hT a c n x y z r (by simpa using hn) hr.1 (by simp at hl; omega) hok
end Go.Proofs.Yteenbobblbehoaa
