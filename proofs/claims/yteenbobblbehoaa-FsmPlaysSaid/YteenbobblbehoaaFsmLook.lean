/- fsm's look: the contract. Conditions: its own premises. -/
import Derived.Test.YteenbobblbehoaaFsmChange
import Derived.Deep.RegionHeld3
namespace Go.Proofs.Yteenbobblbehoaa
open Go Go.RowKit

/-- What a drawn region reads of a row. -/
theorem rowS {w V : World} {p : Nat} {x0 x1 x2 x3 x4 x6 : Value} (h : Below w.heap.size w V) (hp : p < w.heap.size) (c0 : w.cell? ⟨p, 0, none⟩ = some x0) (c1 : w.cell? ⟨p, 1, none⟩ = some x1) (c2 : w.cell? ⟨p, 2, none⟩ = some x2) (c3 : w.cell? ⟨p, 3, none⟩ = some x3) (c4 : w.cell? ⟨p, 4, none⟩ = some x4) (c6 : w.cell? ⟨p, 6, none⟩ = some x6) :
    V.cell? ⟨p, 0, none⟩ = some x0 ∧ V.cell? ⟨p, 1, none⟩ = some x1 ∧ V.cell? ⟨p, 2, none⟩ = some x2 ∧ V.cell? ⟨p, 3, none⟩ = some x3 ∧ V.cell? ⟨p, 4, none⟩ = some x4 ∧ V.cell? ⟨p, 6, none⟩ = some x6 ∧ Below w.heap.size w V :=
  ⟨(h.cell hp).trans c0, (h.cell hp).trans c1, (h.cell hp).trans c2, (h.cell hp).trans c3, (h.cell hp).trans c4, (h.cell hp).trans c6, h⟩
/-- Numbers that were laid behind one another, as an answer. -/
theorem ans_app {w w' : World} {F : Nat → Prop} {t m c' : Nat} {a' : Option Addr} {L' : List Vl} {nodes hd : List Int} (hm : m = hd.length + nodes.length) (hT : TabI w' (NewF F w a') t L')
    (ho : w'.ownsRow w.heap.size 3 1 (.slice a' m c') m (BI hd ++ BI nodes)) (hO : Off F w w') :
    AnsP w F t ((hd ++ nodes, 0), L') (.returned (.tuple #[.slice a' m c', .int .i64 0])) w' := by
  have hl : m = (hd ++ nodes).length := by rw [List.length_append]; exact hm
  subst hl
  refine ⟨a', c', rfl, ?_, hT, hO⟩
  show w'.ownsRow w.heap.size 3 1 (.slice a' (hd ++ nodes).length c') (hd ++ nodes).length (BI (hd ++ nodes))
  rw [BI_append]
  exact ho

set_option maxRecDepth 100000 in
set_option maxHeartbeats 4000000 in
theorem look_any (w : World) (F : Nat → Prop) (t : Nat) (L : List Vl) (hT : TabI w F t L) (a : Option Addr) (c : Nat) (id : Int) (hr : Rd w a c (BI [id])) (hok : OkL L) :
    Calls Try.prog 25 #[ptrV t, .slice a 1 c] w (AnsP w F t (lookL L id, L)) := by
  have HT := Lib.hid hT
  have hle := hr.1
  simp only [BI_length, List.length_cons, List.length_nil] at hle
  obtain ⟨b, o, rfl, u0⟩ := hr.cs.bi 0 (by simp)
  simp only [List.getElem_cons_zero, Nat.add_zero] at u0
  cases hof : ofL L id with
  | none =>
    have hX : lookL L id = ([], 7) := by unfold lookL; rw [hof]
    rw [hX]
    have hO := of_none w F t L hT id hof
    have HO := Lib.hid hO
    clear hO hX hof hT hr hle
    unfold ptrV at HO ⊢
    go_enter Try.func25, Try.ntmps25
    go_wp2_with fail
    refine HO.out.mono ?_
    rintro e w1 ⟨rfl, hw1⟩
    have hw1 := hw1.symm
    subst hw1
    go_wp2
    go_ret2
    exact AnsP.no 7 HT.out (Below.refl _ _)
  | some V' =>
    obtain ⟨i, rfl, hV, hi⟩ := ofL_some hof
    obtain ⟨ra, rc, p, r1, ⟨rb, ro, rfl, r2⟩, r3, r4, r5, r6⟩ := hT.row hV
    have hlt : i < L.length := (List.getElem?_eq_some_iff.1 hV).1
    obtain ⟨_, _, _, hLm⟩ := hT.head
    have hO := of_some w t rb ro L.length rc p i r1 r2 hlt hLm
    have HO := Lib.hid hO
    obtain ⟨an, cn, v1, v2, v3⟩ := r5
    have hXL : lookL L ((i : Int) + 1) = ([(i : Int) + 1, V'.st, V'.ep, oneI V'.fr] ++ V'.nodes, 0) := by unfold lookL; rw [hof]
    rw [hXL]
    have hml : V'.nodes.length ≤ 64 := by have := hok V' (List.mem_of_getElem? hV); unfold OkV at this; omega
    obtain ⟨m, hm⟩ : ∃ m, m = V'.nodes.length := ⟨_, rfl⟩
    rw [← hm] at v1 hml
    have c0 := v1.cell 0
    have c1 := v1.cell 1
    have c2 := v1.cell 2
    have c3 := v1.cell 3
    have c4 := v1.cell 4
    have c6 := v1.cell 6
    simp only [List.getElem?_toArray, List.getElem?_cons_succ, List.getElem?_cons_zero] at c0 c1 c2 c3 c4 c6
    have hpl : p < w.heap.size := v1.lt
    have HV1 := Lib.hid v1
    have HV2 := Lib.hid v2.1
    have HM := Lib.hid hm
    clear hO hof hT hr v1 v2 v3 r6 hi r1 r2 r3 r4 hV hLm hlt hXL hm hle hok
    unfold ptrV at HO ⊢
    go_enter Try.func25, Try.ntmps25
    go_wp2_with fail
    refine HO.out.mono ?_
    rintro e w1 ⟨rfl, hw1⟩
    have hw1 := hw1.symm
    subst hw1
    obtain ⟨wr, hwr⟩ : ∃ wr : World, wr = w := ⟨_, rfl⟩
    subst hwr
    go_upto_region 4 with (fail)
    go_region_held3 (fun V => V.cell? ⟨p, 0, none⟩ = some (.int .i64 ((i : Int) + 1)) ∧ V.cell? ⟨p, 1, none⟩ = some (.int .i64 V'.st) ∧ V.cell? ⟨p, 2, none⟩ = some (.int .i64 V'.ep) ∧ V.cell? ⟨p, 3, none⟩ = some (.slice an m cn) ∧ V.cell? ⟨p, 4, none⟩ = some (.bool V'.fr) ∧ V.cell? ⟨p, 6, none⟩ = some (.int .i64 V'.key) ∧ Below wr.heap.size wr V)
      (first
        | exact rowS (Below.refl _ _).drew hpl c0 c1 c2 c3 c4 c6
        | exact rowS ((Below.refl _ _).drew.alloc (Nat.le_refl _) _) hpl c0 c1 c2 c3 c4 c6
        | exact rowS (((Below.refl wr.heap.size wr).drew.alloc (Nat.le_refl _) _).trans hb4) hpl c0 c1 c2 c3 c4 c6)
      (first
        | (go_at_call 31; refine (one_any _ _).mono ?_; rintro e w3 ⟨rfl, rfl⟩)
        | ((with_reducible refine StepAt 41 ?_)
           (refine At.out (step_app (by rfl) (.tmp 35) (.tmp 40) 27 (by rfl) elemN rfl wr.heap.size _ 4 [.int .i64 ((i : Int) + 1), .int .i64 V'.st, .int .i64 V'.ep, .int .i64 (oneI V'.fr)] (by rfl) (World.ownsRow_lit (e := 3) (size := 1) wr.drew #[.int .i64 ((i : Int) + 1), .int .i64 V'.st, .int .i64 V'.ep, .int .i64 (oneI V'.fr)] 4 (Nat.le_refl _) (by unfold maxLen; omega) rfl) an m cn (BI V'.nodes) (by rfl) (by rw [BI_length]; exact HM.out) (Rd.kept (w := wr.drew) HV2.out ((Below.refl _ _).alloc (Nat.le_refl _) _)) (BI_one _) (by unfold maxLen; omega) (by omega) (by simp) ?_))
           (intro v4 w4 ho4 hb4)
           (obtain ⟨a4, c4', rfl, _⟩ := Rd.ofOwn ho4)))
    all_goals
      have hbf : Below wr.heap.size wr w4 := ((Below.refl wr.heap.size wr).drew.alloc (Nat.le_refl _) _).trans hb4
      have HBF := Lib.hid hbf
      have HO4 := Lib.hid ho4
      clear hbf ho4 hb4
      go_wp2
      go_ret2
      exact ans_app (hd := [(i : Int) + 1, V'.st, V'.ep, oneI V'.fr]) (by have := HM.out; simp only [List.length_cons, List.length_nil]; omega) ((HT.out.kept HBF.out).mono fun k h _ => .inl h) HO4.out (Off.ofBelow HBF.out)
end Go.Proofs.Yteenbobblbehoaa
