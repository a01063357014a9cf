/- WireBack: for every input the law returns true, and each argument reads behind the call as it read before. Conditions: none. -/
import Derived.Test.YtalccaolbadncaaRows
import Derived.Test.YtalccaolbadncaaWireBack
import Derived.WalkKit
import Derived.ProofKit
import Derived.OpenShut
import Derived.ShutString
import Derived.ChangeOld
import Derived.SizedLaws
import Derived.Below
import Derived.Deep.Grids
import Derived.Lib.SmallJoins
import Derived.Test.YtalccaolbadncaaSized
namespace Go.Proofs.Ytalccaolbadncaa.wireBack
open Go.ChangeShapes Go.WideShapes Go.ChangeAt Go.RowKit
open Go.ChangeMaps (open_string shut_string)
set_option linter.unusedVariables false

theorem own : ownKnob Try.prog.godebug = none := by kernel_rfl
theorem laidOut : laidOutB Try.prog = true := by kernel_rfl

set_option maxRecDepth 100000 in
theorem lifted (os : Os) (started : os.Started) (H : Type) (enc : TypeId × Value → H) :
    ReturnsInHanded {} Try.checked os 6 .any (Rows.wireBackSpec.pre6 enc Try.prog Try.f6 Rows.wireBackRow.domain false) (Rows.wireBackSpec.post enc Try.prog Try.f6 false true false false) := by
  refine returnsInHanded_of_change_sized (C := Try.checked) own started (by kernel_rfl) Try.func6
    (ChangeSpec.witness6 (enc := enc) (C := Try.checked) false ⟨#[], #[.agg #[.int .i64 0, .int .i64 0, .int .i64 0, .slice none 0 0, .slice none 0 0], .slice none 0 0], []⟩ 8 (by kernel_rfl) (by kernel_rfl) (by kernel_rfl) (by kernel_rfl)) ?_
  intro W base args ds gs before hval0 hW hcnd hsz0 _
  have hsz : (DataW.weightsEach Try.prog (Try.f6.params.toList ++ Rows.wireBackSpec.plain.varTypes Try.prog) (ds ++ gs)).all (· ≤ reachBytes) = true := hsz0
  have hval : ∀ (j : Nat) t v, Try.f6.params[j]? = some t → args[j]? = some v → Value.okWide Try.prog W .any base t v := hval0
  have hW' := hW
  obtain ⟨p, q, hA0, hV, rfl, hfz, hnd⟩ := hW
  have hA : DataW.TrodAll enc Try.prog W 0 (fun _ => true) true Try.f6.params.toList args.toList ds p := hA0
  rw [Try.params6] at hA hval hsz
  obtain ⟨v0, vs0, d0, ds0, p0, q0, hargs, rfl, rfl, h0, r0⟩ := trodAll_cons hA
  obtain ⟨v1, vs1, d1, ds1, p1, q1, rfl, rfl, rfl, h1, r1⟩ := trodAll_cons r0
  obtain ⟨rfl, rfl, rfl⟩ := trodAll_nil r1
  obtain rfl : args = #[v0, v1] := by clear hsz hsz0; cases args; simp_all
  obtain ⟨rfl, rfl⟩ := trodVars_none hV
  have k0 := h0
  have lt0 : ∀ x ∈ p0, x.block < W.heap.size := by obtain ⟨m, hm⟩ := k0; exact DataW.trod_lt m _ _ _ hm
  obtain ⟨f0a, f0b, f0c, f0d, f0e, y0a, y0b, y0c, y0d, y0e, m0, rfl, hd0, -, t0a, t0b, t0c, t0d, t0e⟩ := open_agg5 Try.underlying25 (by kernel_rfl) (by kernel_rfl) (hval 0 25 v0 rfl rfl) h0
  obtain ⟨i0a, e0a, -, w0a⟩ := DataW.trod_int Try.underlying3 t0a
  obtain ⟨i0b, e0b, -, w0b⟩ := DataW.trod_int Try.underlying3 t0b
  obtain ⟨i0c, e0c, -, w0c⟩ := DataW.trod_int Try.underlying3 t0c
  have sf0 : (DataW.weightsEach Try.prog [3, 3, 3, 22, 23] [y0a.1, y0b.1, y0c.1, y0d.1, y0e.1]).all (· ≤ reachBytes) = true := by
    have hs := hsz
    rw [hd0] at hs
    exact sized_field hs (j := 0) (t := 25) rfl rfl Try.underlying25
  obtain ⟨an0, cn0, n0, e0d, wn0, bn0, zn0⟩ : ∃ (a : Option Addr) (cap : Nat) (l : List Int), f0d = .slice a l.length cap ∧ Rd W a cap (BI l) ∧ (∀ n ∈ l, -9223372036854775808 ≤ n ∧ n ≤ 9223372036854775807) ∧ cap * 8 ≤ 140737488351232 := by
    rcases open_ints Try.underlying22 Try.underlying3 (by kernel_rfl) t0d with ⟨hcs, _⟩ | ⟨x, l, c, zs, hcs, _, hl, hm, hz, hx, hcell, hwz⟩
    · simp at hcs
      exact ⟨none, 0, [], hcs, Rd.none W, by simp, by omega⟩
    · simp at hcs
      have hd := (Prod.mk.inj hx).1
      have hs := sf0
      rw [hd] at hs
      have hs2 := sized_slice hs (j := 3) (t := 22) (e := 3) rfl rfl Try.underlying22
      rw [show Try.prog.bytesOf 3 = 8 from by kernel_rfl] at hs2
      simp only [lits, List.length_map, List.length_take, List.length_drop, reachBytes] at hs2
      simp only [if_true] at hz
      obtain ⟨l', e, hr, hb⟩ := Rd.ofInts hl hm (by simpa using hz) hcell hwz
      exact ⟨_, _, l', by rw [hcs, e], hr, hb, by omega⟩
  obtain ⟨a0, cap0, l0, e0e, w0, z0⟩ : ∃ (a : Option Addr) (cap : Nat) (l : List UInt8), f0e = .slice a l.length cap ∧ Rd W a cap (B8 l) ∧ cap * 1 ≤ 140737488351232 := by
    rcases open_ints Try.underlying23 Try.underlying5 (by kernel_rfl) t0e with ⟨hcs, _⟩ | ⟨x, l, c, zs, hcs, _, hl, hm, hz, hx, hcell, hwz⟩
    · simp at hcs
      exact ⟨none, 0, [], hcs, Rd.none W, by omega⟩
    · simp at hcs
      have hd := (Prod.mk.inj hx).1
      have hs := sf0
      rw [hd] at hs
      have hs2 := sized_slice hs (j := 4) (t := 23) (e := 5) rfl rfl Try.underlying23
      rw [show Try.prog.bytesOf 5 = 1 from by kernel_rfl] at hs2
      simp only [lits, List.length_map, List.length_take, List.length_drop, reachBytes] at hs2
      simp only [if_true] at hz
      obtain ⟨l', e, hr⟩ := Rd.ofBytes hl hm (by simpa using hz) hcell hwz
      exact ⟨_, _, l', by rw [hcs, e], hr, by omega⟩
  simp only [List.cons.injEq, and_true] at e0a e0b e0c
  subst e0a e0b e0c e0d e0e
  obtain ⟨a1, len1, cap1, rfl⟩ := okWide_slice Try.underlying23 (hval 1 23 v1 rfl rfl)
  have k1 := h1
  have lt1 : ∀ x ∈ p1, x.block < W.heap.size := by obtain ⟨m, hm⟩ := k1; exact DataW.trod_lt m _ _ _ hm
  obtain ⟨l1, e1, w1, z1⟩ : ∃ l : List UInt8, len1 = l.length ∧ Rd W a1 cap1 (B8 l) ∧ cap1 * 1 ≤ 140737488351232 := by
    obtain ⟨fuel, hf⟩ := h1
    rcases open_ints Try.underlying23 Try.underlying5 (by kernel_rfl) hf with ⟨hcs, _⟩ | ⟨x, l, c, zs, hcs, _, hl, hm, hz, hx, hcell, hwz⟩
    · simp [Value.cells] at hcs
      obtain ⟨rfl, rfl, rfl⟩ := hcs
      exact ⟨[], rfl, Rd.none W, by omega⟩
    · simp [Value.cells] at hcs
      obtain ⟨rfl, rfl, rfl⟩ := hcs
      have hd := (Prod.mk.inj hx).1
      have hs := hsz
      rw [hd] at hs
      have hs2 := sized_slice hs (j := 1) (t := 23) (e := 5) rfl rfl Try.underlying23
      rw [show Try.prog.bytesOf 5 = 1 from by kernel_rfl] at hs2
      simp only [lits, List.length_map, List.length_take, List.length_drop, reachBytes] at hs2
      simp only [if_true] at hz
      obtain ⟨l', h1, h2⟩ := Rd.ofBytes hl hm (by simpa using hz) hcell hwz
      exact ⟨l', h1, h2, by omega⟩
  subst e1
  clear hA0 hval0
  refine (wireBack_any i0a i0b i0c an0 cn0 n0 a0 cap0 l0 a1 cap1 l1 W wn0 bn0 w0 zn0 z0 w1 z1).mono fun e W' ⟨he, bel⟩ => ?_
  subst he
  exact ⟨_, rfl, _, _, _, [], _, [], hW', trodAll_mk1 (shut_bool Try.underlying4 _), (trodAll_cons_mk (Below.trod laidOut (by kernel_rfl) (of_decide_eq_true (by kernel_rfl)) k0 bel lt0) (trodAll_cons_mk (Below.trod laidOut (by kernel_rfl) (of_decide_eq_true (by kernel_rfl)) k1 bel lt1) trodAll_mk0)), rfl, bel.frame _, fun h => by cases h⟩

theorem over : Rows.wireBackRow.holds Try.pinned (OpenSpec.ofChange Rows.wireBackSpec) :=
  OpenClaim.holds_of_wide 6 Try.f6 rfl rfl rfl rfl rfl rfl rfl ⟨rfl, rfl, rfl, rfl, rfl⟩ rfl rfl rfl rfl rfl (by kernel_rfl) Try.func6 (by kernel_rfl)
    (of_decide_eq_true (by kernel_rfl)) (by unfold Func.isWrapper; first | (rw [if_pos (by decide +kernel)]; kernel_rfl) | (rw [if_neg (by decide +kernel)]; exact ⟨rfl, rfl⟩))
    (fun os started H enc _ => lifted os started H enc)

/-- The statement. -/
theorem proved : Rows.WireBackSaid := over
#print axioms proved
end Go.Proofs.Ytalccaolbadncaa.wireBack
