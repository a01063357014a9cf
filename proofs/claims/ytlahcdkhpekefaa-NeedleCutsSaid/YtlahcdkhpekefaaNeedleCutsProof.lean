/- NeedleCuts: for every input the law returns true, and each argument reads behind the call as it read before. Conditions: none. -/
import Derived.Test.YtlahcdkhpekefaaRows
import Derived.Test.YtlahcdkhpekefaaNeedleCuts
import Derived.WalkKit
import Derived.ProofKit
import Derived.OpenShut
import Derived.ShutString
import Derived.ChangeOld
import Derived.SizedLaws
import Derived.Below
import Derived.Deep.Grids
import Derived.Lib.SmallJoins
namespace Go.Proofs.Ytlahcdkhpekefaa.needleCuts
open Go.ChangeShapes Go.WideShapes Go.ChangeAt Go.RowKit
open Go.ChangeMaps (open_string shut_string)
set_option linter.unusedVariables false

theorem own : ownKnob Try.prog.godebug = none := by kernel_rfl
theorem laidOut : laidOutB Try.prog = true := by kernel_rfl

set_option maxRecDepth 100000 in
theorem lifted (os : Os) (started : os.Started) (H : Type) (enc : TypeId × Value → H) :
    ReturnsInHanded {} Try.checked os 7 .any (Rows.needleCutsSpec.pre6 enc Try.prog Try.f7 Rows.needleCutsRow.domain false) (Rows.needleCutsSpec.post enc Try.prog Try.f7 false true false false) := by
  refine returnsInHanded_of_change (C := Try.checked) own started (by kernel_rfl) Try.func7
    (ChangeSpec.witness6 (enc := enc) (C := Try.checked) false ⟨#[], #[.agg #[.int .u64 0, .int .u32 0, .bool false, .slice none 0 0], .int .i64 0], []⟩ 8 (by kernel_rfl) (by kernel_rfl) (by kernel_rfl) (by kernel_rfl)) ?_
  intro W base args ds gs before hval0 hW hcnd _
  have hval : ∀ (j : Nat) t v, Try.f7.params[j]? = some t → args[j]? = some v → Value.okWide Try.prog W .any base t v := hval0
  have hW' := hW
  obtain ⟨p, q, hA0, hV, rfl, hfz, hnd⟩ := hW
  have hA : DataW.TrodAll enc Try.prog W 0 (fun _ => true) true Try.f7.params.toList args.toList ds p := hA0
  rw [Try.params7] at hA hval
  obtain ⟨v0, vs0, d0, ds0, p0, q0, hargs, rfl, rfl, h0, r0⟩ := trodAll_cons hA
  obtain ⟨v1, vs1, d1, ds1, p1, q1, rfl, rfl, rfl, h1, r1⟩ := trodAll_cons r0
  obtain ⟨rfl, rfl, rfl⟩ := trodAll_nil r1
  obtain rfl : args = #[v0, v1] := by cases args; simp_all
  obtain ⟨rfl, rfl⟩ := trodVars_none hV
  have k0 := h0
  have lt0 : ∀ x ∈ p0, x.block < W.heap.size := by obtain ⟨m, hm⟩ := k0; exact DataW.trod_lt m _ _ _ hm
  obtain ⟨f0a, f0b, f0c, f0d, y0a, y0b, y0c, y0d, m0, rfl, -, -, t0a, t0b, t0c, t0d⟩ := Go.Joins.open_agg4 Try.underlying26 (by kernel_rfl) (by kernel_rfl) (hval 0 26 v0 rfl rfl) h0
  obtain ⟨i0a, e0a, -, w0a⟩ := DataW.trod_int Try.underlying22 t0a
  obtain ⟨i0b, e0b, -, w0b⟩ := DataW.trod_int Try.underlying23 t0b
  obtain ⟨x0c, e0c, -⟩ := DataW.trod_bool Try.underlying4 t0c
  obtain ⟨x0a, hx0a⟩ := wf_u64_of w0a
  obtain ⟨x0b, hx0b⟩ := wf_u32_of w0b
  obtain ⟨a0, cap0, l0, e0d, w0⟩ : ∃ (a : Option Addr) (cap : Nat) (l : List UInt8), f0d = .slice a l.length cap ∧ Rd W a cap (B8 l) := by
    rcases open_ints Try.underlying24 Try.underlying5 (by kernel_rfl) t0d with ⟨hcs, _⟩ | ⟨x, l, c, zs, hcs, _, hl, hm, hz, _, hcell, hwz⟩
    · simp at hcs
      exact ⟨none, 0, [], hcs, Rd.none W⟩
    · simp at hcs
      obtain ⟨l', e, hr⟩ := Rd.ofBytes hl hm (by simpa using hz) hcell hwz
      exact ⟨_, _, l', by rw [hcs, e], hr⟩
  simp only [List.cons.injEq, and_true] at e0a e0b e0c
  subst e0a e0b e0c e0d hx0a hx0b
  obtain ⟨n1, rfl, rfl, rfl, wf1⟩ := open_int Try.underlying3 (hval 1 3 v1 rfl rfl) h1
  clear hA0 hval0
  refine (needleCuts_any x0a x0b x0c a0 cap0 l0 n1 W w0 (wf_i64_of wf1)).mono fun e W' ⟨he, bel⟩ => ?_
  subst he
  exact ⟨_, rfl, _, _, _, [], _, [], hW', trodAll_mk1 (shut_bool Try.underlying4 _), (trodAll_cons_mk (Below.trod laidOut (by kernel_rfl) (of_decide_eq_true (by kernel_rfl)) k0 bel lt0) (trodAll_cons_mk (shut_int Try.underlying3 wf1) trodAll_mk0)), rfl, bel.frame _, fun h => by cases h⟩

theorem over : Rows.needleCutsRow.holds Try.pinned (OpenSpec.ofChange Rows.needleCutsSpec) :=
  OpenClaim.holds_of_wide 7 Try.f7 rfl rfl rfl rfl rfl rfl rfl ⟨rfl, rfl, rfl, rfl, rfl⟩ rfl rfl rfl rfl rfl (by kernel_rfl) Try.func7 (by kernel_rfl)
    (of_decide_eq_true (by kernel_rfl)) (by unfold Func.isWrapper; first | (rw [if_pos (by decide +kernel)]; kernel_rfl) | (rw [if_neg (by decide +kernel)]; exact ⟨rfl, rfl⟩))
    (fun os started H enc _ => lifted os started H enc)

/-- The statement. -/
theorem proved : Rows.NeedleCutsSaid := over
#print axioms proved
end Go.Proofs.Ytlahcdkhpekefaa.needleCuts
