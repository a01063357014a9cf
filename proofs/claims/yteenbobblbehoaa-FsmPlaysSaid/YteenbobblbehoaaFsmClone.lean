/- slices.Clone of numbers: the contract; append at a step. Conditions: each contract's own premises. -/
import Derived.Test.YteenbobblbehoaaFsmOf
import Derived.Lib.SliceRun
import Derived.Deep.RegionLaw
import Derived.Maps.AppendAt
import Derived.Test.YteenbobblbehoaaSlice
namespace Go.Proofs.Yteenbobblbehoaa
open Go Go.RowKit

theorem elemN : ElemT Try.prog 27 3 1 (.int .i64 0) 8 := ⟨Try.underlying27, info_parts (by kernel_rfl)⟩
theorem elemP : ElemT Try.prog 54 61 1 (.pointer none) 8 := ⟨Try.underlying54, info_parts (by kernel_rfl)⟩
theorem cloneN_any (w : World) (a : Option Addr) (c n : Nat) (l : List Int) (hn : n = l.length) (hr : Rd w a c (BI l)) (hl : l.length ≤ 100000000) :
    Calls Try.prog 47 #[.slice a n c] w fun e w' => ∃ a' c', e = .returned (.slice a' n c') ∧ w'.ownsRow w.heap.size 3 1 (.slice a' n c') n (BI l) ∧ Below w.heap.size w w' := by
  have q22 : ∀ (w : World) (a : Option Addr) (n c n' c' : Nat), (binOp .eql 27 (.slice a n c) (.slice none n' c')).run Try.prog w = .ok (.bool a.isNone) w := fun w a n c n' c' => Lib.run_eql_slice_nil w _ _ a n c n' c' Try.underlying27
  have HN := Lib.hid hn; clear hn
  have hn8 : n ≤ 100000000 := by have := HN.out; omega
  cases a with
  | none =>
    have h0 := hr.2.2.1 rfl
    have h1 := hr.1
    rw [BI_length] at h1
    obtain rfl : l = [] := List.eq_nil_of_length_eq_zero (by omega)
    obtain rfl : n = 0 := HN.out
    clear h1 hr
    subst h0
    go_enter Try.func47, Try.ntmps47
    go_wp2
    go_ret
    exact ⟨_, _, rfl, World.ownsRow_nil _ _ _ _, Below.refl _ _⟩
  | some a =>
    go_enter Try.func47, Try.ntmps47
    go_wp2_with (with_reducible refine At.slot 7 ?_)
    refine At.out (wpList_app rfl (.tmp 5) (.tmp 6) 27 rfl elemN rfl w.heap.size _ 0 [] rfl (own_empty w _) (some a) n c (BI l) rfl (by rw [BI_length]; exact HN.out) (hr.kept ((Below.refl _ _).alloc (Nat.le_refl _) _)) (BI_one _) (by unfold maxLen; omega) (by omega) (by simp) ?_)
    intro v1 w1 ho1 hb1 _
    rw [Nat.zero_add, List.nil_append] at ho1
    obtain ⟨a1, c1, rfl, _⟩ := Rd.ofOwn ho1
    go_wp2
    go_ret
    exact ⟨a1, c1, rfl, ho1, ((Below.refl _ _).alloc (Nat.le_refl _) _).trans hb1⟩
theorem BlkV.grown {w w' : World} {g : Nat} {t t' : TypeId} {cs : Array Value} (h : BlkV w g t cs) {row : Option Nat} (hg : w.grownBy w' row) (hr : ∀ k, row = some k → ∃ cs fr, w.heap[k]? = some (.cells cs t' fr)) (hne : t ≠ t') : BlkV w' g t cs :=
  h.off (Off.ofGrown (F := fun k => row = some k) hg fun _ h => h) fun e => by
    obtain ⟨cs', fr', hh⟩ := hr g e
    exact h.type hne g cs' fr' rfl hh
theorem rd_box (w : World) (o : Obj) (u : Value) (t : TypeId) : Rd ((w.alloc o).alloc (.cells #[u] t)) (some ⟨w.heap.size + 1, 0, none⟩) 1 [u] := by
  have := Rd.one (w.alloc o) u t
  simpa using this
/-- append of one row behind another at a step; what grew is told. (size: the element's cells) -/
theorem step_appH {P : Program} {ops : Array Oper} {o : Oper} {a : Act} {w : World} {K : Act → World → Prop} {Q : Exit → Act → World → Prop} {E : Prop} {e : TypeId} {z : Value} {bytes sz : Nat}
    (hgd : o.guard = none) (s x : Operand) (t : TypeId)
    (ho : o.op = .call { callee := .builtin .append, args := #[s, x], argTypes := #[t, t] })
    (T : ElemT P t e sz z bytes) (hz1 : z.cells.size = sz) (hsz0 : 0 < sz)
    (base : Nat) (v : Value) (n : Nat) (xs : List Value) (hs : a.eval s = v) (hown : w.ownsRow base e sz v n xs)
    (ad : Addr) (m c : Nat) (news : List Value) (hx : a.eval x = .slice (some ad) m c) (hm : news.length = m * sz) (hr : ∀ j u, news[j]? = some u → w.cell? (ad.add j) = some u) (h1 : ∀ u ∈ news, u.oneCell' = true)
    (h63 : n + m ≤ maxLen) (hbytes : (n + m) * bytes ≤ 140737488355328) (hbase : base ≤ w.heap.size)
    (h : ∀ a' c' w', w'.ownsRow base e sz (.slice a' (n + m) c') (n + m) (xs ++ news) → Below base w w' → w.grownBy w' v.ownBlock → ((Value.slice a' (n + m) c').ownBlock = v.ownBlock ∨ (Value.slice a' (n + m) c').ownBlock = some w.heap.size) → K (a.put o.dst (.slice a' (n + m) c')) w') :
    if Region.wanted o (yielded ops a.tmps) = true then Oper.wp P o a w K Q else E := by
  have hw : Region.wanted o (yielded ops a.tmps) = true := by simp [Region.wanted, hgd]
  rw [if_pos hw]
  obtain ⟨i, hi, hz, hsz, hby⟩ := T.hi
  obtain ⟨v', w', hrun, h2, h3, h4, h5⟩ := run_append_own_at (P := P) w base t o.type e i z sz bytes T.ht hi hz hsz hby hz1 hsz0 v n xs hown ad m c news hm hr h1 h63 hbytes hbase
  unfold Oper.wp execOp
  simp only [ho, resolve, invoke, builtin, Sem.run_bind, Sem.run_pure, Result.andThen_ok, List.map_toArray, List.map_cons, List.map_nil, hs, hx, hrun]
  have hsl : ∃ a' c', v' = .slice a' (n + m) c' := by
    rcases h2.2 with ⟨rfl, h0⟩ | ⟨k, cap, cur, rfl, _⟩
    · exact ⟨none, 0, by rw [h0]⟩
    · exact ⟨_, _, rfl⟩
  obtain ⟨a', c', rfl⟩ := hsl
  exact h a' c' w' h2 (below_grown h3 hbase (fun k hk => (hown.lt k hk).1)) h3 h5
theorem rd_box2 (w : World) (o : Obj) (u : Value) (t : TypeId) : ∀ j x, [u][j]? = some x → ((w.alloc o).alloc (.cells #[u] t)).cell? ((⟨w.heap.size + 1, 0, none⟩ : Addr).add j) = some x := by
  intro j x h
  rw [Addr.add_lit, Nat.zero_add]
  have h2 : (w.alloc o).heap.size = w.heap.size + 1 := by simp
  have := (BlkV.new (w.alloc o) t #[u]).cell j
  rw [h2] at this
  rw [this]
  simpa using h
end Go.Proofs.Yteenbobblbehoaa
