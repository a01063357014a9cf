/- The document's scale and add of rows: the contracts. Conditions: each contract's own premises. -/
import Derived.Test.YtmeckdgigjjjbaaDoorGfRef
import Derived.Test.YtmeckdgigjjjbaaDoorGfSc
import Derived.Test.YtmeckdgigjjjbaaDoorSlice
import Derived.Deep.RegionLaw
namespace Go.Proofs.YtmeckdgigjjjbaaDoor
open Go Go.RowKit

/-- append at a step of a region that draws its order; what grew is told. -/
theorem step_appG {P : Program} {ops : Array Oper} {o : Oper} {a : Act} {w : World} {K : Act → World → Prop} {Q : Exit → Act → World → Prop} {E : Prop} {e : TypeId} {z : Value} {bytes : Nat}
    (hgd : o.guard = none) (s x : Operand) (t : TypeId)
    (ho : o.op = .call { callee := .builtin .append, args := #[s, x], argTypes := #[t, t] })
    (T : ElemT P t e 1 z bytes) (hz1 : z.cells.size = 1)
    (base : Nat) (v : Value) (n : Nat) (xs : List Value) (hs : a.eval s = v) (hown : w.ownsRow base e 1 v n xs)
    (ad : Addr) (m c : Nat) (news : List Value) (hx : a.eval x = .slice (some ad) m c) (hm : m = news.length) (hr : Rd w (some ad) c news) (h1 : ∀ u ∈ news, u.oneCell' = true)
    (h63 : n + m ≤ maxLen) (hbytes : (n + m) * bytes ≤ 140737488355328) (hbase : base ≤ w.heap.size)
    (h : ∀ v' w', w'.ownsRow base e 1 v' (n + m) (xs ++ news) → Below base w w' → w.grownBy w' v.ownBlock → K (a.put o.dst v') w') :
    if Region.wanted o (yielded ops a.tmps) = true then Oper.wp P o a w K Q else E := by
  have hw : Region.wanted o (yielded ops a.tmps) = true := by simp [Region.wanted, hgd]
  rw [if_pos hw]
  obtain ⟨i, hi, hz, hsz, hby⟩ := T.hi
  refine wp_append_own w s x t ho base e i z 1 bytes T.ht hi hz hsz hby hz1 (by omega) v n xs hs hown ad m c news hx (by omega) ?_ h1 h63 hbytes hbase ?_
  · intro j u hu
    obtain ⟨b, of, hab, hc⟩ := hr.cs j u hu
    obtain rfl := Option.some.inj hab
    rw [Addr.add_lit]
    exact hc
  · intro v' w' ho' hg _
    exact h v' w' ho' (below_grown hg hbase (fun k hk => (hown.lt k hk).1)) hg

set_option maxRecDepth 100000 in
set_option maxHeartbeats 1000000 in
/-- The document's scale. -/
theorem refScale_any (w : World) (a1 : Option Addr) (c1 : Nat) (l : List UInt8) (x : UInt8) (h1 : Rd w a1 c1 (B8 l)) (hl6 : l.length ≤ 1000000) :
    Calls Tryd.prog 33 #[.slice a1 l.length c1, .int .u8 x.toNat] w fun e w' => ∃ v, e = .returned v ∧
      w'.ownsRow w.heap.size 5 1 v l.length (B8 (l.map (gm · x))) ∧ Below w.heap.size w w' := by
  go_enter Tryd.func33, Tryd.ntmps33
  go_wp2
  go_loopw [5, 6] (fun s5 s6 wr => ∃ k : Nat, k ≤ l.length ∧ s6 = .int .i64 k ∧ wr.ownsRow w.heap.size 5 1 s5 k (B8 ((l.map (gm · x)).take k)) ∧ Below w.heap.size w wr) (fun _ s6 _ => l.length - (intOf s6).toNat)
  case atStart => exact ⟨0, by omega, rfl, World.ownsRow_nil _ _ _ _, Below.refl _ _⟩
  case round =>
    obtain ⟨k, hk, rfl, ho, hb⟩ := hrel
    have hz := hb.size
    by_cases hlt : k < l.length
    · obtain ⟨b1, o1, rfl, hd1⟩ := (h1.kept hb).cs.b8 k hlt
      have hki : (k : Int) < (l.length : Int) := by omega
      have hTn : (l.map (gm · x)).take (k + 1) = (l.map (gm · x)).take k ++ [gm l[k] x] := by
        rw [List.take_succ_eq_append_getElem (by simp; omega)]
        simp
      have HTN := Lib.hid hTn
      obtain ⟨y, hy⟩ : ∃ y, y = l[k] := ⟨_, rfl⟩
      rw [← hy] at hd1
      have HY := Lib.hid hy
      clear hTn hy
      go_wp2_with fail
      refine (refMul_any y x _).mono ?_
      rintro e w1 ⟨rfl, hw⟩
      have hw := hw.symm
      subst hw
      go_wp2_with (with_reducible refine At.slot 21 ?_)
      refine At.out (wpList_app rfl (.tmp 13) (.tmp 20) 34 rfl elemG rfl w.heap.size _ k _ rfl (ho.alloc _) _ 1 1 [.int .u8 ((gm y x).toNat : Int)] rfl rfl (Rd.one _ _ _) (one_int _ _) (by unfold maxLen; omega) (by omega) (by simp; omega) ?_)
      intro v2 w2 ho2 hb2 _
      have hb2' : Below w.heap.size w w2 := (hb.alloc hz _).trans hb2
      have ho3 : w2.ownsRow w.heap.size 5 1 v2 (k + 1) (B8 ((l.map (gm · x)).take (k + 1))) := by
        rw [HTN.out, B8_append, ← HY.out]; exact ho2
      clear ho ho2 hb2
      go_wp2
      go_roundw
      case rel => exact ⟨k + 1, by omega, by go_num, ho3, hb2'⟩
      case measure => simp [intOf]; omega
    · obtain rfl : k = l.length := by omega
      rw [List.take_of_length_le (by simp)] at ho
      go_wp2
      go_ret
      exact ⟨_, rfl, ho, hb⟩

set_option maxRecDepth 100000 in
set_option maxHeartbeats 1000000 in
/-- The document's add. -/
theorem refAdd_any (w : World) (a1 a2 : Option Addr) (c1 c2 : Nat) (l m : List UInt8) (hlen : l.length = m.length) (h1 : Rd w a1 c1 (B8 l)) (h2 : Rd w a2 c2 (B8 m)) (hl6 : l.length ≤ 1000000) :
    Calls Tryd.prog 34 #[.slice a1 l.length c1, .slice a2 m.length c2] w fun e w' => ∃ v, e = .returned v ∧
      w'.ownsRow w.heap.size 5 1 v l.length (B8 (gadd l m)) ∧ Below w.heap.size w w' := by
  obtain ⟨n, hn⟩ : ∃ n, n = m.length := ⟨_, rfl⟩
  rw [← hn] at hlen ⊢
  have HM := Lib.hid hn
  have HL := Lib.hid hlen
  have hnl : l.length ≤ n := by omega
  have hln : n ≤ l.length := by omega
  clear hn hlen
  go_enter Tryd.func34, Tryd.ntmps34
  go_wp2
  go_loopw [5, 6] (fun s5 s6 wr => ∃ k : Nat, k ≤ l.length ∧ s6 = .int .i64 k ∧ wr.ownsRow w.heap.size 5 1 s5 k (B8 ((gadd l m).take k)) ∧ Below w.heap.size w wr) (fun _ s6 _ => l.length - (intOf s6).toNat)
  case atStart => exact ⟨0, by omega, rfl, World.ownsRow_nil _ _ _ _, Below.refl _ _⟩
  case round =>
    obtain ⟨k, hk, rfl, ho, hb⟩ := hrel
    obtain ⟨a5, c5, rfl, _⟩ := Rd.ofOwn ho
    have hz := hb.size
    by_cases hlt : k < l.length
    · have hlm : k < m.length := by have := HM.out; omega
      obtain ⟨b1, o1, rfl, hd1⟩ := (h1.kept hb).cs.b8 k hlt
      obtain ⟨b2, o2, rfl, hd2⟩ := (h2.kept hb).cs.b8 k hlm
      have hki : (k : Int) < (l.length : Int) := by omega
      have hkn : (k : Int) < (n : Int) := by omega
      have hTn : (gadd l m).take (k + 1) = (gadd l m).take k ++ [l[k] ^^^ m[k]] := by
        rw [List.take_succ_eq_append_getElem (by unfold gadd; rw [List.length_zipWith]; omega)]
        simp [gadd]
      have HTN := Lib.hid hTn
      obtain ⟨y, hy⟩ : ∃ y, y = l[k] := ⟨_, rfl⟩
      obtain ⟨z, hz2⟩ : ∃ z, z = m[k] := ⟨_, rfl⟩
      rw [← hy] at hd1
      rw [← hz2] at hd2
      have hx := u8_bin_xor y z
      have HY := Lib.hid hy
      have HZ := Lib.hid hz2
      have hod : wr.drew.ownsRow w.heap.size 5 1 (.slice a5 k c5) k (B8 ((gadd l m).take k)) := own_below ho (Below.refl _ _).drew
      have hbd : Below w.heap.size w wr.drew := hb.drew
      clear hTn hy hz2
      have hzd : w.heap.size ≤ wr.drew.heap.size := hbd.size
      go_wp2_with fail
      go_region_law
          ((with_reducible refine StepAt 24 ?_)
           (refine At.out (step_appG (by rfl) (.tmp 13) (.tmp 23) 34 (by rfl) elemG rfl w.heap.size (.slice a5 k c5) k _ (by rfl) (hod.alloc _) _ 1 1 [.int .u8 ((y ^^^ z).toNat : Int)] (by rfl) rfl (Rd.one wr.drew _ _) (one_int _ _) (by unfold maxLen; omega) (by omega) (by simp; omega) ?_))
           (intro v2 w2 ho2 hb2 _))
      all_goals
        have hb2' : Below w.heap.size w w2 := (hbd.alloc hzd _).trans hb2
        have ho3 : w2.ownsRow w.heap.size 5 1 v2 (k + 1) (B8 ((gadd l m).take (k + 1))) := by
          rw [HTN.out, B8_append, ← HY.out, ← HZ.out]; exact ho2
        clear ho ho2 hb2
        go_wp2
        go_roundw
        case rel => exact ⟨k + 1, by omega, by go_num, ho3, hb2'⟩
        case measure => simp [intOf]; omega
    · obtain rfl : k = l.length := by omega
      rw [List.take_of_length_le (by unfold gadd; rw [List.length_zipWith]; omega)] at ho
      go_wp2
      go_ret
      exact ⟨_, rfl, ho, hb⟩
end Go.Proofs.YtmeckdgigjjjbaaDoor
