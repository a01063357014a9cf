/- spoil: what is the call's own is written over, and nothing else. Conditions: the contract's own premises. -/
import Derived.Test.YtoagneajlfglcaaNetDrop
namespace Go.Proofs.Ytoagneajlfglcaa
open Go Go.RowKit

/-- append onto what is owned, of whatever reads; and where the new slice lies. -/
theorem wpList_appA {P : Program} {w : World} {ops : Array Oper} {rest : List Oper} {o : Oper} {a : Act} {Q : Exit → Act → World → Prop} {e : TypeId} {z : Value} {bytes : Nat}
    (hgd : o.guard = none) (s x : Operand) (t : TypeId)
    (ho : o.op = .call { callee := .builtin .append, args := #[s, x], argTypes := #[t, t] })
    (T : ElemT P t e 1 z bytes) (hz1 : z.cells.size = 1)
    (base : Nat) (v : Value) (n : Nat) (xs : List Value) (hs : a.eval s = v) (hown : w.ownsRow base e 1 v n xs)
    (ad : Addr) (m c : Nat) (news : List Value) (hx : a.eval x = .slice (some ad) m c) (hm : m = news.length) (hr : Rd w (some ad) c news) (h1 : ∀ u ∈ news, u.oneCell' = true)
    (h63 : n + m ≤ maxLen) (hbytes : (n + m) * bytes ≤ 140737488355328) (hbase : base ≤ w.heap.size)
    (h : ∀ v' w', w'.ownsRow base e 1 v' (n + m) (xs ++ news) → w.grownBy w' v.ownBlock → (v'.ownBlock = v.ownBlock ∨ v'.ownBlock = some w.heap.size) → wpList P ops Q rest (a.put o.dst v') w') : wpList P ops Q (o :: rest) a w := by
  obtain ⟨i, hi, hz, hsz, hby⟩ := T.hi
  refine wpList_append_own_at w hgd s x t ho base e i z 1 bytes T.ht hi hz hsz hby hz1 (by omega) v n xs hs hown ad m c news hx (by omega) ?_ h1 h63 hbytes hbase ?_
  · intro j u hu
    obtain ⟨b, of, hab, hc⟩ := hr.cs j u hu
    obtain rfl := Option.some.inj hab
    rw [Addr.add_lit]
    exact hc
  · intro v' w' ho' hg _ hat
    exact h v' w' ho' hg hat

set_option maxRecDepth 100000 in
set_option maxHeartbeats 1000000 in
theorem spoil_f (w : World) (v : Value) (n : Nat) (xs : List Value) (ho : w.ownsRow 0 5 1 v n xs) (hn : n ≤ 100000000) :
    Calls Try.prog 13 #[v] w fun e w' => e = .returned (.tuple #[]) ∧ Off (fun k => v.ownBlock = some k) w w' := by
  go_enter Try.func13, Try.ntmps13
  go_wp2_with (with_reducible refine At.slot 6 ?_)
  refine At.out (wpList_appA rfl (.tmp 4) (.tmp 5) 29 rfl elemB rfl 0 v n _ rfl (ho.alloc _) _ 1 1 [.int .u8 99] rfl rfl (Rd.one _ _ _) (one_int _ _) (by unfold maxLen; omega) (by omega) (Nat.zero_le _) ?_)
  intro v1 w1 ho1 hg1 hat
  have hb2 : Off (fun k => v.ownBlock = some k ∨ w.heap.size ≤ k) w w1 := ((Off.ofBelow ((Below.refl w.heap.size w).alloc (Nat.le_refl _) _)).then (Off.ofGrown hg1 fun k hk => .inl hk))
  obtain ⟨g, cap, rfl, _, hg2, hg3, hg4⟩ := own_pos ho1 (by omega)
  have hgF : v.ownBlock = some g ∨ w.heap.size ≤ g := by
    rcases hat with e | e
    · left; rw [← e]; rfl
    · right
      have : some g = some _ := e
      have := Option.some.inj this
      rw [this]; simp
  have HGF := Lib.hid hgF
  clear ho hg1 hat hgF
  go_wp2
  go_loopw [3] (fun s3 wr => ∃ (k : Nat) (ys : List Value), k ≤ n + 1 ∧ s3 = .int .i64 k ∧ wr.ownsRow 0 5 1 (.slice (some ⟨g, 0, none⟩) (n + 1) cap) (n + 1) ys ∧ Hid (Off (fun k => v.ownBlock = some k ∨ w.heap.size ≤ k) w wr)) (fun s3 _ => n + 1 - (intOf s3).toNat)
  case atStart => exact ⟨0, _, by omega, rfl, ho1, hb2⟩
  case round =>
    clear ho1 hb2
    obtain ⟨k, ys, hk, rfl, ho, hb⟩ := hrel
    by_cases hlt : k < n + 1
    · have hlen : ys.length = n + 1 := by simpa using ho.1
      have hcell : ∃ u, wr.cell? ⟨g, k, none⟩ = some u := ⟨ys[k], by rw [ho.cellAt k (by omega), List.getElem?_eq_getElem (by omega)]⟩
      obtain ⟨u, hcell⟩ := hcell
      have hfr := ho.frozenAt k
      have hset := (ho.stored k (.int .u8 98)).1
      have hb' := hb.out.then (Off.setCell (p := ⟨g, k, none⟩) HGF.out (.int .u8 98))
      have hki : (k : Int) < (n : Int) + 1 := by omega
      clear hlen
      go_wp2
      go_roundw
      case rel => exact ⟨k + 1, ys.set k (.int .u8 98), by omega, by go_num, hset, hb'⟩
      case measure => simp [intOf]; omega
    · go_wp2
      go_end0
      refine ⟨rfl, hb.out.mono fun x hx hlt => hx.elim id fun h => by omega⟩
end Go.Proofs.Ytoagneajlfglcaa
