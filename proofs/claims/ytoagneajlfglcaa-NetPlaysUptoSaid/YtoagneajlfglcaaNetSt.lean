/- Two Nets in one world, and drafts that lie apart from both. Conditions: each law's own premises. -/
import Derived.Test.YtoagneajlfglcaaNetSpoil
import Derived.Test.YtoagneajlfglcaaNetKnown
import Derived.Test.YtoagneajlfglcaaMsgs
namespace Go.Proofs.Ytoagneajlfglcaa
open Go Go.RowKit

/-- The program's Net with blocks of Fn, the document's with blocks of Fw, drafts in D; nothing below w's end turned. -/
structure Nets (w wr : World) (Fn Fw D : Nat → Prop) (gn gw : Nat) (Ln Lw : List Ms) : Prop where
  n : NetF 26 wr Fn gn Ln
  r : NetF 41 wr Fw gw Lw
  ap : ∀ x, Fn x → ¬ Fw x
  dn : ∀ x, D x → ¬ Fn x
  dw : ∀ x, D x → ¬ Fw x
  dl : ∀ x, D x → x < wr.heap.size
  hn : ∀ x, Fn x → w.heap.size ≤ x
  hw : ∀ x, Fw x → w.heap.size ≤ x
  hd : ∀ x, D x → w.heap.size ≤ x
  bel : Below w.heap.size w wr
theorem Nets.kept {w wr w' : World} {Fn Fw D : Nat → Prop} {gn gw : Nat} {Ln Lw : List Ms} (h : Nets w wr Fn Fw D gn gw Ln Lw) (hb : Below wr.heap.size wr w') : Nets w w' Fn Fw (grew D wr w') gn gw Ln Lw where
  n := h.n.kept hb
  r := h.r.kept hb
  ap := h.ap
  dn := fun x hx hf => hx.elim (fun k => h.dn x k hf) fun k => by have := h.n.lt x hf; omega
  dw := fun x hx hf => hx.elim (fun k => h.dw x k hf) fun k => by have := h.r.lt x hf; omega
  dl := fun x hx => hx.elim (fun k => by have := h.dl x k; have := hb.size; omega) (·.2)
  hn := h.hn
  hw := h.hw
  hd := fun x hx => hx.elim (h.hd x) fun k => by have := h.bel.size; omega
  bel := h.bel.trans (hb.mono h.bel.size)
theorem Nets.opN {w wr w' : World} {Fn Fw D : Nat → Prop} {gn gw : Nat} {Ln Lw L' : List Ms} (h : Nets w wr Fn Fw D gn gw Ln Lw) (hN : NetF 26 w' (grew Fn wr w') gn L') (ho : Off Fn wr w') : Nets w w' (grew Fn wr w') Fw D gn gw L' Lw where
  n := hN
  r := h.r.off ho fun x hx hf => h.ap x hf hx
  ap := fun x hx hf => hx.elim (fun k => h.ap x k hf) fun k => by have := h.r.lt x hf; omega
  dn := fun x hx hf => hf.elim (h.dn x hx) fun k => by have := h.dl x hx; omega
  dw := h.dw
  dl := fun x hx => by have := h.dl x hx; have := ho.size; omega
  hn := fun x hx => hx.elim (h.hn x) fun k => by have := h.bel.size; omega
  hw := h.hw
  hd := h.hd
  bel := h.bel.trans (ho.toBelow h.bel.size h.hn)
theorem Nets.opW {w wr w' : World} {Fn Fw D : Nat → Prop} {gn gw : Nat} {Ln Lw L' : List Ms} (h : Nets w wr Fn Fw D gn gw Ln Lw) (hN : NetF 41 w' (grew Fw wr w') gw L') (ho : Off Fw wr w') : Nets w w' Fn (grew Fw wr w') D gn gw Ln L' where
  n := h.n.off ho fun x hx hf => h.ap x hx hf
  r := hN
  ap := fun x hx hf => hf.elim (h.ap x hx) fun k => by have := h.n.lt x hx; omega
  dn := h.dn
  dw := fun x hx hf => hf.elim (h.dw x hx) fun k => by have := h.dl x hx; omega
  dl := fun x hx => by have := h.dl x hx; have := ho.size; omega
  hn := h.hn
  hw := fun x hx => hx.elim (h.hw x) fun k => by have := h.bel.size; omega
  hd := h.hd
  bel := h.bel.trans (ho.toBelow h.bel.size h.hw)
theorem Nets.opN2 {w wr w' : World} {Fn Fw D F' D' : Nat → Prop} {gn gw : Nat} {Ln Lw L' : List Ms} (h : Nets w wr Fn Fw D gn gw Ln Lw) (hN : NetF 26 w' F' gn L') (ho : Off Fn wr w') (hF : ∀ x, F' x → Fn x ∨ wr.heap.size ≤ x) (hD : ∀ x, D' x → D x ∨ (wr.heap.size ≤ x ∧ x < w'.heap.size ∧ ¬ F' x)) : Nets w w' F' Fw D' gn gw L' Lw where
  n := hN
  r := h.r.off ho fun x hx hf => h.ap x hf hx
  ap := fun x hx hf => (hF x hx).elim (fun k => h.ap x k hf) fun k => by have := h.r.lt x hf; omega
  dn := fun x hx hf => (hD x hx).elim (fun k => (hF x hf).elim (h.dn x k) fun k2 => by have := h.dl x k; omega) fun k => k.2.2 hf
  dw := fun x hx hf => (hD x hx).elim (fun k => h.dw x k hf) fun k => by have := h.r.lt x hf; omega
  dl := fun x hx => (hD x hx).elim (fun k => by have := h.dl x k; have := ho.size; omega) (·.2.1)
  hn := fun x hx => (hF x hx).elim (h.hn x) fun k => by have := h.bel.size; omega
  hw := h.hw
  hd := fun x hx => (hD x hx).elim (h.hd x) fun k => by have := h.bel.size; omega
  bel := h.bel.trans (ho.toBelow h.bel.size h.hn)
theorem Nets.opW2 {w wr w' : World} {Fn Fw D F' D' : Nat → Prop} {gn gw : Nat} {Ln Lw L' : List Ms} (h : Nets w wr Fn Fw D gn gw Ln Lw) (hN : NetF 41 w' F' gw L') (ho : Off Fw wr w') (hF : ∀ x, F' x → Fw x ∨ wr.heap.size ≤ x) (hD : ∀ x, D' x → D x ∨ (wr.heap.size ≤ x ∧ x < w'.heap.size ∧ ¬ F' x)) : Nets w w' Fn F' D' gn gw Ln L' where
  n := h.n.off ho fun x hx hf => h.ap x hx hf
  r := hN
  ap := fun x hx hf => (hF x hf).elim (h.ap x hx) fun k => by have := h.n.lt x hx; omega
  dn := fun x hx hf => (hD x hx).elim (fun k => h.dn x k hf) fun k => by have := h.n.lt x hf; omega
  dw := fun x hx hf => (hD x hx).elim (fun k => (hF x hf).elim (h.dw x k) fun k2 => by have := h.dl x k; omega) fun k => k.2.2 hf
  dl := fun x hx => (hD x hx).elim (fun k => by have := h.dl x k; have := ho.size; omega) (·.2.1)
  hn := h.hn
  hw := fun x hx => (hF x hx).elim (h.hw x) fun k => by have := h.bel.size; omega
  hd := fun x hx => (hD x hx).elim (h.hd x) fun k => by have := h.bel.size; omega
  bel := h.bel.trans (ho.toBelow h.bel.size h.hw)
/-- Drafts, and what a message of the call's own lies in. -/
def plusD (D : Nat → Prop) (wr w' : World) (F' : Nat → Prop) : Nat → Prop := fun k => D k ∨ (wr.heap.size ≤ k ∧ k < w'.heap.size ∧ ¬ F' k)
theorem Nets.offD {w wr w' : World} {Fn Fw D G : Nat → Prop} {gn gw : Nat} {Ln Lw : List Ms} (h : Nets w wr Fn Fw D gn gw Ln Lw) (ho : Off G wr w') (hG : ∀ x, G x → D x) : Nets w w' Fn Fw D gn gw Ln Lw where
  n := h.n.off ho fun x hx hf => h.dn x (hG x hf) hx
  r := h.r.off ho fun x hx hf => h.dw x (hG x hf) hx
  ap := h.ap
  dn := h.dn
  dw := h.dw
  dl := fun x hx => by have := h.dl x hx; have := ho.size; omega
  hn := h.hn
  hw := h.hw
  hd := h.hd
  bel := h.bel.trans (ho.toBelow h.bel.size fun x hx => h.hd x (hG x hx))
theorem Nets.forget {w wr : World} {Fn Fw D : Nat → Prop} {gn gw : Nat} {Ln Lw : List Ms} (h : Nets w wr Fn Fw D gn gw Ln Lw) : Nets w wr Fn Fw (fun _ => False) gn gw Ln Lw :=
  ⟨h.n, h.r, h.ap, fun _ h => h.elim, fun _ h => h.elim, fun _ h => h.elim, h.hn, h.hw, fun _ h => h.elim, h.bel⟩
theorem Nets.drew {w wr : World} {Fn Fw D : Nat → Prop} {gn gw : Nat} {Ln Lw : List Ms} (h : Nets w wr Fn Fw D gn gw Ln Lw) : Nets w wr.drew Fn Fw D gn gw Ln Lw := h.offD (G := fun _ => False) (Off.ofBelow (Below.refl _ _).drew) fun _ h => h.elim
theorem Nets.blkN {w wr w' : World} {Fn Fw D : Nat → Prop} {gn gw : Nat} {Ln Lw : List Ms} (h : Nets w wr Fn Fw D gn gw Ln Lw) {K : Nat} {t : TypeId} {cs : Array Value} (hB : BlkV wr K t cs) (hK : D K) (ho : Off Fn wr w') : BlkV w' K t cs := hB.off ho (h.dn K hK)
theorem Nets.blkW {w wr w' : World} {Fn Fw D : Nat → Prop} {gn gw : Nat} {Ln Lw : List Ms} (h : Nets w wr Fn Fw D gn gw Ln Lw) {K : Nat} {t : TypeId} {cs : Array Value} (hB : BlkV wr K t cs) (hK : D K) (ho : Off Fw wr w') : BlkV w' K t cs := hB.off ho (h.dw K hK)
/-- A message of the call's own, in drafts. -/
def MsD (D : Nat → Prop) (w : World) (M : Ms) (an : Option Addr) (cn : Nat) (ad : Option Addr) (cd : Nat) : Prop :=
  w.ownsRow 0 3 1 (.slice an M.nums.length cn) M.nums.length (BI M.nums) ∧ w.ownsRow 0 5 1 (.slice ad M.data.length cd) M.data.length (B8 M.data) ∧
    (∀ k, (Value.slice an M.nums.length cn).ownBlock = some k → D k) ∧ ∀ k, (Value.slice ad M.data.length cd).ownBlock = some k → D k
theorem MsD.of {w' : World} {D : Nat → Prop} {B : Nat} {x : Array Value} {M : Ms} (h : MsO w' B x.toList M) (hD : ∀ k, B ≤ k → k < w'.heap.size → D k) : ∃ an cn ad cd, x = #[.int .i64 M.fr, .int .i64 M.to, .int .i64 M.kd, .slice an M.nums.length cn, .slice ad M.data.length cd] ∧ MsD D w' M an cn ad cd := by
  obtain ⟨an, cn, ad, cd, hx, k1, k2⟩ := h
  exact ⟨an, cn, ad, cd, by rw [← Array.toList_inj, hx], own_base k1 (Nat.zero_le _), own_base k2 (Nat.zero_le _), fun k hk => hD k (k1.lt k hk).1 (k1.lt k hk).2, fun k hk => hD k (k2.lt k hk).1 (k2.lt k hk).2⟩
theorem MsD.ofT {w' : World} {D : Nat → Prop} {B : Nat} {x : Array Value} {M : Ms} (h : MsO w' B x.toList M) (hD : ∀ k cs t fr, B ≤ k → k < w'.heap.size → w'.heap[k]? = some (.cells cs t fr) → t ≠ 31 → D k) : ∃ an cn ad cd, x = #[.int .i64 M.fr, .int .i64 M.to, .int .i64 M.kd, .slice an M.nums.length cn, .slice ad M.data.length cd] ∧ MsD D w' M an cn ad cd := by
  obtain ⟨an, cn, ad, cd, hx, k1, k2⟩ := h
  refine ⟨an, cn, ad, cd, by rw [← Array.toList_inj, hx], own_base k1 (Nat.zero_le _), own_base k2 (Nat.zero_le _), fun k hk => ?_, fun k hk => ?_⟩
  · obtain ⟨cs, fr, hh⟩ := own_type k1 k hk
    exact hD k cs _ fr (k1.lt k hk).1 (k1.lt k hk).2 hh (by decide)
  · obtain ⟨cs, fr, hh⟩ := own_type k2 k hk
    exact hD k cs _ fr (k2.lt k hk).1 (k2.lt k hk).2 hh (by decide)
theorem MsD.off {D G : Nat → Prop} {w w' : World} {M : Ms} {an ad : Option Addr} {cn cd : Nat} (h : MsD D w M an cn ad cd) (ho : Off G w w') (hd : ∀ x, D x → ¬ G x) : MsD D w' M an cn ad cd :=
  ⟨own_off h.1 ho fun k hk => hd k (h.2.2.1 k hk), own_off h.2.1 ho fun k hk => hd k (h.2.2.2 k hk), h.2.2.1, h.2.2.2⟩
theorem MsD.kept {D : Nat → Prop} {w w' : World} {M : Ms} {an ad : Option Addr} {cn cd : Nat} (h : MsD D w M an cn ad cd) (hb : Below w.heap.size w w') : MsD D w' M an cn ad cd := h.off (G := fun _ => False) (Off.ofBelow hb) fun _ _ h => h
theorem MsD.mono {D E : Nat → Prop} {w : World} {M : Ms} {an ad : Option Addr} {cn cd : Nat} (h : MsD D w M an cn ad cd) (hD : ∀ x, D x → E x) : MsD E w M an cn ad cd := ⟨h.1, h.2.1, fun k hk => hD k (h.2.2.1 k hk), fun k hk => hD k (h.2.2.2 k hk)⟩
theorem MsD.same {D : Nat → Prop} {w w' : World} {M : Ms} {an ad : Option Addr} {cn cd : Nat} (h : MsD D w M an cn ad cd) {t' : TypeId} {g : Nat} {cs : Array Value} (hB : BlkV w g t' cs) (h1 : 3 ≠ t') (h2 : 5 ≠ t') (hg : ∀ k, k ≠ g → w'.heap[k]? = w.heap[k]?) : MsD D w' M an cn ad cd :=
  ⟨own_other h.1 hB h1 hg, own_other h.2.1 hB h2 hg, h.2.2.1, h.2.2.2⟩
theorem Rd.ofD {w : World} {e : TypeId} {a : Option Addr} {n c : Nat} {xs : List Value} (h : w.ownsRow 0 e 1 (.slice a n c) n xs) : Rd w a c xs := Rd.own3 h
theorem BlkV.offTy {G : Nat → Prop} {w w' : World} {K : Nat} {t : TypeId} {cs : Array Value} (h : BlkV w K t cs) (ho : Off G w w') {t' : TypeId} (hG : ∀ k, G k → ∃ cs fr, w.heap[k]? = some (.cells cs t' fr)) (hne : t ≠ t') : BlkV w' K t cs :=
  h.off ho fun hk => by
    obtain ⟨cs', fr', hh⟩ := hG K hk
    rw [show w.heap[K]? = _ from h] at hh
    cases hh
    exact hne rfl
/-- Not too many messages, none too long. -/
def OkN (L : List Ms) : Prop := L.length ≤ 4096 ∧ ∀ M ∈ L, M.nums.length ≤ 100000000 ∧ M.data.length ≤ 100000000
theorem OkN.send {L : List Ms} {M : Ms} (h : OkN L) (hM : M.nums.length ≤ 100000000 ∧ M.data.length ≤ 100000000) : OkN (sendL L M) := by
  unfold sendL
  split
  · refine ⟨by rw [List.length_append]; simp; omega, fun N hN => ?_⟩
    rcases List.mem_append.1 hN with h1 | h1
    · exact h.2 N h1
    · rw [List.mem_singleton.1 h1]; exact hM
  · exact h
theorem OkN.twice {L : List Ms} (h : OkN L) (i : Int) : OkN (twiceL L i) := by
  unfold twiceL
  cases hq : atL L i with
  | none => exact h
  | some M => exact h.send (h.2 M (atL_mem hq))
theorem OkN.take {L : List Ms} (h : OkN L) (i : Int) : OkN (takeL L i) := by
  unfold takeL
  split
  · exact ⟨Nat.le_trans (List.length_eraseIdx_le _ _) h.1, fun M hM => h.2 M (List.mem_of_mem_eraseIdx hM)⟩
  · exact h
theorem OkN.drop {L : List Ms} (h : OkN L) (z : Int) : OkN (dropL L z) := ⟨Nat.le_trans (dropL_le L z) h.1, fun M hM => h.2 M (List.mem_filter.1 hM).1⟩
theorem OkN.at {L : List Ms} (h : OkN L) (i : Int) : ((atL L i).getD Ms.zero).nums.length ≤ 100000000 ∧ ((atL L i).getD Ms.zero).data.length ≤ 100000000 := by
  cases hq : atL L i with
  | none => simp [Ms.zero]
  | some M => exact h.2 M (atL_mem hq)

/-- A step of the script. -/
structure Sp where
  kd : Int
  ix : Int
  m : Ms
/-- An argument of steps. -/
def RdN (w : World) (a : Option Addr) (c : Nat) (S : List Sp) : Prop := S.length ≤ c ∧ c ≤ maxLen ∧ ∀ i s, S[i]? = some s → ∃ b o an cn ad cd, a = some ⟨b, o, none⟩ ∧ b < w.heap.size ∧
  (∀ j, j < 7 → w.cell? ⟨b, o + i * 7 + j, none⟩ = [Value.int .i64 s.kd, .int .i64 s.ix, .int .i64 s.m.fr, .int .i64 s.m.to, .int .i64 s.m.kd, .slice an s.m.nums.length cn, .slice ad s.m.data.length cd][j]?) ∧ Rd w an cn (BI s.m.nums) ∧ Rd w ad cd (B8 s.m.data)
theorem RdN.kept {w w' : World} {a : Option Addr} {c : Nat} {S : List Sp} (h : RdN w a c S) (hb : Below w.heap.size w w') : RdN w' a c S := by
  refine ⟨h.1, h.2.1, fun i s hs => ?_⟩
  obtain ⟨b, o, an, cn, ad, cd, h1, h2, h3, h4, h5⟩ := h.2.2 i s hs
  exact ⟨b, o, an, cn, ad, cd, h1, Nat.lt_of_lt_of_le h2 hb.size, fun j hj => (hb.cell (p := ⟨b, o + i * 7 + j, none⟩) h2).trans (h3 j hj), h4.kept hb, h5.kept hb⟩
end Go.Proofs.Ytoagneajlfglcaa
