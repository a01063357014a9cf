/- A script of steps, read; the law's heavy. The law's volumes: two lists that show the same. Plain: tables stay as they may be; two tables in one world. Conditions: each law's own premises. -/
import Derived.Test.YteenbobblbehoaaFsmVw
import Derived.Test.YteenbobblbehoaaFsmSum
namespace Go.Proofs.Yteenbobblbehoaa
open Go Go.RowKit

/-- A step. -/
structure Stp where
  kd : Int
  nums : List Int
  raw : List UInt8
/-- Steps that read. -/
def RdS (w : World) (a : Option Addr) (c : Nat) (S : List Stp) : Prop := S.length ≤ c ∧ c ≤ maxLen ∧
  ∀ i s, S[i]? = some s → ∃ b o an cn ar cr, a = some ⟨b, o, none⟩ ∧ b < w.heap.size ∧ w.cell? ⟨b, o + i * 3, none⟩ = some (.int .i64 s.kd) ∧ w.cell? ⟨b, o + i * 3 + 1, none⟩ = some (.slice an s.nums.length cn) ∧ w.cell? ⟨b, o + i * 3 + 2, none⟩ = some (.slice ar s.raw.length cr) ∧
    Rd w an cn (BI s.nums) ∧ (∀ n ∈ s.nums, -9223372036854775808 ≤ n ∧ n ≤ 9223372036854775807) ∧ Rd w ar cr (B8 s.raw)
theorem RdS.kept {w w' : World} {a : Option Addr} {c : Nat} {S : List Stp} (h : RdS w a c S) (hb : Below w.heap.size w w') : RdS w' a c S := by
  refine ⟨h.1, h.2.1, fun i s hs => ?_⟩
  obtain ⟨b, o, an, cn, ar, cr, h1, h2, h3, h4, h5, h6, h7, h8⟩ := h.2.2 i s hs
  exact ⟨b, o, an, cn, ar, cr, h1, by have := hb.size; omega, (hb.cell h2).trans h3, (hb.cell h2).trans h4, (hb.cell h2).trans h5, h6.kept hb, h7, h8.kept hb⟩

def HvP (w : World) (e : Ending) (w' : World) : Prop := ∃ hv, e = .returned (.bool hv) ∧ Qt w w'
set_option maxRecDepth 100000 in
set_option maxHeartbeats 4000000 in
theorem heavy_any (w : World) (a : Option Addr) (c : Nat) (S : List Stp) (hr : RdS w a c S) :
    Calls Try.prog 8 #[.slice a S.length c] w (HvP w) := by
  have hle : S.length ≤ 9223372036854775807 := by have := hr.1; have := hr.2.1; unfold maxLen at this; omega
  obtain ⟨N, hN⟩ : ∃ N, N = S.length := ⟨_, rfl⟩
  rw [← hN] at hle ⊢
  have HR := Lib.hid hr
  have HN := Lib.hid hN
  clear hr hN
  go_enter Try.func8, Try.ntmps8
  go_wp2
  go_loopw [3, 4] (fun s3 s4 wr => ∃ (k q : Nat) (n : Int), k ≤ N ∧ s4 = .int .i64 k ∧ s3 = .int .i64 n ∧ wr = w.drewN q) (fun _ s4 _ => N - (intOf s4).toNat)
  case atStart => exact ⟨0, 0, 0, by omega, rfl, rfl, rfl⟩
  case round =>
    obtain ⟨k, q, n, hk, rfl, rfl, rfl⟩ := hrel
    by_cases hlt : k < N
    · have hkl : k < S.length := by have := HN.out; omega
      have hki : (k : Int) < (N : Int) := by omega
      by_cases h150 : k < 150
      · have h15i : (k : Int) < 150 := by omega
        obtain ⟨b, o, an, cn, ar, cr, rfl, h2, h3, h4, h5, _, _, _⟩ := HR.out.2.2 k S[k] (List.getElem?_eq_getElem hkl)
        obtain ⟨m1, hm1⟩ : ∃ m1, m1 = S[k].nums.length := ⟨_, rfl⟩
        obtain ⟨m2, hm2⟩ : ∃ m2, m2 = S[k].raw.length := ⟨_, rfl⟩
        rw [← hm1] at h4
        rw [← hm2] at h5
        clear hm1 hm2
        go_wp2
        go_quiet (fail)
        go_wp2
        · go_ret
          exact ⟨_, rfl, _, rfl⟩
        · exact ⟨⟨k + 1, _, _, by omega, by go_num, rfl, rfl⟩, by simp [intOf]; omega⟩
      · have h15i : ¬ (k : Int) < 150 := by omega
        go_wp2
        go_ret
        exact ⟨_, rfl, _, rfl⟩
    · have hki : ¬ (k : Int) < (N : Int) := by omega
      go_wp2
      go_ret
      exact ⟨_, rfl, _, rfl⟩
end Go.Proofs.Yteenbobblbehoaa

namespace Go.Proofs.Yteenbobblbehoaa
open Go Go.RowKit

/-- What a volume shows. -/
def shown (V : Vl) : Int × Int × List Int × Bool := (V.st, V.ep, V.nodes, V.fr)
theorem ints_quiet (w : World) (n : Nat) (a1 a2 : Option Addr) (c1 c2 : Nat) (l : List Int) (h1 : Rd w a1 c1 (BI l)) (h2 : Rd w a2 c2 (BI l)) :
    Calls Try.prog 15 #[.slice a1 l.length c1, .slice a2 l.length c2] (w.drewN n) fun e w' => e = .returned (.bool true) ∧ ∃ m, w' = w.drewN m := by
  refine (ints_any (w.drewN n) a1 a2 c1 c2 l l (h1.drewN n) (h2.drewN n)).mono ?_
  rintro e w' ⟨rfl, m, rfl⟩
  refine ⟨by rw [decide_eq_true rfl], ?_⟩
  exact Qt.drew ⟨n, rfl⟩ m
/-- Volumes that read. -/
def VlsR (w : World) (a : Option Addr) (c i0 : Nat) (L : List Vl) : Prop := L.length ≤ c ∧ c ≤ maxLen ∧
  ∀ i V, L[i]? = some V → ∃ b o an cn, a = some ⟨b, o, none⟩ ∧ (∀ j, j < 6 → w.cell? ⟨b, o + i * 6 + j, none⟩ = (volC (i0 + i) V an V.nodes.length cn)[j]?) ∧ Rd w an cn (BI V.nodes)
theorem VlsR.kept {w w' : World} {a : Option Addr} {c i0 : Nat} {L : List Vl} (h : VlsR w a c i0 L) (hb : Below w.heap.size w w') : VlsR w' a c i0 L := by
  refine ⟨h.1, h.2.1, fun i V hV => ?_⟩
  obtain ⟨b, o, an, cn, h1, h4, h5⟩ := h.2.2 i V hV
  refine ⟨b, o, an, cn, h1, fun j hj => ?_, h5.kept hb⟩
  have hc := h4 j hj
  have hbl : b < w.heap.size := by
    by_cases hb' : b < w.heap.size
    · exact hb'
    · unfold World.cell? at hc
      rw [Array.getElem?_eq_none (by simpa using hb'), Array.getElem?_eq_getElem (by simpa using hj)] at hc
      simp at hc
  exact (hb.cell (p := ⟨b, o + i * 6 + j, Option.none⟩) hbl).trans hc
theorem VlsB.reads {w : World} {F : Nat → Prop} {a : Option Addr} {c i0 : Nat} {L : List Vl} (h : VlsB w F a c i0 L) : VlsR w a c i0 L := by
  refine ⟨h.1, h.2.1, fun i V hV => ?_⟩
  obtain ⟨b, o, an, cn, h1, _, _, h4, h5⟩ := h.2.2 i V hV
  exact ⟨b, o, an, cn, h1, h4, h5.1⟩

set_option maxRecDepth 100000 in
set_option maxHeartbeats 4000000 in
theorem volsEq_any (w : World) (a1 a2 : Option Addr) (c1 c2 i0 : Nat) (L1 L2 : List Vl) (h1 : VlsR w a1 c1 i0 L1) (h2 : VlsR w a2 c2 i0 L2) (hs : L1.map shown = L2.map shown) (n : Nat) (hn : n = L1.length) :
    Calls Try.prog 16 #[.slice a1 n c1, .slice a2 n c2] w fun e w' => e = .returned (.bool true) ∧ Qt w w' := by
  have hlen : L1.length = L2.length := by have := congrArg List.length hs; simpa using this
  have hle : n ≤ 9223372036854775807 := by have := h1.1; have := h1.2.1; unfold maxLen at this; omega
  have hpair : ∀ k, k < n → ∃ V1 V2, L1[k]? = some V1 ∧ L2[k]? = some V2 ∧ V1.st = V2.st ∧ V1.ep = V2.ep ∧ V1.nodes = V2.nodes ∧ V1.fr = V2.fr := by
    intro k hk
    have e1 : L1[k]? = some L1[k] := List.getElem?_eq_getElem (by omega)
    have e2 : L2[k]? = some L2[k] := List.getElem?_eq_getElem (by omega)
    have h := congrArg (·[k]?) hs
    simp only [List.getElem?_map, e1, e2, Option.map_some, Option.some.injEq, shown, Prod.mk.injEq] at h
    exact ⟨_, _, e1, e2, h.1, h.2.1, h.2.2.1, h.2.2.2⟩
  have HP := Lib.hid hpair
  have H1 := Lib.hid h1
  have H2 := Lib.hid h2
  clear hlen hpair h1 h2 hs hn
  go_enter Try.func16, Try.ntmps16
  go_wp2
  go_loopw [5] (fun s5 wr => ∃ (k : Nat), k ≤ n ∧ s5 = .int .i64 k ∧ Hid (Qt w wr)) (fun s5 _ => n - (intOf s5).toNat)
  case atStart => exact ⟨0, by omega, rfl, Qt.refl _⟩
  case round =>
    obtain ⟨k, hk, rfl, hq⟩ := hrel
    by_cases hlt : k < n
    · have hki : (k : Int) < (n : Int) := by omega
      obtain ⟨V1, V2, e1, e2, s1, s2, s3, s4⟩ := HP.out k hlt
      obtain ⟨b, o, an, cn, rfl, g1, g2⟩ := (H1.out.kept (hq.out.below _)).2.2 k V1 e1
      obtain ⟨b', o', an', cn', rfl, g1', g2'⟩ := (H2.out.kept (hq.out.below _)).2.2 k V2 e2
      unfold volC at g1 g1'
      rw [← s1, ← s2, ← s3, ← s4] at g1'
      rw [← s3] at g2'
      have HIN := Lib.hid (fun n => ints_quiet wr n an an' cn cn' V1.nodes g2 g2')
      obtain ⟨S, hS⟩ : ∃ S, S = V1.st := ⟨_, rfl⟩
      obtain ⟨E, hE⟩ : ∃ E, E = V1.ep := ⟨_, rfl⟩
      obtain ⟨f, hf⟩ : ∃ f, f = V1.fr := ⟨_, rfl⟩
      obtain ⟨m, hm⟩ : ∃ m, m = V1.nodes.length := ⟨_, rfl⟩
      rw [← hm] at HIN g1 g1'
      have d0 := g1 0 (by omega)
      have d1 := g1 1 (by omega)
      have d2 := g1 2 (by omega)
      have d3 := g1 3 (by omega)
      have d4 := g1 4 (by omega)
      have d5 := g1 5 (by omega)
      have x0 := g1' 0 (by omega)
      have x1 := g1' 1 (by omega)
      have x2 := g1' 2 (by omega)
      have x3 := g1' 3 (by omega)
      have x4 := g1' 4 (by omega)
      have x5 := g1' 5 (by omega)
      simp only [← hS, ← hE, ← hf, List.getElem?_toArray, List.getElem?_cons_succ, List.getElem?_cons_zero, Nat.add_zero] at d0 d1 d2 d3 d4 d5 x0 x1 x2 x3 x4 x5
      obtain ⟨I, hI⟩ : ∃ I : Int, I = ((i0 + k : Nat) : Int) + 1 := ⟨_, rfl⟩
      rw [← hI] at d0 x0
      have z0 : (I != I) = false := by simp
      have z1 : (S != S) = false := by simp
      have z2 : (E != E) = false := by simp
      have z4 : (f != f) = false := by simp
      clear g1 g1' g2 g2' s1 s2 s3 s4 hS hE hf hm e1 e2 hI
      go_wp2
      go_quiet ((go_at_call 15; exact HIN.out _))
      go_wp2
      go_roundw
      case rel => exact ⟨k + 1, by omega, by go_num, Qt.drew hq.out _⟩
      case measure => simp [intOf]; omega
    · go_wp2
      go_ret
      exact ⟨rfl, hq.out⟩
end Go.Proofs.Yteenbobblbehoaa

namespace Go.Proofs.Yteenbobblbehoaa
open Go Go.RowKit

theorem diffF_rng : ∀ (l : List Int) (m : UInt64), diffF l m = true → ∀ n ∈ l, -1 ≤ n ∧ n < 64
  | [], _, _, n, hn => by simp at hn
  | x :: l, m, h, n, hn => by
    unfold diffF at h
    by_cases h1 : x < -1
    · rw [if_pos h1] at h; cases h
    · rw [if_neg h1] at h
      by_cases h2 : 64 ≤ x
      · rw [if_pos h2] at h; cases h
      · rw [if_neg h2] at h
        rcases List.mem_cons.1 hn with rfl | hn
        · omega
        · by_cases h3 : x = -1
          · rw [if_pos h3] at h; exact diffF_rng l m h n hn
          · rw [if_neg h3] at h
            split at h
            · cases h
            · exact diffF_rng l _ h n hn
theorem okL_set {L : List Vl} {id : Int} {V : Vl} (h : OkL L) (hV : OkV V) : OkL (setL L id V) := by
  intro U hU
  unfold setL at hU
  rcases List.mem_or_eq_of_mem_set hU with h1 | rfl
  · exact h U h1
  · exact hV
theorem opL_ok {L : List Vl} {kd : Int} {l : List Int} (h : OkL L) (hL : L.length ≤ 4096) (hl : l.length ≤ 64) : OkL (opL L kd l).2 ∧ (opL L kd l).2.length ≤ 4096 := by
  unfold opL
  split
  · exact ⟨h, hL⟩
  split
  · unfold growL
    split
    · exact ⟨h, hL⟩
    · rename_i hd
      split
      · exact ⟨h, hL⟩
      · refine ⟨fun V hV => ?_, by simp; omega⟩
        rcases List.mem_append.1 hV with hV | hV
        · exact h V hV
        · simp only [List.mem_singleton] at hV
          subst hV
          refine ⟨by simp, by simp, by simp, by simp, by simp, by simp, hl, diffF_rng l 0 ?_⟩
          cases hq : diffF l 0
          · exact absurd (.inl hq) hd
          · rfl
  split
  · unfold assignL
    split
    · exact ⟨h, hL⟩
    · rename_i V hV
      obtain ⟨i, _, hVi, _⟩ := ofL_some hV
      have ho := h V (List.mem_of_getElem? hVi)
      unfold OkV at ho
      split
      · exact ⟨h, hL⟩
      split
      · exact ⟨h, hL⟩
      split
      · exact ⟨h, hL⟩
      · refine ⟨okL_set h ⟨ho.1, ho.2.1, ho.2.2.1, ho.2.2.2.1, ?_, ?_, ho.2.2.2.2.2.2.1, ho.2.2.2.2.2.2.2⟩, by unfold setL; rw [List.length_set]; exact hL⟩
        · show 1 ≤ V.key + 1; omega
        · show V.key + 1 ≤ _; omega
  split
  · exact ⟨h, hL⟩
  · unfold changeL
    split
    · exact ⟨h, hL⟩
    · rename_i V hV
      obtain ⟨i, _, hVi, _⟩ := ofL_some hV
      have ho := h V (List.mem_of_getElem? hVi)
      unfold OkV at ho
      split
      · exact ⟨h, hL⟩
      split
      · exact ⟨h, hL⟩
      split
      · exact ⟨h, hL⟩
      rename_i hg
      split
      · exact ⟨h, hL⟩
      · have h1 : ¬ l.getD 2 0 < V.st := fun e => hg (.inl e)
        have h2 : ¬ 2 < l.getD 2 0 := fun e => hg (.inr (.inl e))
        refine ⟨okL_set h ⟨?_, ?_, ?_, ?_, ho.2.2.2.2.1, ho.2.2.2.2.2.1, ?_, diffF_rng _ 0 ?_⟩, by unfold setL; rw [List.length_set]; exact hL⟩
        · show 0 ≤ l.getD 2 0; omega
        · show l.getD 2 0 ≤ 2; omega
        · show 1 ≤ V.ep + 1; omega
        · show V.ep + 1 ≤ _; omega
        · show (l.drop 3).length ≤ 64; rw [List.length_drop]; omega
        · cases hq : diffF (l.drop 3) 0
          · exact absurd (.inr (.inr (.inl hq))) hg
          · rfl
theorem doL_ok {L : List Vl} {kd : Int} {l : List Int} (h : OkL L) (hL : L.length ≤ 4096) : OkL (doL L kd l).2 ∧ (doL L kd l).2.length ≤ 4096 := by
  unfold doL
  split
  · exact ⟨h, hL⟩
  split
  · exact ⟨h, hL⟩
  split
  · exact opL_ok h hL (by omega)
  · exact ⟨h, hL⟩

/-- Two tables. -/
structure Tw (w W : World) (F G : Nat → Prop) (t s : Nat) (L M : List Vl) : Prop where
  one : St w W F t L
  two : St w W G s M
  apart : ∀ k, F k → ¬ G k
theorem Tw.symm {w W : World} {F G : Nat → Prop} {t s : Nat} {L M : List Vl} (h : Tw w W F G t s L M) : Tw w W G F s t M L := ⟨h.two, h.one, fun k hg hf => h.apart k hf hg⟩
theorem Tw.kept {w W W' : World} {F G : Nat → Prop} {t s : Nat} {L M : List Vl} (h : Tw w W F G t s L M) (hb : Below W.heap.size W W') : Tw w W' F G t s L M := ⟨h.one.kept hb, h.two.kept hb, h.apart⟩
theorem Tw.next {w W w' : World} {F G : Nat → Prop} {t s : Nat} {L M : List Vl} {X : (List Int × Nat) × List Vl} {e : Ending} (hs : Tw w W F G t s L M) (h : AnsP W F t X e w') :
    ∃ a c F', e = .returned (.tuple #[.slice a X.1.1.length c, .int .i64 (X.1.2 : Int)]) ∧ Beside w' (fun k => F' k ∨ G k) a c (BI X.1.1) ∧ Tw w w' F' G t s X.2 M ∧ (∀ k, F' k → F k ∨ W.heap.size ≤ k) ∧ Off F W w' := by
  have hof : Off F W w' := by obtain ⟨_, _, _, _, _, h⟩ := h; exact h
  have hG : ∀ k, G k → k < w'.heap.size := fun k hk => by have := hs.two.lt k hk; have := hof.size; omega
  obtain ⟨a, c, F', rfl, h1, h2, h3, h4⟩ := St.next hs.one h
  obtain ⟨a', c', he, hown, _⟩ := h
  simp only [Ending.returned.injEq, Value.tuple.injEq, Array.mk.injEq, List.cons.injEq, Value.slice.injEq, true_and, and_true] at he
  obtain ⟨rfl, rfl⟩ := he
  have hnew : ∀ b o, a = some ⟨b, o, none⟩ → W.heap.size ≤ b := by
    intro b o e
    subst e
    rcases hown.2 with ⟨e, _⟩ | ⟨g, cap, cur, hv, hb, _⟩
    · simp at e
    · simp only [Value.slice.injEq, Option.some.injEq, Addr.mk.injEq] at hv
      omega
  refine ⟨a, c, F', rfl, ⟨h1.1, fun b o hx ha => ⟨fun hf => hf.elim (h1.2 b o hx ha).1 fun hg => by have := hs.two.lt b hg; have := hnew b o ha; omega, (h1.2 b o hx ha).2⟩⟩, ⟨h2, ?_, ?_⟩, h3, h4⟩
  · exact ⟨hs.two.tab.off h4 fun k hg hf => hs.apart k hf hg, hG, hs.two.new, h2.bel⟩
  · intro k hf hg
    rcases h3 k hf with h | h
    · exact hs.apart k h hg
    · have := hs.two.lt k hg; omega
end Go.Proofs.Yteenbobblbehoaa
