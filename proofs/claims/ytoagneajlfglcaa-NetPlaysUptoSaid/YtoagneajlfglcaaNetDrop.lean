/- net's Drop: the contract. Conditions: its own premises. -/
import Derived.Test.YtoagneajlfglcaaNetDelF
namespace Go.Proofs.Ytoagneajlfglcaa
open Go Go.RowKit

theorem deleteFn_nil (w : World) (b : Nat) (z : Int) (hbz : w.cell? ⟨b, 0, none⟩ = some (.int .i64 z)) (hb : b < w.heap.size) :
    Calls Try.prog 26 #[.slice none 0 0, delV b] w fun e w' => e = .returned (.slice none 0 0) ∧ Below w.heap.size w w' := by
  have hidx := indexFn_any w [] none 0 0 [] rfl (by omega) (World.ownsRow_nil _ _ _ _) rfl b z hbz hb
  rw [if_neg (by omega)] at hidx
  have HIDX := Lib.hid hidx
  unfold delV at HIDX ⊢
  clear hidx hbz
  go_enter Try.func26, Try.ntmps26
  go_wp2_with fail
  refine HIDX.out.mono ?_
  rintro e w1 ⟨rfl, hb1⟩
  have HB1 := Lib.hid hb1
  clear hb1
  go_wp2
  go_ret
  exact ⟨rfl, HB1.out⟩
theorem own_block' {w : World} {base : Nat} {e : TypeId} {sz : Nat} {a : Option Addr} {n c : Nat} {xs : List Value} (h : w.ownsRow base e sz (.slice a n c) n xs) : a = none ∨ ∃ G, a = some ⟨G, 0, none⟩ := by
  rcases h.2 with ⟨hv, _⟩ | ⟨g, cap, cur, hv, _⟩
  · cases hv; exact .inl rfl
  · cases hv; exact .inr ⟨_, rfl⟩
theorem MsR.offRow {w w' : World} {x : List Value} {M : Ms} {G : Nat} (h : MsR w x M) (ho : Off (· = G) w w') (hG : ∃ cs fr, w.heap[G]? = some (.cells cs 31 fr)) : MsR w' x M := by
  obtain ⟨cs, fr, hh⟩ := hG
  have hne : ∀ {t : TypeId} {a : Option Addr} {c : Nat} {xs : List Value}, t ≠ 31 → TRd w t a c xs → TRd w' t a c xs := fun hn ht => ht.offB ho fun b o hx ha e => by
    subst e
    obtain ⟨cs', fr', hh'⟩ := ht.2 b o hx ha
    rw [hh] at hh'
    cases hh'
    exact hn rfl
  obtain ⟨an, cn, ad, cd, k1, k2, k3⟩ := h
  exact ⟨an, cn, ad, cd, k1, hne (by decide) k2, hne (by decide) k3⟩

set_option maxRecDepth 100000 in
set_option maxHeartbeats 4000000 in
theorem drop_f (w : World) (F : Nat → Prop) (g : Nat) (L : List Ms) (hF : NetF 26 w F g L) (hL : L.length ≤ 4096) (z : Int) :
    Calls Try.prog 19 #[.pointer (some ⟨g, 0, none⟩), .int .i64 z] w (DropP 26 w F g L z) := by
  obtain ⟨K, hK⟩ : ∃ K, K = w.heap.size := ⟨_, rfl⟩
  obtain ⟨W0, hW0⟩ : ∃ W0, W0 = w.alloc (.cells #[.int .i64 z] 3) := ⟨_, rfl⟩
  have hb0 : Below w.heap.size w W0 := by rw [hW0]; exact (Below.refl _ _).alloc (Nat.le_refl _) _
  have hZ : BlkV W0 K 3 #[.int .i64 z] := by rw [hW0, hK]; exact BlkV.new w _ _
  have k0 := hZ.cell 0
  simp only [List.getElem?_toArray, List.getElem?_cons_zero] at k0
  have hF0 := hF.kept hb0
  have hlt := hF.lt
  obtain ⟨a, c, xs, h1, h2, h3, hv4, hv5⟩ : ∃ a c xs, BlkV W0 g 26 #[.slice a L.length c] ∧ W0.ownsRow 0 31 5 (.slice a L.length c) L.length xs ∧ RowR W0 xs L ∧ (∀ k, (Value.slice a L.length c).ownBlock = some k → F k) ∧ ∀ u ∈ xs, ValF F u := by
    obtain ⟨⟨v, xs, e1, e2, e3, e4, e5⟩, _, _⟩ := hF0
    obtain ⟨a, c, rfl⟩ := own_slice e2
    exact ⟨a, c, xs, e1, e2, e3, e4, e5⟩
  have hFg := hF.own
  obtain ⟨n, hn⟩ : ∃ n, n = L.length := ⟨_, rfl⟩
  rw [← hn] at h1 h2 hL hv4
  unfold DropP
  have c0 := h1.cell 0
  have z0 := h1.lt
  simp only [List.getElem?_toArray, List.getElem?_cons_zero] at c0
  have hKl : K < W0.heap.size := hZ.lt
  have HK := Lib.hid hK
  have HW0 := Lib.hid hW0
  have HB0 := Lib.hid hb0
  have HF0 := Lib.hid hF0
  have HFG := Lib.hid hFg
  have HLT := Lib.hid hlt
  have HN := Lib.hid hn
  have HV4 := Lib.hid hv4
  have HV5 := Lib.hid hv5
  have HF := Lib.hid hF
  rcases own_block' h2 with ha | ⟨G, ha⟩
  · subst ha
    have hn0 : n = 0 := by rcases h2.2 with ⟨_, h0⟩ | ⟨_, _, _, hv, _⟩; exact h0; cases hv
    have hc0 : c = 0 := by rcases h2.2 with ⟨h0, _⟩ | ⟨_, _, _, hv, _⟩; cases h0; rfl; cases hv
    subst hc0
    have hLn : L = [] := List.eq_nil_of_length_eq_zero (by omega)
    subst hLn
    subst hn0
    have hdel := deleteFn_nil W0 K z k0 hKl
    have hd0 : dropL [] z = [] := rfl
    have HDEL := Lib.hid hdel
    have HD0 := Lib.hid hd0
    unfold delV at HDEL
    clear hdel hd0 h1 h2 h3 hF0 hF hlt hFg hn hv4 hv5 hZ hK hW0 hb0
    go_enter Try.func19, Try.ntmps19
    go_upto_region 1 with (fail)
    rw [← HW0.out, ← HK.out]
    clear HW0
    go_wp2_with fail
    refine HDEL.out.mono ?_
    rintro e w3 ⟨rfl, hb3⟩
    have hb03 : Below w.heap.size w w3 := HB0.out.trans (hb3.mono HB0.out.size)
    obtain ⟨hfin, hoff⟩ := renew_end (T := 26) (L' := []) (v' := .slice none 0 0) (ys := []) (by decide) (by decide) (by decide) HF.out hb03 (World.ownsRow_nil _ _ _ _) rfl (fun u hu => by cases hu)
    have HFIN := Lib.hid hfin
    have HOFF := Lib.hid hoff
    have h13 := HF0.out.kept hb3
    obtain ⟨a3, c3, xs3, h13, _, _⟩ := h13.len0
    have i0 := h13.cell 0
    have if0 := h13.frozen 0
    have z3 := h13.lt
    simp only [List.getElem?_toArray, List.getElem?_cons_zero] at i0
    clear hfin hoff hb3 hb03 h13
    go_wp2
    go_ret
    rw [HD0.out]
    exact ⟨rfl, HFIN.out, HOFF.out⟩
  · subst ha
    have hdel := deleteFn_f W0 G c n L xs hn hL h2 h3 K z k0 hKl (by
      rintro rfl
      obtain ⟨cs, fr, hh⟩ := own_type h2 K rfl
      rw [show W0.heap[K]? = _ from hZ] at hh
      cases hh)
    have hgG : g ≠ G := by
      rintro rfl
      obtain ⟨cs, fr, hh⟩ := own_type h2 g rfl
      rw [show W0.heap[g]? = _ from h1] at hh
      cases hh
    have hty := own_type h2 G rfl
    have HDEL := Lib.hid hdel
    have HGG := Lib.hid hgG
    have HTY := Lib.hid hty
    have H1 := Lib.hid h1
    unfold delV at HDEL
    clear hdel hgG hty h1 h2 h3 hF0 hF hlt hFg hn hv4 hv5 hZ hK hW0 hb0
    go_enter Try.func19, Try.ntmps19
    go_upto_region 1 with (fail)
    rw [← HW0.out, ← HK.out]
    clear HW0
    go_wp2_with fail
    refine HDEL.out.mono ?_
    rintro e w3 ⟨zs, rfl, ho3, hr3, hz3, hO3⟩
    have hml := dropL_le L z
    rw [← HN.out] at hml
    obtain ⟨m, hm⟩ : ∃ m, m = (dropL L z).length := ⟨_, rfl⟩
    rw [← hm] at ho3 hml ⊢
    have m1 := H1.out.off hO3 HGG.out
    have hs : ∀ q, q ≠ g → (w3.setCell ⟨g, 0, none⟩ (.slice (some ⟨G, 0, none⟩) m c)).heap[q]? = w3.heap[q]? := fun q hq => Below.heap_setCell w3 ⟨g, 0, none⟩ _ q hq
    have hFG : F G := HV4.out G rfl
    have hoff : Off F w (w3.setCell ⟨g, 0, none⟩ (.slice (some ⟨G, 0, none⟩) m c)) :=
      ((Off.ofBelow HB0.out).then (hO3.mono fun x hx _ => by rw [hx]; exact hFG)).then (Off.setCell (p := ⟨g, 0, none⟩) HFG.out _)
    have hfin : NetF 26 (w3.setCell ⟨g, 0, none⟩ (.slice (some ⟨G, 0, none⟩) m c)) (grew F w (w3.setCell ⟨g, 0, none⟩ (.slice (some ⟨G, 0, none⟩) m c))) g (dropL L z) := by
      refine ⟨⟨.slice (some ⟨G, 0, none⟩) m c, zs, m1.set 0 _, own_len (own_other ho3 m1 (by decide) hs) hm, (hr3.map fun x M' h => MsR.offRow h hO3 HTY.out).map fun x M' h => MsR.same h m1 (by decide) (by decide) hs, ?_, fun u hu => (HV5.out u (hz3 u hu)).mono fun q hq => .inl hq⟩, .inl HFG.out, ?_⟩
      · intro q hq
        cases hq
        exact .inl hFG
      · intro q hq
        rcases hq with h | h
        · have := HLT.out q h
          have := hoff.size
          omega
        · exact h.2
    have HFIN := Lib.hid hfin
    have HOFF := Lib.hid hoff
    have HM := Lib.hid hm
    have i0 := m1.cell 0
    have if0 := m1.frozen 0
    have z3 := m1.lt
    simp only [List.getElem?_toArray, List.getElem?_cons_zero] at i0
    have hw8 : IntKind.i64.wrap ((n : Int) - (m : Int)) = (n : Int) - (m : Int) := IntWalk.i64_in _ (by omega)
    clear hfin hoff hs hFG ho3 hr3 hz3 hO3 m1 hm
    go_wp2
    go_ret
    exact ⟨ret_int (by rw [HN.out, HM.out]), HFIN.out, HOFF.out⟩
end Go.Proofs.Ytoagneajlfglcaa
