/- The law FidTurned: the walk. -/
import Derived.Test.YtbigihlepdpccaaDoorFidTexts
import Derived.Test.YtbigihlepdpccaaDoorIdx
import Derived.Test.YtbigihlepdpccaaDoorFlip
namespace Go.Proofs.YtbigihlepdpccaaDoor
open Go Go.RowKit

/-- '[]byte(s)', to be written: no byte of it is frozen. -/
theorem bytes_convW (l : List UInt8) (w : World) : ∃ c w1, (convert 9 38 (.string ⟨l.toArray⟩)).run Tryd.prog w = .ok (.slice (some ⟨w.heap.size, 0, none⟩) l.length c) w1 ∧ Below w.heap.size w w1 ∧ Cs w1 (some ⟨w.heap.size, 0, none⟩) (B8 l) ∧ w.heap.size < w1.heap.size ∧
    ∀ j, j < l.length → w1.frozen? ⟨w.heap.size, j, none⟩ = false := by
  have h := run_bytes_of_string (P := Tryd.prog) w 9 38 5 ⟨l.toArray⟩ Tryd.underlying9 Tryd.underlying38 Tryd.underlying5
  refine ⟨_, _, h, ((Below.refl _ _).drew).alloc (Nat.le_refl _) _, ?_, by simp, ?_⟩
  · intro j u hu
    refine ⟨w.heap.size, 0, rfl, ?_⟩
    have hsz : (bytesRow ⟨l.toArray⟩ (grownCap w (ByteArray.mk l.toArray).size 0 5))[0 + j]? = some u := by
      have hj : j < l.length := by
        have := (List.getElem?_eq_some_iff.1 hu).1
        rwa [B8_length] at this
      rw [Nat.zero_add]
      unfold bytesRow
      rw [Array.getElem?_append_left (by simpa using hj)]
      rw [← hu]
      simp [B8]
    rw [show w.heap.size = w.drew.heap.size from rfl, World.cell?_alloc_mark]
    exact hsz
  · intro j hj
    have hs : l.length ≤ (bytesRow ⟨l.toArray⟩ (grownCap w (ByteArray.mk l.toArray).size 0 5)).size := by
      unfold bytesRow; simp
    have hh := heap_alloc_new w.drew (.cells (bytesRow ⟨l.toArray⟩ (grownCap w (ByteArray.mk l.toArray).size 0 5)) 5 ((bytesRow ⟨l.toArray⟩ (grownCap w (ByteArray.mk l.toArray).size 0 5)).size, (bytesRow ⟨l.toArray⟩ (grownCap w (ByteArray.mk l.toArray).size 0 5)).size + 1))
    have hh2 : (w.drew.alloc (.cells (bytesRow ⟨l.toArray⟩ (grownCap w (ByteArray.mk l.toArray).size 0 5)) 5 ((bytesRow ⟨l.toArray⟩ (grownCap w (ByteArray.mk l.toArray).size 0 5)).size, (bytesRow ⟨l.toArray⟩ (grownCap w (ByteArray.mk l.toArray).size 0 5)).size + 1))).heap[w.heap.size]? = _ := hh
    simp only [World.frozen?, hh2]
    simp
    omega

theorem textL_len (v : Nat) (key : UInt64) (c : UInt32) (h1 : v ≠ 0) : 12 ≤ (textL v key c).length ∧ (v < 100000000 → (textL v key c).length ≤ 40) := by
  have a1 := decL_pos v h1
  have a2 := hexL_pos key.toNat 1 (by decide)
  have a3 := hexL8_len c.toNat c.toNat_lt
  have a4 : (HX key.toNat 1).length = (hexL key.toNat 1).length := rfl
  have a5 : (HX c.toNat 8).length = (hexL c.toNat 8).length := rfl
  have a6 := HX_le key.toNat 1
  unfold textL
  simp only [List.length_append, List.length_singleton]
  refine ⟨by omega, fun h => ?_⟩
  have := decL_len v h
  omega
/-- What Parse hands back for another text: another file id, or none. -/
def PT (n : Nat) (key : UInt64) (c : UInt32) (e : Ending) : Prop :=
  (∃ (v : Nat) (k : UInt64) (q : UInt32), ¬ (v = n ∧ k.toNat = key.toNat ∧ q.toNat = c.toNat) ∧ e = .returned (.tuple #[.agg #[.int .i64 (v : Int), .int .u64 (k.toNat : Int), .int .u32 (q.toNat : Int)], .int .i64 0])) ∨
  e = .returned (.tuple #[.agg #[.int .i64 0, .int .u64 0, .int .u32 0], .int .i64 3])
theorem parse_other (n : Nat) (key : UInt64) (c : UInt32) (T : List UInt8) (hT : T ≠ textL n key c) (hl : T.length < 4294967281) (w : World) (m : Int) (hm : w.cell? ⟨0, 0, none⟩ = some (.int .i64 m)) :
    Calls Tryd.prog 9 #[.string ⟨T.toArray⟩] w fun e w' => PT n key c e ∧ Below w.heap.size w w' := by
  by_cases h : IsText T
  · obtain ⟨v, k, q, h1, h2, h3, rfl⟩ := h
    refine (parse_ok v k q h1 h2 h3 w m hm).mono ?_
    rintro e w' ⟨rfl, hb⟩
    refine ⟨.inl ⟨v, k, q, ?_, rfl⟩, hb⟩
    rintro ⟨rfl, e1, e2⟩
    exact hT (by rw [UInt64.toNat_inj.1 e1, UInt32.toNat_inj.1 e2])
  · refine (parse_no T hl h w m hm).mono ?_
    rintro e w' ⟨rfl, hb⟩
    exact ⟨.inr rfl, hb⟩

set_option maxRecDepth 100000 in
set_option maxHeartbeats 4000000 in
theorem fidTurned_any (v : Int) (key : UInt64) (c : UInt32) (k : Int) (d : UInt8) (w : World) (m : Int) (hm : w.cell? ⟨0, 0, none⟩ = some (.int .i64 m)) :
    Calls Tryd.prog 5 #[fidV v key c, .int .i64 k, .int .u8 (d.toNat : Int)] w fun e w' => e = .returned (.bool true) ∧ Below w.heap.size w w' := by
  have hb0 : Below w.heap.size w (w.alloc (.cells #[.int .i64 v, .int .u64 (key.toNat : Int), .int .u32 (c.toNat : Int)] 25)) := (Below.refl _ _).alloc (Nat.le_refl _) _
  by_cases hbad : v < 1 ∨ 99999999 < v ∨ key.toNat = 0
  · have c1 := text_bad v key c hbad
    clear hbad
    unfold fidV at c1 ⊢
    go_enter Tryd.func5, Tryd.ntmps5
    go_wp2_with fail
    refine (c1 _).mono ?_
    rintro e w1 ⟨rfl, hb1⟩
    have hc1 := hb0.trans (hb1.mono (by simp))
    clear hb1 hb0
    go_wp2_with fail
    refine (fidKnown_any _).mono ?_
    rintro e w3 ⟨rfl, hb3⟩
    have hc3 := hc1.trans (hb3.mono hc1.size)
    go_wp2
    go_ret
    exact ⟨rfl, hc3⟩
  · obtain ⟨n, rfl⟩ : ∃ n : Nat, v = n := ⟨v.toNat, by omega⟩
    have c1 := text_ok n key c (by omega) (by omega) (by omega)
    obtain ⟨hS12, hS40⟩ := textL_len n key c (by omega)
    have hS40 := hS40 (by omega)
    obtain ⟨S, hS⟩ : ∃ S, S = textL n key c := ⟨_, rfl⟩
    rw [← hS] at c1 hS12 hS40
    have HS := Lib.hid hS
    clear hbad hS
    unfold fidV at c1 ⊢
    by_cases hd0 : d.toNat = 0
    · have hd : ((d.toNat : Int) == 0) = true := by rw [beq_iff_eq]; omega
      clear hd0
      go_enter Tryd.func5, Tryd.ntmps5
      go_wp2_with fail
      refine (c1 _).mono ?_
      rintro e w1 ⟨rfl, hb1⟩
      have hc1 := hb0.trans (hb1.mono (by simp))
      clear hb1 hb0
      go_wp2_with fail
      refine (fidKnown_any _).mono ?_
      rintro e w3 ⟨rfl, hb3⟩
      have hc3 := hc1.trans (hb3.mono hc1.size)
      go_wp2
      go_ret
      exact ⟨rfl, hc3⟩
    · have hd : ¬ (d.toNat : Int) = 0 := by omega
      have hlen : ¬ (S.length : Int) < 12 := by omega
      have hs := World.block_lt_of_cell? _ _ hm
      go_enter Tryd.func5, Tryd.ntmps5
      go_wp2_with fail
      refine (c1 _).mono ?_
      rintro e w1 ⟨rfl, hb1⟩
      have hB1 := (BlkV.new w 25 #[.int .i64 n, .int .u64 (key.toNat : Int), .int .u32 (c.toNat : Int)]).below hb1
      have hc1 := hb0.trans (hb1.mono (by simp))
      clear hb1 hb0
      have hnz : ¬ (S.length : Int) = 0 := by omega
      obtain ⟨j, hj, hpl⟩ := place k (show 0 < S.length by omega)
      have hwr := place_wrap (at' := k) (show 0 < S.length by omega) (by omega)
      obtain ⟨cp, w2, hconv, hbw, hcs, hR, hfr⟩ := bytes_convW S w1
      have hfj := hfr j hj
      obtain ⟨b, o, hbo, hcell⟩ := hcs.b8 j hj
      simp only [Option.some.injEq, Addr.mk.injEq, and_true] at hbo
      obtain ⟨rfl, rfl⟩ := hbo
      rw [Nat.zero_add] at hcell
      obtain ⟨x, hx⟩ : ∃ x, x = S[j] := ⟨_, rfl⟩
      rw [← hx] at hcell
      have hxr := u8_bin_xor x d
      obtain ⟨y, hy⟩ : ∃ y, y = x ^^^ d := ⟨_, rfl⟩
      rw [← hy] at hxr
      have hyx : y ≠ x := by rw [hy]; exact xor_ne _ _ (fun e => hd0 (by rw [e]; rfl))
      have hTS : S.set j y ≠ textL n key c := by
        rw [← HS.out]
        intro e
        apply hyx
        have := congrArg (fun l => l[j]?) e
        simp [hj] at this
        rw [this, hx]
      have hPo := parse_other n key c (S.set j y) hTS (by rw [List.length_set]; omega)
      have hold : ∀ i, i ≠ j → (w2.setCell ⟨w1.heap.size, j, none⟩ (.int .u8 (y.toNat : Int))).cell? ⟨w1.heap.size, i, none⟩ = w2.cell? ⟨w1.heap.size, i, none⟩ := fun i hi => World.cell?_setCell_other _ _ _ _ (fun e => hi (by have := congrArg Addr.off e; exact this.symm))
      have hback : (convert 38 9 (.slice (some ⟨w1.heap.size, 0, none⟩) S.length cp)).run Tryd.prog (w2.setCell ⟨w1.heap.size, j, none⟩ (.int .u8 (y.toNat : Int))) = .ok (.string ⟨(S.set j y).toArray⟩) (w2.setCell ⟨w1.heap.size, j, none⟩ (.int .u8 (y.toNat : Int))) := by
        have := run_convert_bytes_back (P := Tryd.prog) (w2.setCell ⟨w1.heap.size, j, none⟩ (.int .u8 (y.toNat : Int))) 38 9 5 ⟨w1.heap.size, 0, none⟩ cp (S.set j y) Tryd.underlying38 Tryd.underlying5 Tryd.underlying9
          (fun i hi => by
            rw [Addr.add_lit, Nat.zero_add]
            rw [List.length_set] at hi
            by_cases hij : i = j
            · subst hij
              rw [World.cell?_setCell_same _ _ _ hcell]; simp
            · rw [hold i hij, cs_at hcs i _ (B8_get S i hi), List.getElem_set_ne (fun e => hij e.symm)])
        rwa [List.length_set] at this
      have hc2 := hc1.trans (hbw.mono hc1.size)
      have hc3 := hc2.setCell (p := ⟨w1.heap.size, j, none⟩) hc1.size (.int .u8 (y.toNat : Int))
      have hB2 := hB1.below hbw
      have hB3 := hB2.far (show w.heap.size ≠ w1.heap.size by have := hB1.lt; omega) j (.int .u8 (y.toNat : Int))
      have hm3 : (w2.setCell ⟨w1.heap.size, j, none⟩ (.int .u8 (y.toNat : Int))).cell? ⟨0, 0, none⟩ = some (.int .i64 m) := by rw [hc3.cell hs]; exact hm
      obtain ⟨W3, hW3⟩ : ∃ W3, W3 = w2.setCell ⟨w1.heap.size, j, none⟩ (.int .u8 (y.toNat : Int)) := ⟨_, rfl⟩
      have hji : (j : Int) < (S.length : Int) := by omega
      clear hold hcs hfr hbw hR hTS hyx hx hy hd0 hB1 hB2 hc1 hc2 hW3 HS hj
      rcases hpl with ⟨h1, h2⟩ | ⟨h1, h2⟩
      · (
        go_wp2_with fail
        refine (hPo _ m hm3).mono ?_
        rintro e w5 ⟨he, hb5⟩
        have hc5 := hc3.trans (hb5.mono hc3.size)
        have hB5 := hB3.below hb5
        have q0 : ∀ o, (w5.alloc o).cell? ⟨w.heap.size, 0, none⟩ = some (.int .i64 n) := fun o => (hB5.alloc o).cell 0
        have q1 : ∀ o, (w5.alloc o).cell? ⟨w.heap.size, 1, none⟩ = some (.int .u64 (key.toNat : Int)) := fun o => (hB5.alloc o).cell 1
        have q2 : ∀ o, (w5.alloc o).cell? ⟨w.heap.size, 2, none⟩ = some (.int .u32 (c.toNat : Int)) := fun o => (hB5.alloc o).cell 2
        have hc6 : ∀ o, Below w.heap.size w (w5.alloc o) := fun o => hc5.alloc hc5.size o
        clear hb5 hB5 hB3 hc3
        rcases he with ⟨v', k', q', hdif, rfl⟩ | rfl
        · have hst : (((v' : Int) == (n : Int)) && (((k'.toNat : Int) == (key.toNat : Int)) && ((q'.toNat : Int) == (c.toNat : Int)))) = false := by
            rw [Bool.eq_false_iff]
            intro hh
            simp only [Bool.and_eq_true, beq_iff_eq] at hh
            exact hdif (by omega)
          by_cases d1 : (v' : Int) = (n : Int)
          · by_cases d2 : (k'.toNat : Int) = (key.toNat : Int)
            · have d3 : ¬ (q'.toNat : Int) = (c.toNat : Int) := fun e => hdif (by omega)
              clear hdif hst
              go_wp2_with fail
              refine (fidKnown_any _).mono ?_
              rintro e w7 ⟨rfl, hb7⟩
              have hc7 := (hc6 _).trans (hb7.mono (hc6 _).size)
              go_wp2
              go_ret
              exact ⟨rfl, hc7⟩
            · clear hdif hst
              go_wp2_with fail
              refine (fidKnown_any _).mono ?_
              rintro e w7 ⟨rfl, hb7⟩
              have hc7 := (hc6 _).trans (hb7.mono (hc6 _).size)
              go_wp2
              go_ret
              exact ⟨rfl, hc7⟩
          · clear hdif hst
            go_wp2_with fail
            refine (fidKnown_any _).mono ?_
            rintro e w7 ⟨rfl, hb7⟩
            have hc7 := (hc6 _).trans (hb7.mono (hc6 _).size)
            go_wp2
            go_ret
            exact ⟨rfl, hc7⟩
        · go_wp2_with fail
          refine (fidKnown_any _).mono ?_
          rintro e w7 ⟨rfl, hb7⟩
          have hc7 := (hc6 _).trans (hb7.mono (hc6 _).size)
          go_wp2
          go_ret
          exact ⟨rfl, hc7⟩)
      · (
        go_wp2_with fail
        refine (hPo _ m hm3).mono ?_
        rintro e w5 ⟨he, hb5⟩
        have hc5 := hc3.trans (hb5.mono hc3.size)
        have hB5 := hB3.below hb5
        have q0 : ∀ o, (w5.alloc o).cell? ⟨w.heap.size, 0, none⟩ = some (.int .i64 n) := fun o => (hB5.alloc o).cell 0
        have q1 : ∀ o, (w5.alloc o).cell? ⟨w.heap.size, 1, none⟩ = some (.int .u64 (key.toNat : Int)) := fun o => (hB5.alloc o).cell 1
        have q2 : ∀ o, (w5.alloc o).cell? ⟨w.heap.size, 2, none⟩ = some (.int .u32 (c.toNat : Int)) := fun o => (hB5.alloc o).cell 2
        have hc6 : ∀ o, Below w.heap.size w (w5.alloc o) := fun o => hc5.alloc hc5.size o
        clear hb5 hB5 hB3 hc3
        rcases he with ⟨v', k', q', hdif, rfl⟩ | rfl
        · have hst : (((v' : Int) == (n : Int)) && (((k'.toNat : Int) == (key.toNat : Int)) && ((q'.toNat : Int) == (c.toNat : Int)))) = false := by
            rw [Bool.eq_false_iff]
            intro hh
            simp only [Bool.and_eq_true, beq_iff_eq] at hh
            exact hdif (by omega)
          by_cases d1 : (v' : Int) = (n : Int)
          · by_cases d2 : (k'.toNat : Int) = (key.toNat : Int)
            · have d3 : ¬ (q'.toNat : Int) = (c.toNat : Int) := fun e => hdif (by omega)
              clear hdif hst
              go_wp2_with fail
              refine (fidKnown_any _).mono ?_
              rintro e w7 ⟨rfl, hb7⟩
              have hc7 := (hc6 _).trans (hb7.mono (hc6 _).size)
              go_wp2
              go_ret
              exact ⟨rfl, hc7⟩
            · clear hdif hst
              go_wp2_with fail
              refine (fidKnown_any _).mono ?_
              rintro e w7 ⟨rfl, hb7⟩
              have hc7 := (hc6 _).trans (hb7.mono (hc6 _).size)
              go_wp2
              go_ret
              exact ⟨rfl, hc7⟩
          · clear hdif hst
            go_wp2_with fail
            refine (fidKnown_any _).mono ?_
            rintro e w7 ⟨rfl, hb7⟩
            have hc7 := (hc6 _).trans (hb7.mono (hc6 _).size)
            go_wp2
            go_ret
            exact ⟨rfl, hc7⟩
        · go_wp2_with fail
          refine (fidKnown_any _).mono ?_
          rintro e w7 ⟨rfl, hb7⟩
          have hc7 := (hc6 _).trans (hb7.mono (hc6 _).size)
          go_wp2
          go_ret
          exact ⟨rfl, hc7⟩)
end Go.Proofs.YtbigihlepdpccaaDoor
