/- fid's Parse: the contract. -/
import Derived.Test.YtbigihlepdpccaaDoorFidVal
import Derived.Test.YtbigihlepdpccaaDoorBlkV
import Derived.Test.YtbigihlepdpccaaDoorShelf15
namespace Go.Proofs.YtbigihlepdpccaaDoor
open Go Go.RowKit

def BS (L : List (List UInt8)) : List Value := L.map fun l => .string ⟨l.toArray⟩
/-- strings.SplitN(s, ",", 4). -/
theorem split_any (S : List UInt8) (hs : S.length < 4294967281) (m : Int) (w : World) (hm : w.cell? ⟨0, 0, none⟩ = some (.int .i64 m)) (L : List (List UInt8)) (hL : Lib.splitK [44] 0 (min 4 (S.length + 1) - 1) S = L) :
    Calls Tryd.prog 15 #[.string ⟨S.toArray⟩, .string ⟨#[44]⟩, .int .i64 4] w fun e w' => ∃ N, e = .returned (.slice (some ⟨w.heap.size, 0, none⟩) L.length N) ∧ Below w.heap.size w w' ∧ Cs w' (some ⟨w.heap.size, 0, none⟩) (BS L) ∧ w'.heap.size = w.heap.size + 1 := by
  have h := Tryd.strings_SplitN ⟨S.toArray⟩ ⟨#[44]⟩ 4 m w hs hm (by decide) (by decide) (by decide)
  have hd := Lib.splitB_data ⟨#[44]⟩ 0 (min 4 ((ByteArray.mk S.toArray).size + 1) - 1) ⟨S.toArray⟩
  have hsz : (ByteArray.mk S.toArray).size = S.length := rfl
  rw [hsz] at h hd
  have hd2 : (Lib.splitB ⟨#[44]⟩ 0 (min 4 (S.length + 1) - 1) ⟨S.toArray⟩).map (·.data.toList) = L := by rw [hd, ← hL]
  refine h.mono ?_
  rintro e w' ⟨rfl, rfl⟩
  obtain ⟨Q, hQ⟩ : ∃ Q, Q = Lib.splitB ⟨#[44]⟩ 0 (min 4 (S.length + 1) - 1) ⟨S.toArray⟩ := ⟨_, rfl⟩
  rw [← hQ] at hd2 ⊢
  refine ⟨_, by rw [← hd2, List.length_map], (Below.refl _ _).alloc (Nat.le_refl _) _, ?_, by simp⟩
  intro j u hu
  refine ⟨_, _, rfl, ?_⟩
  rw [Nat.zero_add, World.cell?_alloc_mark]
  unfold Lib.cellsOf
  have hj : j < Q.length := by
    have := (List.getElem?_eq_some_iff.1 hu).1
    simpa [BS, ← hd2] using this
  rw [← hu]
  simp [BS, ← hd2, List.getElem?_append_left, hj]
theorem strF : StrT Tryd.prog 25 3 := ⟨by
    obtain ⟨i, h1, h2, h3, h4⟩ := info_parts (show (Tryd.prog.info? 25).map (fun i => (i.zero, i.size, i.bytes)) = some (some (.agg #[.int .i64 0, .int .u64 0, .int .u32 0]), 3, 24) by kernel_rfl)
    exact ⟨i, h1, h3⟩, ⟨_, Tryd.underlying25⟩⟩

theorem cs_at {w : World} {b : Nat} {xs : List Value} (h : Cs w (some ⟨b, 0, none⟩) xs) (j : Nat) (u : Value) (hu : xs[j]? = some u) : w.cell? ⟨b, j, none⟩ = some u := by
  obtain ⟨b', o, e, q⟩ := h j u hu
  simp only [Option.some.injEq, Addr.mk.injEq, and_true] at e
  obtain ⟨rfl, rfl⟩ := e
  rw [Nat.zero_add] at q
  exact q
/-- What stays while Parse goes on: the pieces' cells, the result's block. -/
def PK (w : World) (G : Nat) (x y z : Value) (W : World) : Prop :=
  W.cell? ⟨G + 1, 0, none⟩ = some x ∧ W.cell? ⟨G + 1, 1, none⟩ = some y ∧ W.cell? ⟨G + 1, 2, none⟩ = some z ∧ Below G w W ∧ BlkV W G 25 #[.int .i64 0, .int .u64 0, .int .u32 0]
theorem PK.kept {w : World} {G : Nat} {x y z : Value} {W W' : World} (h : PK w G x y z W) (hb : Below W.heap.size W W') : PK w G x y z W' :=
  ⟨cell_kept hb h.1, cell_kept hb h.2.1, cell_kept hb h.2.2.1, below_kept hb h.2.2.2.1 (Nat.le_of_lt h.2.2.2.2.lt), h.2.2.2.2.below hb⟩
theorem PK.drew {w : World} {G : Nat} {x y z : Value} {W : World} (h : PK w G x y z W) : PK w G x y z W.drew := h.kept ((Below.refl _ _).drew)

set_option maxRecDepth 100000 in
set_option maxHeartbeats 2000000 in
theorem parse_ok (v : Nat) (key : UInt64) (c : UInt32) (hv1 : 1 ≤ v) (hv2 : v ≤ 99999999) (hk : key.toNat ≠ 0) (w : World) (m : Int) (hm : w.cell? ⟨0, 0, none⟩ = some (.int .i64 m)) :
    Calls Tryd.prog 9 #[.string ⟨(textL v key c).toArray⟩] w fun e w' => e = .returned (.tuple #[fidV v key c, .int .i64 0]) ∧ Below w.heap.size w w' := by
  obtain ⟨S, hS⟩ : ∃ S, S = textL v key c := ⟨_, rfl⟩
  obtain ⟨A, hA⟩ : ∃ A, A = decL v := ⟨_, rfl⟩
  obtain ⟨B, hB⟩ : ∃ B, B = HX key.toNat 1 := ⟨_, rfl⟩
  obtain ⟨C, hC⟩ : ∃ C, C = HX c.toNat 8 := ⟨_, rfl⟩
  have hSL : S = A ++ [44] ++ B ++ [44] ++ C := by rw [hS, hA, hB, hC]; rfl
  have kA : ∀ x ∈ A, DOk 10 x := by rw [hA]; exact decL_ok v
  have kB : ∀ x ∈ B, DOk 16 x := by rw [hB]; exact hexL_ok _ _
  have kC : ∀ x ∈ C, DOk 16 x := by rw [hC]; exact hexL_ok _ _
  have nA : 1 ≤ A.length := by rw [hA]; exact decL_pos v (by omega)
  have nA8 : A.length ≤ 8 := by rw [hA]; exact decL_len v (by omega)
  have nB : 1 ≤ B.length := by rw [hB]; exact hexL_pos _ _ (by decide)
  have nB16 : B.length ≤ 16 := by rw [hB]; exact HX_le _ _
  have nC : C.length = 8 := by rw [hC]; exact hexL8_len c.toNat c.toNat_lt
  have hlen : S.length = A.length + 1 + B.length + 1 + C.length := by rw [hSL]; simp; omega
  have hsp := split3 A B C (fun x h => dok_ne (kA x h)) (fun x h => dok_ne (kB x h)) (fun x h => dok_ne (kC x h))
  rw [← hSL, show (3 : Nat) = min 4 (S.length + 1) - 1 by omega] at hsp
  have hspl := split_any S (by omega) m (w.alloc (.cells #[.int .i64 0, .int .u64 0, .int .u32 0] 25)) (by rw [World.cell?_alloc_old _ _ _ (Nat.ne_of_lt (World.block_lt_of_cell? _ _ hm))]; exact hm) _ hsp
  have vA := value_ok 10 8 A (by decide) (by decide) (by decide) nA nA8 kA
  have vB := value_ok 16 16 B (by decide) (by decide) (by decide) nB nB16 kB
  have vC := value_ok 16 8 C (by decide) (by decide) (by decide) (by omega) (by omega) kC
  rw [show valN 10 A = v by rw [hA]; exact decL_val v (by omega)] at vA
  rw [show valN 16 B = key.toNat by rw [hB]; exact hexL_val _ _ key.toNat_lt] at vB
  rw [show valN 16 C = c.toNat by rw [hC]; exact hexL_val _ _ (Nat.lt_of_lt_of_le c.toNat_lt (by decide))] at vC
  have hD := decimal_any 99999999 (by decide) (by decide)
  have hT := text_ok v key c hv1 hv2 hk
  rw [← hS] at hT ⊢
  have HS := Lib.hid hSL
  clear hS hA hB hC hSL kA kB kC hsp hlen nA nA8 nB nB16 nC
  rw [show (decL 99999999) = [57, 57, 57, 57, 57, 57, 57, 57] by decide +kernel] at hD
  unfold fidV at hT ⊢
  go_enter Tryd.func9, Tryd.ntmps9
  go_wp2_with fail
  refine hspl.mono ?_
  rintro e W1 ⟨N, rfl, hb1, hcs, hsz⟩
  have hBZ := (BlkV.new w 25 #[.int .i64 0, .int .u64 0, .int .u32 0]).below hb1
  have hbb : Below w.heap.size w W1 := ((Below.refl _ _).alloc (Nat.le_refl _) _).trans (hb1.mono (by simp))
  have hP : PK w w.heap.size (.string ⟨A.toArray⟩) (.string ⟨B.toArray⟩) (.string ⟨C.toArray⟩) W1 := by
    rw [show (w.alloc (.cells #[.int .i64 0, .int .u64 0, .int .u32 0] 25)).heap.size = w.heap.size + 1 by simp] at hcs
    exact ⟨cs_at hcs 0 _ rfl, cs_at hcs 1 _ rfl, cs_at hcs 2 _ rfl, hbb, hBZ⟩
  clear hcs hsz hb1 hBZ hbb
  go_wp2_with fail
  obtain ⟨G, hG⟩ : ∃ G, G = w.heap.size := ⟨_, rfl⟩
  rw [← hG] at hP ⊢
  have HG := Lib.hid hG
  clear hG
  go_region_held3 (fun W => W.cell? ⟨G + 1, 0, none⟩ = some (.string ⟨A.toArray⟩) ∧ W.cell? ⟨G + 1, 1, none⟩ = some (.string ⟨B.toArray⟩) ∧ W.cell? ⟨G + 1, 2, none⟩ = some (.string ⟨C.toArray⟩) ∧ Below G w W ∧ BlkV W G 25 #[.int .i64 0, .int .u64 0, .int .u32 0])
    (first
      | exact PK.drew hP
      | exact PK.kept (by assumption) (by assumption))
    (first
      | (go_at_call 11; refine (hD _).mono ?_; rintro e w1 ⟨rfl, hb1⟩)
      | (go_at_call 16; refine (vA _).mono ?_; rintro e w1 ⟨rfl, hb1⟩))
  rename_i hH
  have hP2 : PK w G (.string ⟨A.toArray⟩) (.string ⟨B.toArray⟩) (.string ⟨C.toArray⟩) w1 := hH
  obtain ⟨p0, p1, p2, p3, p4⟩ := hH
  clear hP
  go_wp2_with fail
  refine (vB _).mono ?_
  rintro e W3 ⟨rfl, hb3⟩
  have hP3 := hP2.kept hb3
  clear hP2 p0 p1 p2 p3 p4 hb3
  obtain ⟨p0, p1, p2, p3, p4⟩ := id hP3
  go_wp2_with fail
  refine (vC _).mono ?_
  rintro e W4 ⟨rfl, hb4⟩
  have hP4 := hP3.kept hb4
  clear hP3 p0 p1 p2 p3 p4 hb4
  obtain ⟨p0, p1, p2, p3, p4⟩ := id hP4
  have hcv : IntKind.i64.wrap (v : Int) = (v : Int) := by rw [IntKind.wrap_i64]; omega
  have hcc : IntKind.u32.wrap (c.toNat : Int) = (c.toNat : Int) := by rw [IntKind.wrap_u32]; have := c.toNat_lt; omega
  go_wp2_with fail
  clear hcv hcc p0 p1 p2 p3 p4
  refine (hT _).mono ?_
  rintro e W5 ⟨rfl, hb5⟩
  have hF5 := (BlkV.new W4 25 #[.int .i64 (v : Int), .int .u64 (key.toNat : Int), .int .u32 (c.toNat : Int)]).below hb5
  have hP5 := hP4.kept (((Below.refl _ _).alloc (Nat.le_refl _) _).trans (hb5.mono (by simp)))
  obtain ⟨F, hF⟩ : ∃ F, F = W4.heap.size := ⟨_, rfl⟩
  rw [← hF] at hF5 ⊢
  clear hP4 hb5 hF
  obtain ⟨_, _, _, p3, p4⟩ := hP5
  have q0 := hF5.cell 0
  have q1 := hF5.cell 1
  have q2 := hF5.cell 2
  simp only [List.getElem?_toArray, List.getElem?_cons_succ, List.getElem?_cons_zero] at q0 q1 q2
  go_wp2_with (with_reducible refine At.store 25 (.tmp 2) (.tmp 74) ?_)
  refine At.out (wpList_storeV rfl _ rfl (.tmp 2) (.tmp 74) rfl strF G _ #[.int .i64 (v : Int), .int .u64 (key.toNat : Int), .int .u32 (c.toNat : Int)] rfl rfl p4 rfl rfl (by simp [Value.oneCell']) ?_)
  intro w2 hB2 hbel _
  have hb2 := hbel G w p3 (Nat.le_refl _)
  go_wp2_with fail
  exact bodyPost_ret (v := .tuple #[.agg #[.int .i64 (v : Int), .int .u64 (key.toNat : Int), .int .u32 (c.toNat : Int)], .int .i64 0]) (results_cell2 rfl strF rfl rfl hB2 rfl) rfl ⟨rfl, HG.out ▸ hb2⟩
end Go.Proofs.YtbigihlepdpccaaDoor
