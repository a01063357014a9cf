/- fid's Parse of what is no text of a file id. -/
import Derived.Test.YtbigihlepdpccaaDoorFidParse
namespace Go.Proofs.YtbigihlepdpccaaDoor
open Go Go.RowKit

def VAny6 (e : Ending) : Prop := ∃ (V : UInt64) (b : Bool), e = .returned (.tuple #[.int .u64 (V.toNat : Int), .bool b])
theorem value_any6 (base most : Nat) (l : List UInt8) (hm : most ≤ 16) (w : World) :
    Calls Tryd.prog 16 #[.string ⟨l.toArray⟩, .int .u64 base, .int .i64 most] w fun e w' => VAny6 e ∧ Below w.heap.size w w' := by
  refine (value_any base most l hm w).mono ?_
  rintro e w' ⟨⟨V, b, hV, rfl⟩, hb⟩
  refine ⟨⟨UInt64.ofNat V, b, ?_⟩, hb⟩
  rw [UInt64.toNat_ofNat', Nat.mod_eq_of_lt (by omega)]
/-- What a text is of. -/
def IsText (S : List UInt8) : Prop := ∃ (v : Nat) (key : UInt64) (c : UInt32), 1 ≤ v ∧ v ≤ 99999999 ∧ key.toNat ≠ 0 ∧ textL v key c = S
def TAny (S : List UInt8) (e : Ending) : Prop := (∃ t : List UInt8, t ≠ S ∧ e = .returned (.tuple #[.string ⟨t.toArray⟩, .int .i64 0])) ∨ e = .returned (.tuple #[.string ⟨#[]⟩, .int .i64 1])
theorem text_any (S : List UInt8) (hno : ¬ IsText S) (v : Int) (key : UInt64) (c : UInt32) (w : World) :
    Calls Tryd.prog 6 #[fidV v key c] w fun e w' => TAny S e ∧ Below w.heap.size w w' := by
  by_cases h : v < 1 ∨ 99999999 < v ∨ key.toNat = 0
  · refine (text_bad v key c h w).mono ?_
    rintro e w' ⟨rfl, hb⟩
    exact ⟨.inr rfl, hb⟩
  · obtain ⟨n, rfl⟩ : ∃ n : Nat, v = n := ⟨v.toNat, by omega⟩
    refine (text_ok n key c (by omega) (by omega) (by omega) w).mono ?_
    rintro e w' ⟨rfl, hb⟩
    exact ⟨.inl ⟨_, fun e => hno ⟨n, key, c, by omega, by omega, by omega, e⟩, rfl⟩, hb⟩

set_option maxRecDepth 100000 in
set_option maxHeartbeats 2000000 in
theorem parse_no (S : List UInt8) (hs : S.length < 4294967281) (hno : ¬ IsText S) (w : World) (m : Int) (hm : w.cell? ⟨0, 0, none⟩ = some (.int .i64 m)) :
    Calls Tryd.prog 9 #[.string ⟨S.toArray⟩] w fun e w' => e = .returned (.tuple #[fidV 0 0 0, .int .i64 3]) ∧ Below w.heap.size w w' := by
  obtain ⟨L, hL⟩ : ∃ L, Lib.splitK [44] 0 (min 4 (S.length + 1) - 1) S = L := ⟨_, rfl⟩
  have hspl := split_any S hs m (w.alloc (.cells #[.int .i64 0, .int .u64 0, .int .u32 0] 25)) (by rw [World.cell?_alloc_old _ _ _ (Nat.ne_of_lt (World.block_lt_of_cell? _ _ hm))]; exact hm) L hL
  have hT := text_any S hno
  show Calls _ _ _ _ fun e w' => e = .returned (.tuple #[.agg #[.int .i64 0, .int .u64 0, .int .u32 0], .int .i64 3]) ∧ Below w.heap.size w w'
  by_cases h3 : L.length = 3
  · obtain ⟨A, B, C, rfl⟩ : ∃ A B C, L = [A, B, C] := by
      match L, h3 with
      | [A, B, C], _ => exact ⟨A, B, C, rfl⟩
    have vA := value_any6 10 8 A (by decide)
    have vB := value_any6 16 16 B (by decide)
    have vC := value_any6 16 8 C (by decide)
    have hD := decimal_any 99999999 (by decide) (by decide)
    rw [show (decL 99999999) = [57, 57, 57, 57, 57, 57, 57, 57] by decide +kernel] at hD
    unfold fidV at hT
    clear hL hno hs
    go_enter Tryd.func9, Tryd.ntmps9
    go_wp2_with fail
    refine hspl.mono ?_
    rintro e W1 ⟨N, rfl, hb1, hcs, hsz⟩
    have hBZ := (BlkV.new w 25 #[.int .i64 0, .int .u64 0, .int .u32 0]).below hb1
    have hbb : Below w.heap.size w W1 := ((Below.refl _ _).alloc (Nat.le_refl _) _).trans (hb1.mono (by simp))
    have hP : PK w w.heap.size (.string ⟨A.toArray⟩) (.string ⟨B.toArray⟩) (.string ⟨C.toArray⟩) W1 := by
      rw [show (w.alloc (.cells #[.int .i64 0, .int .u64 0, .int .u32 0] 25)).heap.size = w.heap.size + 1 by simp] at hcs
      exact ⟨cs_at hcs 0 _ rfl, cs_at hcs 1 _ rfl, cs_at hcs 2 _ rfl, hbb, hBZ⟩
    clear hcs hsz hb1 hBZ hbb
    go_wp2_with fail
    obtain ⟨G, hG⟩ : ∃ G, G = w.heap.size := ⟨_, rfl⟩
    rw [← hG] at hP ⊢
    have HG := Lib.hid hG
    clear hG h3
    go_region_held3 (fun W => W.cell? ⟨G + 1, 0, none⟩ = some (.string ⟨A.toArray⟩) ∧ W.cell? ⟨G + 1, 1, none⟩ = some (.string ⟨B.toArray⟩) ∧ W.cell? ⟨G + 1, 2, none⟩ = some (.string ⟨C.toArray⟩) ∧ Below G w W ∧ BlkV W G 25 #[.int .i64 0, .int .u64 0, .int .u32 0])
      (first
        | exact PK.drew hP
        | exact PK.kept (by assumption) (by assumption))
      (first
        | (go_at_call 11; refine (hD _).mono ?_; rintro e w1 ⟨rfl, hb1⟩)
        | (go_at_call 16; refine (vA _).mono ?_; rintro e w1 ⟨⟨V1, b1, rfl⟩, hb1⟩))
    rename_i hH
    have hP2 : PK w G (.string ⟨A.toArray⟩) (.string ⟨B.toArray⟩) (.string ⟨C.toArray⟩) w1 := hH
    obtain ⟨p0, p1, p2, p3, p4⟩ := hH
    clear hP
    go_wp2_with fail
    refine (vB _).mono ?_
    rintro e W3 ⟨⟨V2, b2, rfl⟩, hb3⟩
    have hP3 := hP2.kept hb3
    clear hP2 p0 p1 p2 p3 p4 hb3
    obtain ⟨p0, p1, p2, p3, p4⟩ := id hP3
    go_wp2_with fail
    refine (vC _).mono ?_
    rintro e W4 ⟨⟨V3, b3, rfl⟩, hb4⟩
    have hP4 := hP3.kept hb4
    clear hP3 p0 p1 p2 p3 p4 hb4
    obtain ⟨p0, p1, p2, p3, p4⟩ := id hP4
    obtain ⟨z, hz⟩ : ∃ z, IntKind.i64.wrap (V1.toNat : Int) = z := ⟨_, rfl⟩
    obtain ⟨c, hcc⟩ : ∃ c : UInt32, IntKind.u32.wrap (V3.toNat : Int) = (c.toNat : Int) := by
      refine ⟨UInt32.ofNat (V3.toNat % 4294967296), ?_⟩
      rw [IntKind.wrap_u32, UInt32.toNat_ofNat', Nat.mod_eq_of_lt (Nat.mod_lt _ (by decide))]; omega
    go_wp2_with fail
    clear hcc p0 p1 p2 p3 p4
    refine (hT _ _ _ _).mono ?_
    rintro e W5 ⟨he, hb5⟩
    have hF5 := (BlkV.new W4 25 #[.int .i64 z, .int .u64 (V2.toNat : Int), .int .u32 (c.toNat : Int)]).below hb5
    have hP5 := hP4.kept (((Below.refl _ _).alloc (Nat.le_refl _) _).trans (hb5.mono (by simp)))
    obtain ⟨F, hF⟩ : ∃ F, F = W4.heap.size := ⟨_, rfl⟩
    rw [← hF] at hF5 ⊢
    clear hP4 hb5 hF
    obtain ⟨_, _, _, p3, p4⟩ := hP5
    clear hF5
    rcases he with ⟨t, hne, rfl⟩ | rfl
    · have hne1 : (t == S) = false := beq_eq_false_iff_ne.2 hne
      clear hne
      cases b1 <;> cases b2 <;> cases b3 <;> (
      go_wp2_with (with_reducible refine At.store 25 (.tmp 2) (.tmp 73) ?_)
      refine At.out (wpList_storeV rfl _ rfl (.tmp 2) (.tmp 73) rfl strF G _ #[.int .i64 0, .int .u64 0, .int .u32 0] rfl rfl p4 rfl rfl (by simp [Value.oneCell']) ?_)
      intro w2 hB2 hbel _
      have hb2 := hbel G w p3 (Nat.le_refl _)
      go_wp2_with fail
      exact bodyPost_ret (v := .tuple #[.agg #[.int .i64 0, .int .u64 0, .int .u32 0], .int .i64 3]) (results_cell2 rfl strF rfl rfl hB2 rfl) rfl ⟨rfl, HG.out ▸ hb2⟩)
    · cases b1 <;> cases b2 <;> cases b3 <;> (
      go_wp2_with (with_reducible refine At.store 25 (.tmp 2) (.tmp 73) ?_)
      refine At.out (wpList_storeV rfl _ rfl (.tmp 2) (.tmp 73) rfl strF G _ #[.int .i64 0, .int .u64 0, .int .u32 0] rfl rfl p4 rfl rfl (by simp [Value.oneCell']) ?_)
      intro w2 hB2 hbel _
      have hb2 := hbel G w p3 (Nat.le_refl _)
      go_wp2_with fail
      exact bodyPost_ret (v := .tuple #[.agg #[.int .i64 0, .int .u64 0, .int .u32 0], .int .i64 3]) (results_cell2 rfl strF rfl rfl hB2 rfl) rfl ⟨rfl, HG.out ▸ hb2⟩)
  · have hl3 : ¬ (L.length : Int) = 3 := by omega
    clear h3 hL hs
    go_enter Tryd.func9, Tryd.ntmps9
    go_wp2_with fail
    refine hspl.mono ?_
    rintro e W1 ⟨N, rfl, hb1, hcs, hsz⟩
    have hBZ := (BlkV.new w 25 #[.int .i64 0, .int .u64 0, .int .u32 0]).below hb1
    have hbb : Below w.heap.size w W1 := ((Below.refl _ _).alloc (Nat.le_refl _) _).trans (hb1.mono (by simp))
    clear hcs hsz hb1
    obtain ⟨G, hG⟩ : ∃ G, G = w.heap.size := ⟨_, rfl⟩
    rw [← hG] at hBZ hbb ⊢
    have HG := Lib.hid hG
    clear hG
    go_wp2_with (with_reducible refine At.store 25 (.tmp 2) (.tmp 19) ?_)
    refine At.out (wpList_storeV rfl _ rfl (.tmp 2) (.tmp 19) rfl strF G _ #[.int .i64 0, .int .u64 0, .int .u32 0] rfl rfl hBZ rfl rfl (by simp [Value.oneCell']) ?_)
    intro w2 hB2 hbel _
    have hb2 := hbel G w hbb (Nat.le_refl _)
    go_wp2_with fail
    exact bodyPost_ret (v := .tuple #[.agg #[.int .i64 0, .int .u64 0, .int .u32 0], .int .i64 3]) (results_cell2 rfl strF rfl rfl hB2 rfl) rfl ⟨rfl, HG.out ▸ hb2⟩
end Go.Proofs.YtbigihlepdpccaaDoor
