/- frame's Scan and the document's: the contracts. Conditions: each contract's own premises. -/
import Derived.Test.YtnohhhlgfnjaoaaOwnL
import Derived.Test.YtnohhhlgfnjaoaaScanL
import Derived.Test.YtnohhhlgfnjaoaaRefDecode
namespace Go.Proofs.Ytnohhhlgfnjaoaa
open Go Go.RowKit

theorem elemR : ElemT Try.prog 38 22 1 (.slice none 0 0) 24 := ⟨Try.underlying38, info_parts (by kernel_rfl)⟩

/-- The three results of a scan. -/
def scanV (r : Value) (x : List (List UInt8) × Nat × Nat) : Value := .tuple #[r, .int .i64 (x.2.1 : Nat), .int .i64 (x.2.2 : Nat)]
def ScanPost (base : Nat) (w : World) (l : List UInt8) (e : Ending) (w' : World) : Prop := ∃ r, e = .returned (scanV r (scanR l)) ∧ OwnLL w' base 22 5 r (scanR l).1 ∧ Below base w w'
theorem ScanPost.mk {base : Nat} {w w' : World} {l : List UInt8} {r : Value} {L : List (List UInt8)} {k E : Nat} (h : scanR l = (L, k, E)) (ho : OwnLL w' base 22 5 r L) (hb : Below base w w') :
    ScanPost base w l (.returned (.tuple #[r, .int .i64 (k : Nat), .int .i64 (E : Nat)])) w' := ⟨r, by rw [h]; rfl, by rw [h]; exact ho, hb⟩

set_option maxRecDepth 100000 in
set_option maxHeartbeats 2000000 in
theorem scan_any (w : World) (a : Option Addr) (c : Nat) (l : List UInt8) (hr : Rd w a c (B8 l)) (hl : l.length ≤ 1000000) :
    Calls Try.prog 17 #[.slice a l.length c] w (ScanPost w.heap.size w l) := by
  obtain ⟨B, hB⟩ : ∃ B, B = w.heap.size := ⟨_, rfl⟩
  rw [← hB]
  have hB0 := Lib.hid hB
  have hbw : Below B w w := Below.refl _ _
  have hBs : B ≤ w.heap.size := Nat.le_of_eq hB
  clear hB
  have hli : (l.length : Int) ≤ 1000000 := by omega
  go_enter Try.func17, Try.ntmps17
  go_wp2
  go_loopw [5, 6, 7] (fun s5 s6 s7 wr => ∃ (k : Nat) (L : List (List UInt8)) (ad : Option Addr) (cd : Nat), s6 = .int .i64 k ∧ s7 = .slice ad (l.length - k) cd ∧ Rd wr ad cd (B8 (l.drop k)) ∧ OwnLL wr B 22 5 s5 L ∧ Below B w wr ∧ Hid (ScanAt l k L)) (fun _ s6 _ _ => l.length - (intOf s6).toNat)
  case atStart => exact ⟨0, [], a, c, rfl, by simp, hr, OwnLL.nil _ _ _ _, hbw, Lib.hid (ScanAt.start l)⟩
  case round =>
    obtain ⟨k, L, ad, cd, rfl, rfl, hrd, hO, hb, HA⟩ := hrel
    have hkl := HA.out.1
    have hL8 := HA.out.2.1
    have hdl : (l.drop k).length = l.length - k := by rw [List.length_drop]
    have hsz := hb.size
    by_cases hlt : k < l.length
    · have hD := decode_any wr ad cd (l.drop k) hrd
      obtain ⟨P, N, E, hR⟩ : ∃ P N E, decR (l.drop k) = (P, N, E) := ⟨_, _, _, rfl⟩
      rw [hR, hdl] at hD
      unfold decV at hD
      simp only at hD
      have hpos : (0 : Int) < (l.length : Int) - (k : Int) := by omega
      by_cases hE : E = 0
      · subst hE
        obtain ⟨hA', hkN, hN0, hNP⟩ := HA.out.next hlt P N hR
        have HA' := Lib.hid hA'
        have HNP := Lib.hid hNP
        have hkNi : (k : Int) + (N : Int) ≤ (l.length : Int) := by omega
        clear hR hA' hdl HA hNP
        go_wp2_with fail
        refine hD.mono ?_
        rintro e w1 ⟨r, rfl, ho1, hb1⟩
        clear hD
        obtain ⟨ar, cr, rfl, _⟩ := Rd.ofOwn ho1
        have hb1' : Below B w w1 := hb.trans (hb1.mono (by omega))
        have hO1 := hO.kept hb1
        have ho1' := own_base ho1 (show B ≤ wr.heap.size by omega)
        have hs1 := hb1.size
        clear ho1 hO
        go_wp2_with (with_reducible refine At.slot 32 ?_)
        obtain ⟨vs, hv1, hv2⟩ := hO1.kept ((Below.refl w1.heap.size w1).alloc (Nat.le_refl _) (.cells #[.slice ar P.length cr] 22))
        refine At.out (wpList_app rfl (.tmp 29) (.tmp 31) 38 rfl elemR rfl B _ L.length vs rfl hv1 _ 1 1 [.slice ar P.length cr] rfl rfl (Rd.one _ _ _) (by intro u hu; rw [List.mem_singleton.1 hu]; exact own_one ho1') (by unfold maxLen; omega) (by omega) (by simp; omega) ?_)
        intro v2 w2 hv3 hb2 hg2
        have hO2 := own_app hv1 hv2 (ho1'.alloc _) (by decide) hv3 hg2
        have hb2' : Below B w w2 := (hb1'.alloc (by omega) _).trans hb2
        clear hv1 hv2 hv3 hg2 hO1 ho1'
        go_wp2_with (with_reducible refine At.slot 17 ?_)
        refine At.out (wpList_pl rfl (.tmp 15) (.tmp 16) rfl elemB a l.length c (B8 l) rfl (B8_length l).symm (hr.kept (hB0.out ▸ hb2')) .i64 (k + N) (show Value.int IntKind.i64 ((k : Int) + (N : Int)) = .int .i64 ((k + N : Nat) : Int) from by go_num) (by rw [B8_length]; omega) ?_)
        intro ad2 hp2
        have hrd2 := hp2.rd
        rw [← B8_drop] at hrd2
        clear hp2
        go_wp2
        go_roundw
        case rel => exact ⟨k + N, L ++ [P], ad2, _, by go_num, rfl, hrd2, hO2, hb2', HA'⟩
        case measure => simp [intOf]; omega
      · have hEi : ((E : Int) != 0) = true := by rw [bne_iff_ne]; omega
        have hS := HA.out.stop hlt P N E hR hE
        have HS := Lib.hid hS
        clear hR hE hS HA hdl
        go_wp2_with fail
        refine hD.mono ?_
        rintro e w1 ⟨r, rfl, ho1, hb1⟩
        clear hD ho1
        go_wp2
        go_ret3
        exact ScanPost.mk HS.out (hO.kept hb1) (hb.trans (hb1.mono (by omega)))
    · have hS := HA.out.done hlt
      have HS := Lib.hid hS
      have hpos : (l.length : Int) - (k : Int) ≤ 0 := by omega
      clear hS HA hdl
      go_wp2
      go_ret3
      exact ScanPost.mk HS.out hO hb
set_option maxRecDepth 100000 in
set_option maxHeartbeats 2000000 in
theorem refScan_any (w : World) (a : Option Addr) (c : Nat) (l : List UInt8) (hr : Rd w a c (B8 l)) (hl : l.length ≤ 1000000) :
    Calls Try.prog 18 #[.slice a l.length c] w (ScanPost w.heap.size w l) := by
  obtain ⟨B, hB⟩ : ∃ B, B = w.heap.size := ⟨_, rfl⟩
  rw [← hB]
  have hB0 := Lib.hid hB
  have hbw : Below B w w := Below.refl _ _
  have hBs : B ≤ w.heap.size := Nat.le_of_eq hB
  clear hB
  have hli : (l.length : Int) ≤ 1000000 := by omega
  go_enter Try.func18, Try.ntmps18
  go_wp2
  go_loopw [5, 6] (fun s5 s6 wr => ∃ (k : Nat) (L : List (List UInt8)), s6 = .int .i64 k ∧ OwnLL wr B 22 5 s5 L ∧ Below B w wr ∧ Hid (ScanAt l k L)) (fun _ s6 _ => l.length - (intOf s6).toNat)
  case atStart => exact ⟨0, [], rfl, OwnLL.nil _ _ _ _, hbw, Lib.hid (ScanAt.start l)⟩
  case round =>
    obtain ⟨k, L, rfl, hO, hb, HA⟩ := hrel
    have hkl := HA.out.1
    have hL8 := HA.out.2.1
    have hdl : (l.drop k).length = l.length - k := by rw [List.length_drop]
    have hsz := hb.size
    by_cases hlt : k < l.length
    · have hD := fun ad cd hrd => refDecode_any wr ad cd (l.drop k) hrd
      obtain ⟨P, N, E, hR⟩ : ∃ P N E, decR (l.drop k) = (P, N, E) := ⟨_, _, _, rfl⟩
      rw [hR, hdl] at hD
      unfold decV at hD
      simp only at hD
      have hpos : (k : Int) < (l.length : Int) := by omega
      have hrk := hr.kept (hB0.out ▸ hb : Below w.heap.size w wr)
      have HD := Lib.hid hD
      clear hD
      by_cases hE : E = 0
      · subst hE
        obtain ⟨hA', hkN, hN0, hNP⟩ := HA.out.next hlt P N hR
        have HA' := Lib.hid hA'
        have HNP := Lib.hid hNP
        have hkNi : (k : Int) + (N : Int) ≤ (l.length : Int) := by omega
        clear hR hA' hdl HA hNP
        go_wp2_with (with_reducible refine At.slot 17 ?_)
        refine At.out (wpList_pl rfl (.tmp 15) (.tmp 16) rfl elemB a l.length c (B8 l) rfl (B8_length l).symm hrk .i64 k rfl (by rw [B8_length]; omega) ?_)
        intro ad2 hp2
        have hrd2 := hp2.rd
        rw [← B8_drop] at hrd2
        clear hp2
        go_wp2_with fail
        refine (HD.out _ _ hrd2).mono ?_
        rintro e w1 ⟨r, rfl, ho1, hb1⟩
        clear HD hrd2
        obtain ⟨ar, cr, rfl, _⟩ := Rd.ofOwn ho1
        have hb1' : Below B w w1 := hb.trans (hb1.mono (by omega))
        have hO1 := hO.kept hb1
        have ho1' := own_base ho1 (show B ≤ wr.heap.size by omega)
        have hs1 := hb1.size
        clear ho1 hO
        go_wp2_with (with_reducible refine At.slot 30 ?_)
        obtain ⟨vs, hv1, hv2⟩ := hO1.kept ((Below.refl w1.heap.size w1).alloc (Nat.le_refl _) (.cells #[.slice ar P.length cr] 22))
        refine At.out (wpList_app rfl (.tmp 27) (.tmp 29) 38 rfl elemR rfl B _ L.length vs rfl hv1 _ 1 1 [.slice ar P.length cr] rfl rfl (Rd.one _ _ _) (by intro u hu; rw [List.mem_singleton.1 hu]; exact own_one ho1') (by unfold maxLen; omega) (by omega) (by simp; omega) ?_)
        intro v2 w2 hv3 hb2 hg2
        have hO2 := own_app hv1 hv2 (ho1'.alloc _) (by decide) hv3 hg2
        have hb2' : Below B w w2 := (hb1'.alloc (by omega) _).trans hb2
        clear hv1 hv2 hv3 hg2 hO1 ho1'
        go_wp2
        go_roundw
        case rel => exact ⟨k + N, L ++ [P], by go_num, hO2, hb2', HA'⟩
        case measure => simp [intOf]; omega
      · have hEi : ((E : Int) != 0) = true := by rw [bne_iff_ne]; omega
        have hS := HA.out.stop hlt P N E hR hE
        have HS := Lib.hid hS
        clear hR hE hS HA hdl
        go_wp2_with (with_reducible refine At.slot 17 ?_)
        refine At.out (wpList_pl rfl (.tmp 15) (.tmp 16) rfl elemB a l.length c (B8 l) rfl (B8_length l).symm hrk .i64 k rfl (by rw [B8_length]; omega) ?_)
        intro ad2 hp2
        have hrd2 := hp2.rd
        rw [← B8_drop] at hrd2
        clear hp2
        go_wp2_with fail
        refine (HD.out _ _ hrd2).mono ?_
        rintro e w1 ⟨r, rfl, ho1, hb1⟩
        clear HD hrd2 ho1
        go_wp2
        go_ret3
        exact ScanPost.mk HS.out (hO.kept hb1) (hb.trans (hb1.mono (by omega)))
    · have hS := HA.out.done hlt
      have HS := Lib.hid hS
      have hpos : (l.length : Int) ≤ (k : Int) := by omega
      clear hS HA hdl
      go_wp2
      go_ret3
      exact ScanPost.mk HS.out hO hb
end Go.Proofs.Ytnohhhlgfnjaoaa
