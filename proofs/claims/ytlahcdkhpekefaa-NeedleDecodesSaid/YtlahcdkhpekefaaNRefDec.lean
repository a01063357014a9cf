/- The document's Decode of a needle: the contract. Conditions: each contract's own premises. -/
import Derived.Test.YtlahcdkhpekefaaNHead
import Derived.Test.YtlahcdkhpekefaaGet64r
import Derived.Test.YtlahcdkhpekefaaRefSum
import Derived.Test.YtlahcdkhpekefaaQuietC
import Derived.Test.YtlahcdkhpekefaaNTail
import Derived.Deep.RegionHeld3
namespace Go.Proofs.Ytlahcdkhpekefaa
open Go Go.RowKit

set_option maxRecDepth 100000 in
set_option maxHeartbeats 1000000 in
theorem refNDec_short (w : World) (a : Option Addr) (c : Nat) (b : List UInt8) (h : b.length < 24) :
    Calls Try.prog 17 #[.slice a b.length c] w (NDP w ((0, 0, false, []), 0, 2)) := by
  have hi : (b.length : Int) < 24 := by omega
  go_enter Try.func17, Try.ntmps17
  go_wp2_with (with_reducible refine At.store 26 (.tmp 2) (.tmp 14) ?_)
  refine At.out (wpList_storeV rfl _ rfl (.tmp 2) (.tmp 14) rfl strN w.heap.size _ #[.int .u64 0, .int .u32 0, .bool false, .slice none 0 0] rfl rfl (BlkV.new w _ _) rfl rfl (by simp [Value.oneCell']) ?_)
  intro w2 hB2 hbel _
  have hb2 := hbel w.heap.size w ((Below.refl _ _).alloc (Nat.le_refl _) _) (Nat.le_refl _)
  go_wp2_with fail
  exact bodyPost_ret (v := .tuple #[.agg #[.int .u64 0, .int .u32 0, .bool false, .slice none 0 0], .int .i64 0, .int .i64 2]) (results_cell3 rfl strN rfl rfl rfl hB2 rfl) rfl (NDP.mk (World.ownsRow_nil _ _ _ _) hb2)

/-- What a region holds: a cell, and all that stood. -/
def QS (wz : World) (p : Addr) (v : Value) (V : World) : Prop := V.cell? p = some v ∧ Below wz.heap.size wz V
theorem QS.quiet {wz V V' : World} {p : Addr} {v : Value} (h : QS wz p v V) (hq : Qt V V') : QS wz p v V' := by
  refine ⟨?_, h.2.trans (hq.below _)⟩
  have hlt := World.block_lt_of_cell? V _ h.1
  rw [(hq.below V.heap.size).cell hlt]
  exact h.1
theorem QS.alloc {wz V : World} {p : Addr} {v : Value} (h : QS wz p v V) (o : Obj) : QS wz p v (V.alloc o) := by
  refine ⟨?_, h.2.alloc h.2.size o⟩
  rw [((Below.refl V.heap.size V).alloc (Nat.le_refl _) o).cell (World.block_lt_of_cell? V _ h.1)]
  exact h.1

theorem QS.row {wz V : World} {p : Addr} {v : Value} (h : QS wz p v V) (hp : p.block < wz.heap.size) {g : Nat} (hg : wz.heap.size ≤ g) (cs : Array Value) : QS wz p v (V.setRow g cs) := by
  have hb := below_setRow h.2 hg cs
  exact ⟨(hb.cell hp).trans ((h.2.cell hp).symm.trans h.1), hb⟩
theorem infoN : (Try.prog.info? 26).map (·.size) = some 4 := by
  obtain ⟨i, hi, hs⟩ := strN.info
  rw [hi]; simp [hs]

attribute [local go_sem] Go.undef

theorem u8_bne (x k : UInt8) : ((x.toNat : Int) != (k.toNat : Int)) = (x != k) := by
  by_cases h : x = k
  · rw [h]; simp
  · have : ¬ (x.toNat : Int) = k.toNat := by intro e; apply h; apply UInt8.toNat_inj.1; omega
    rw [bne_iff_ne.2 this, bne_iff_ne.2 h]

set_option maxRecDepth 100000 in
set_option maxHeartbeats 8000000 in
theorem refNDec_head (w : World) (a : Option Addr) (c : Nat) (b : List UInt8) (hr : Rd w a c (B8 b)) (h : 24 ≤ b.length) (Y : (UInt64 × UInt32 × Bool × List UInt8) × Nat × Nat) (hY : nDec b = Y) :
    Calls Try.prog 17 #[.slice a b.length c] w (NDP w Y) := by
  have hlm := hr.le
  have hcap := hr.1
  rw [B8_length] at hlm hcap
  have hi : (24 : Int) ≤ (b.length : Int) := by omega
  obtain ⟨ba, bo, rfl, hd0⟩ := hr.cs.b8 0 (by omega)
  have hlt : ba < w.heap.size := World.block_lt_of_cell? w _ hd0
  have hlt0 := hlt
  have hcell : ∀ (j : Nat) (hj : j < b.length), w.cell? ⟨ba, bo + j, none⟩ = some (.int .u8 (b[j].toNat : Int)) := by
    intro j hj
    obtain ⟨b', o', hab, hc⟩ := hr.cs.b8 j hj
    simp only [Option.some.injEq, Addr.mk.injEq, and_true] at hab
    obtain ⟨rfl, rfl⟩ := hab
    exact hc
  obtain ⟨x0, hx0⟩ : ∃ x, x = b[0] := ⟨_, rfl⟩
  obtain ⟨x1, hx1⟩ : ∃ x, x = b[1] := ⟨_, rfl⟩
  obtain ⟨x2, hx2⟩ : ∃ x, x = b[2] := ⟨_, rfl⟩
  obtain ⟨x3, hx3⟩ : ∃ x, x = b[3] := ⟨_, rfl⟩
  have h4 : b.take 4 = [x0, x1, x2, x3] := by
    rw [hx0, hx1, hx2, hx3, List.take_succ_eq_append_getElem (by omega), List.take_succ_eq_append_getElem (by omega), List.take_succ_eq_append_getElem (by omega), List.take_succ_eq_append_getElem (by omega)]
    rfl
  have hg2 : b.getD 2 0 = x2 := by rw [List.getD_eq_getElem?_getD, List.getElem?_eq_getElem (by omega), hx2]; rfl
  have e0 := hcell 0 (by omega)
  have e1 := hcell 1 (by omega)
  have e2 := hcell 2 (by omega)
  have e3 := hcell 3 (by omega)
  rw [← hx0] at e0
  rw [← hx1] at e1
  rw [← hx2] at e2
  rw [← hx3] at e3
  simp only [Nat.add_zero] at e0
  have HCELL := Lib.hid hcell
  clear hd0 hcell hx0 hx1 hx2 hx3
  obtain ⟨key, hkey⟩ : ∃ k, k = nKey b := ⟨_, rfl⟩
  obtain ⟨ck, hck⟩ : ∃ k, k = nCk b := ⟨_, rfl⟩
  obtain ⟨dead, hdead⟩ : ∃ k, k = nDead b := ⟨_, rfl⟩
  obtain ⟨sz, hsz⟩ : ∃ k, k = nSz b := ⟨_, rfl⟩
  have hdd : dead = (x2 == 1) := by rw [hdead]; unfold nDead; rw [hg2]
  have hszlt : sz < 4294967296 := by rw [hsz]; exact getN_lt4 _ (by rw [List.length_drop]; omega)
  have hkv : getN ((b.drop 4).take 8) = key.toNat := by
    rw [hkey]; unfold nKey
    rw [UInt64.toNat_ofNat', Nat.mod_eq_of_lt]
    have := getN_lt ((b.drop 4).take 8)
    rw [List.length_take, List.length_drop, Nat.min_eq_left (by omega)] at this
    exact this
  have hcv : getN ((b.drop 12).take 4) = ck.toNat := by
    rw [hck]; unfold nCk
    rw [UInt32.toNat_ofNat', Nat.mod_eq_of_lt (getN_lt4 _ (by rw [List.length_drop]; omega))]
  have hbd := badD_eq b h x0 x1 x2 x3 h4 hg2
  obtain ⟨g20, hg20⟩ : ∃ g, g = getN ((b.drop 20).take 4) := ⟨_, rfl⟩
  obtain ⟨s20, hs20⟩ : ∃ s, s = crc (b.take 20) := ⟨_, rfl⟩
  have hg20lt : g20 < 4294967296 := by rw [hg20]; exact getN_lt4 _ (by rw [List.length_drop]; omega)
  obtain ⟨bad, hbad⟩ : ∃ r, r = decide (badHead b) := ⟨_, rfl⟩
  unfold badD at hbd
  rw [← hbad, ← hg20, ← hs20, ← hsz] at hbd
  have hg32 : ∀ (k : Nat) (v : Nat), getN ((b.drop k).take 4) = v → k + 4 ≤ b.length → ∀ W : World, Below w.heap.size w W → Calls Try.prog 30 #[.slice (some ⟨ba, bo + k, none⟩) (b.length - k) (c - k)] W fun e w' => e = .returned (.int .u32 (v : Int)) ∧ Qt W w' := by
    intro k v hv hk W hb
    have := refGet32_any W _ (c - k) (b.drop k) ((rd8_drop hr k (by omega)).kept hb) (by rw [List.length_drop]; omega)
    rw [hv, List.length_drop] at this
    exact this
  have hg64 : ∀ W : World, Below w.heap.size w W → Calls Try.prog 31 #[.slice (some ⟨ba, bo + 4, none⟩) (b.length - 4) (c - 4)] W fun e w' => e = .returned (.int .u64 (key.toNat : Int)) ∧ Qt W w' := by
    intro W hb
    have := refGet64_any W _ _ (c - 4) (b.drop 4) ((rd8_drop hr 4 (by omega)).kept hb) (by rw [List.length_drop]; omega)
    rw [hkv, List.length_drop] at this
    exact this
  have hsum20 : ∀ W : World, Below w.heap.size w W → Calls Try.prog 25 #[.slice (some ⟨ba, bo, none⟩) 20 c] W fun e w' => e = .returned (.int .u32 (s20.toNat : Int)) ∧ Below W.heap.size W w' := by
    intro W hb
    have := refSum_any W _ c (b.take 20) ((hr.kept hb).take8 20)
    rw [← hs20, List.length_take, Nat.min_eq_left (by omega)] at this
    exact this
  have hg16 := hg32 16 sz hsz.symm (by omega)
  have hg12 := hg32 12 _ hcv (by omega)
  have hg20c := hg32 20 _ hg20.symm (by omega)
  have HG32 := Lib.hid hg32
  have HG16 := Lib.hid hg16
  have HG12 := Lib.hid hg12
  obtain ⟨gI, hgI⟩ : ∃ x : Int, x = (g20 : Int) := ⟨_, rfl⟩
  obtain ⟨sI, hsI⟩ : ∃ x : Int, x = (s20.toNat : Int) := ⟨_, rfl⟩
  rw [← hgI] at hg20c
  simp only [← hsI] at hsum20
  have HGI := Lib.hid hgI
  have HSI := Lib.hid hsI
  have HG20 := Lib.hid hg20c
  have HG64 := Lib.hid hg64
  have HS20 := Lib.hid hsum20
  have HY := Lib.hid hY
  have HK := Lib.hid hkey
  have HC := Lib.hid hck
  have HD := Lib.hid hdead
  have HSz := Lib.hid hsz
  have HBD := Lib.hid hbd
  have HB := Lib.hid hbad
  have HDD := Lib.hid hdd
  have hD2 : ∀ W, Below w.heap.size w W → W.cell? ⟨ba, bo + 2, none⟩ = some (.int .u8 (x2.toNat : Int)) := fun W hb => (hb.cell (p := ⟨ba, bo + 2, none⟩) hlt).trans e2
  have D2 := Lib.hid hD2
  have hdv0 : ((x2.toNat : Int) == 1) = dead := by
    rw [hdd]
    by_cases e : x2 = 1
    · rw [e]; rfl
    · have h1 : (x2 == 1) = false := by simpa using e
      rw [h1, beq_eq_false_iff_ne]
      intro e'
      exact e (UInt8.toNat_inj.1 (by have : (1 : UInt8).toNat = 1 := rfl; omega))
  have HDV := Lib.hid hdv0
  clear hD2 hdv0
  clear hg32 hg16 hg12 hg20c hg64 hsum20 hY hkey hck hdead hsz hkv hcv hbd hbad hg20 hs20 h4 hg2 hdd hgI hsI
  have hc16 : ¬ c = 16 := by omega
  have hwr : IntKind.i64.wrap (sz : Int) = (sz : Int) := IntWalk.i64_in _ (by omega)
  have HZL := Lib.hid hszlt
  have HGL := Lib.hid hg20lt
  clear hszlt hg20lt
  obtain ⟨G, hG⟩ : ∃ G, G = w.heap.size := ⟨_, rfl⟩
  go_enter Try.func17, Try.ntmps17
  go_wp2_with fail
  obtain ⟨W0, hW0⟩ : ∃ W, W = w.alloc (.cells #[.int .u64 0, .int .u32 0, .bool false, .slice none 0 0] 26) := ⟨_, rfl⟩
  have hbW0 : Below G w W0 := by rw [hW0, hG]; exact (Below.refl _ _).alloc (Nat.le_refl _) _
  have hBR0 : BlkV W0 G 26 #[.int .u64 0, .int .u32 0, .bool false, .slice none 0 0] := by rw [hW0, hG]; exact BlkV.new w _ _
  rw [← hW0, ← hG]
  have HG := Lib.hid hG
  clear hW0 hG
  refine (HG16.out _ (HG.out ▸ hbW0)).mono ?_
  rintro e W1 ⟨rfl, hq1⟩
  have hbW1 := hbW0.trans (hq1.below G)
  have hBR1 := hBR0.below (hq1.below _)
  clear hq1 hbW0 hBR0
  go_upto_region 4 with (fail)
  have d0 : W1.cell? ⟨ba, bo, none⟩ = some (.int .u8 (x0.toNat : Int)) := (hbW1.cell (p := ⟨ba, bo, none⟩) (by have := HG.out; simp; omega)).trans e0
  have d1 : W1.cell? ⟨ba, bo + 1, none⟩ = some (.int .u8 (x1.toNat : Int)) := (hbW1.cell (p := ⟨ba, bo + 1, none⟩) (by have := HG.out; simp; omega)).trans e1
  have d2 : W1.cell? ⟨ba, bo + 2, none⟩ = some (.int .u8 (x2.toNat : Int)) := (hbW1.cell (p := ⟨ba, bo + 2, none⟩) (by have := HG.out; simp; omega)).trans e2
  have d3 : W1.cell? ⟨ba, bo + 3, none⟩ = some (.int .u8 (x3.toNat : Int)) := (hbW1.cell (p := ⟨ba, bo + 3, none⟩) (by have := HG.out; simp; omega)).trans e3
  clear e0 e1 e2 e3
  have b0 := u8_bne x0 110
  have b1 := u8_bne x1 100
  have b3 := u8_bne x3 0
  have HB0 := Lib.hid b0
  have HB1 := Lib.hid b1
  have HB3 := Lib.hid b3
  clear b0 b1 b3
  have i0 : (0 : Int) < (b.length : Int) := by omega
  have i1 : (1 : Int) < (b.length : Int) := by omega
  have i2 : (2 : Int) < (b.length : Int) := by omega
  have i3 : (3 : Int) < (b.length : Int) := by omega
  have i20 : (20 : Int) ≤ (b.length : Int) := by omega
  have ic20 : (20 : Int) ≤ (c : Int) := by omega
  have hc20 : ¬ c = 20 := by omega
  go_cut [63] from 19 to 63 (fun s63 wx => s63 = .bool bad ∧ Below (G + 1) W1 wx)
  case first =>
    by_cases p0 : (x0 != 110) = true
    · have q0 : ((x0.toNat : Int) != 110) = true := HB0.out.trans p0
      have hb1 : Hid (bad = true) := Lib.hid (by rw [HBD.out, p0]; rfl)
      clear p0
      go_quiet (fail)
      go_wp2_with fail
      go_meet
      exact ⟨by rw [hb1.out], below_drewN (Below.refl _ _) _⟩
    · have p0 : (x0 != 110) = false := by simpa using p0
      have q0 : ((x0.toNat : Int) != 110) = false := HB0.out.trans p0
      by_cases p1 : (x1 != 100) = true
      · have q1 : ((x1.toNat : Int) != 100) = true := HB1.out.trans p1
        have hb1 : Hid (bad = true) := Lib.hid (by rw [HBD.out, p0, p1]; rfl)
        clear p0 p1
        go_quiet (fail)
        go_wp2_with fail
        go_meet
        exact ⟨by rw [hb1.out], below_drewN (Below.refl _ _) _⟩
      · have p1 : (x1 != 100) = false := by simpa using p1
        have q1 : ((x1.toNat : Int) != 100) = false := HB1.out.trans p1
        by_cases p2 : 1 < x2.toNat
        · have q2 : (1 : Int) < (x2.toNat : Int) := by omega
          have hb1 : Hid (bad = true) := Lib.hid (by rw [HBD.out, p0, p1, decide_eq_true p2]; rfl)
          clear p0 p1 p2
          go_quiet (fail)
          go_wp2_with fail
          go_meet
          exact ⟨by rw [hb1.out], below_drewN (Below.refl _ _) _⟩
        · have q2 : decide ((1 : Int) < (x2.toNat : Int)) = false := by simp; omega
          have q2n : decide (1 < x2.toNat) = false := decide_eq_false p2
          by_cases p3 : (x3 != 0) = true
          · have q3 : ((x3.toNat : Int) != 0) = true := HB3.out.trans p3
            have hb1 : Hid (bad = true) := Lib.hid (by rw [HBD.out, p0, p1, decide_eq_false p2, p3]; rfl)
            clear p0 p1 p2 p3
            go_quiet (fail)
            go_wp2_with fail
            go_meet
            exact ⟨by rw [hb1.out], below_drewN (Below.refl _ _) _⟩
          · have p3 : (x3 != 0) = false := by simpa using p3
            have q3 : ((x3.toNat : Int) != 0) = false := HB3.out.trans p3
            have hrest : Hid (bad = (decide (g20 ≠ s20.toNat) || (decide (65536 < sz) || (x2 == 1 && decide (0 < sz))))) := Lib.hid (by rw [HBD.out, p0, p1, decide_eq_false p2, p3]; rfl)
            have hS0 : Below (G + 1) W1 W1.drew := (Below.refl _ _).drew
            have hKE : ∀ V, Below (G + 1) W1 V → V.cell? ⟨ba, bo, none⟩ = some (.int .u8 (x0.toNat : Int)) ∧ V.cell? ⟨ba, bo + 1, none⟩ = some (.int .u8 (x1.toNat : Int)) ∧ V.cell? ⟨ba, bo + 2, none⟩ = some (.int .u8 (x2.toNat : Int)) ∧ V.cell? ⟨ba, bo + 3, none⟩ = some (.int .u8 (x3.toNat : Int)) ∧ Below (G + 1) W1 V := by
              intro V hb
              have hba : ba < G + 1 := by have := HG.out; omega
              exact ⟨(hb.cell (p := ⟨ba, bo, none⟩) hba).trans d0, (hb.cell (p := ⟨ba, bo + 1, none⟩) hba).trans d1, (hb.cell (p := ⟨ba, bo + 2, none⟩) hba).trans d2, (hb.cell (p := ⟨ba, bo + 3, none⟩) hba).trans d3, hb⟩
            have KE := Lib.hid hKE
            clear p0 p1 p2 p3 hKE
            have n0 : 0 < b.length := by omega
            have n1 : 1 < b.length := by omega
            have n2 : 2 < b.length := by omega
            have n3 : 3 < b.length := by omega
            refine wp_region_quietC (fun V => Below (G + 1) W1 V) (by kernel_rfl) (by kernel_rfl) hS0 ?_
            iterate 25 (first
              | go_big_quiet_skip
              | (go_big_quiet_want; refine quiet_ex ?_
                 apply Exists.intro
                 constructor
                 focus
                   intro V hV
                   obtain ⟨f0, f1, f2, f3, _⟩ := KE.out V hV
                   go_simp
                   try with_reducible rfl
                 simp only [Act.put, List.setIfInBounds_toArray, List.set_cons_zero, List.set_cons_succ]; go_big_quiet_on))
            go_big_quiet_want
            refine quiet_callC (v := .int .u32 gI) 30 #[.slice (some ⟨ba, bo + 20, none⟩) (b.length - 20) (c - 20)] (fun V hV => ?_) (fun V hV => ?_) ?_
            · go_simp
            · refine (HG20.out V (HG.out ▸ (hbW1.trans (hV.mono (by omega))))).mono ?_
              rintro e V' ⟨rfl, hq⟩
              exact ⟨rfl, hV.trans (hq.below _)⟩
            simp only [Act.put, List.setIfInBounds_toArray, List.set_cons_zero, List.set_cons_succ]
            go_big_quiet_on
            iterate 2 (first
              | go_big_quiet_skip
              | (go_big_quiet_want; refine quiet_ex ?_
                 apply Exists.intro
                 constructor
                 focus
                   intro V hV
                   obtain ⟨f0, f1, f2, f3, _⟩ := KE.out V hV
                   go_simp
                   try with_reducible rfl
                 simp only [Act.put, List.setIfInBounds_toArray, List.set_cons_zero, List.set_cons_succ]; go_big_quiet_on))
            go_big_quiet_want
            refine quiet_callC (v := .int .u32 sI) 25 #[.slice (some ⟨ba, bo, none⟩) 20 c] (fun V hV => ?_) (fun V hV => ?_) ?_
            · go_simp
            · refine (HS20.out V (HG.out ▸ (hbW1.trans (hV.mono (by omega))))).mono ?_
              rintro e V' ⟨rfl, hb⟩
              exact ⟨rfl, hV.trans (hb.mono (by have := hV.size; have := hBR1.lt; omega))⟩
            simp only [Act.put, List.setIfInBounds_toArray, List.set_cons_zero, List.set_cons_succ]
            go_big_quiet_on
            by_cases p4 : g20 = s20.toNat
            · have q4 : (gI != sI) = false := by rw [HGI.out, HSI.out, bne_eq_false_iff_eq]; omega
              by_cases p5 : 65536 < sz
              · have q5 : (65536 : Int) < (sz : Int) := by omega
                have hb1 : Hid (bad = true) := Lib.hid (by rw [hrest.out, decide_eq_true p5]; simp)
                clear p4
                iterate 16 (first
                  | go_big_quiet_skip
                  | (go_big_quiet_want; refine quiet_ex ?_
                     apply Exists.intro
                     constructor
                     focus
                       intro V hV
                       obtain ⟨f0, f1, f2, f3, _⟩ := KE.out V hV
                       go_simp
                       try with_reducible rfl
                     simp only [Act.put, List.setIfInBounds_toArray, List.set_cons_zero, List.set_cons_succ]; go_big_quiet_on))
                refine wpQuiet_nil ?_
                intro wq hq
                go_wp2_with fail
                go_meet
                exact ⟨by rw [hb1.out], hq⟩
              · have q5 : decide ((65536 : Int) < (sz : Int)) = false := by simp; omega
                have q5n : decide (65536 < sz) = false := by simp; omega
                by_cases p6 : (x2 == 1) = true
                · have q6 : ((x2.toNat : Int) == 1) = true := by rw [beq_iff_eq] at p6 ⊢; rw [p6]; rfl
                  by_cases p7 : 0 < sz
                  · have q7 : (0 : Int) < (sz : Int) := by omega
                    have hb1 : Hid (bad = true) := Lib.hid (by rw [hrest.out, decide_eq_true p7, p6]; simp)
                    clear p4 p5
                    iterate 16 (first
                      | go_big_quiet_skip
                      | (go_big_quiet_want; refine quiet_ex ?_
                         apply Exists.intro
                         constructor
                         focus
                           intro V hV
                           obtain ⟨f0, f1, f2, f3, _⟩ := KE.out V hV
                           go_simp
                           try with_reducible rfl
                         simp only [Act.put, List.setIfInBounds_toArray, List.set_cons_zero, List.set_cons_succ]; go_big_quiet_on))
                    refine wpQuiet_nil ?_
                    intro wq hq
                    go_wp2_with fail
                    go_meet
                    exact ⟨by rw [hb1.out], hq⟩
                  · have q7 : decide ((0 : Int) < (sz : Int)) = false := by simp; omega
                    have q7n : decide (0 < sz) = false := by simp; omega
                    have hb1 : Hid (bad = false) := Lib.hid (by rw [hrest.out, p4, decide_eq_false p7, decide_eq_false p5]; simp)
                    clear p4 p5 p6 p7
                    iterate 16 (first
                      | go_big_quiet_skip
                      | (go_big_quiet_want; refine quiet_ex ?_
                         apply Exists.intro
                         constructor
                         focus
                           intro V hV
                           obtain ⟨f0, f1, f2, f3, _⟩ := KE.out V hV
                           go_simp
                           try with_reducible rfl
                         simp only [Act.put, List.setIfInBounds_toArray, List.set_cons_zero, List.set_cons_succ]; go_big_quiet_on))
                    refine wpQuiet_nil ?_
                    intro wq hq
                    go_wp2_with fail
                    go_meet
                    exact ⟨by rw [hb1.out], hq⟩
                · have p6 : (x2 == 1) = false := by simpa using p6
                  have q6 : ((x2.toNat : Int) == 1) = false := by
                    rw [beq_eq_false_iff_ne] at p6 ⊢
                    intro e
                    exact p6 (UInt8.toNat_inj.1 (by have : (1 : UInt8).toNat = 1 := rfl; omega))
                  have hb1 : Hid (bad = false) := Lib.hid (by rw [hrest.out, p4, p6, decide_eq_false p5]; simp)
                  clear p4 p5 p6
                  iterate 16 (first
                    | go_big_quiet_skip
                    | (go_big_quiet_want; refine quiet_ex ?_
                       apply Exists.intro
                       constructor
                       focus
                         intro V hV
                         obtain ⟨f0, f1, f2, f3, _⟩ := KE.out V hV
                         go_simp
                         try with_reducible rfl
                       simp only [Act.put, List.setIfInBounds_toArray, List.set_cons_zero, List.set_cons_succ]; go_big_quiet_on))
                  refine wpQuiet_nil ?_
                  intro wq hq
                  go_wp2_with fail
                  go_meet
                  exact ⟨by rw [hb1.out], hq⟩
            · have q4 : (gI != sI) = true := by rw [HGI.out, HSI.out, bne_iff_ne]; omega
              have hb1 : Hid (bad = true) := Lib.hid (by rw [hrest.out, decide_eq_true p4]; rfl)
              clear p4
              iterate 16 (first
                | go_big_quiet_skip
                | (go_big_quiet_want; refine quiet_ex ?_
                   apply Exists.intro
                   constructor
                   focus
                     intro V hV
                     obtain ⟨f0, f1, f2, f3, _⟩ := KE.out V hV
                     go_simp
                     try with_reducible rfl
                   simp only [Act.put, List.setIfInBounds_toArray, List.set_cons_zero, List.set_cons_succ]; go_big_quiet_on))
              refine wpQuiet_nil ?_
              intro wq hq
              go_wp2_with fail
              go_meet
              exact ⟨by rw [hb1.out], hq⟩
  case rest =>
    obtain ⟨rfl, hb6⟩ := hcut
    have hbW6 : Below G w wc := hbW1.trans (hb6.mono (by omega))
    have hBR6 := hBR1.at hb6 (show G < G + 1 by omega)
    have hr6 := hr.kept (HG.out ▸ hbW6 : Below w.heap.size w wc)
    clear hb6 hbW1 hBR1 d0 d1 d2 d3 HB0 HB1 HB3 HBD HG20 HS20 HG16 HDD
    cases bad with
    | true =>
      have hbh : badHead b := of_decide_eq_true HB.out.symm
      have HYb : Hid (((0, 0, false, []), 0, 3) = Y) := Lib.hid (by rw [← HY.out]; unfold nDec; rw [if_neg (by omega), if_pos hbh])
      clear hbh
      go_wp2_with (with_reducible refine At.store 26 (.tmp 2) (.tmp 64) ?_)
      refine At.out (wpList_storeV rfl _ rfl (.tmp 2) (.tmp 64) rfl strN G _ #[.int .u64 0, .int .u32 0, .bool false, .slice none 0 0] rfl rfl hBR6 rfl rfl (by simp [Value.oneCell']) ?_)
      intro w6 hB6 hbel6 _
      have hb6 := hbel6 G w hbW6 (Nat.le_refl _)
      go_wp2_with fail
      rw [← HYb.out]
      exact bodyPost_ret (v := .tuple #[.agg #[.int .u64 0, .int .u32 0, .bool false, .slice none 0 0], .int .i64 0, .int .i64 3]) (results_cell3 rfl strN rfl rfl rfl hB6 rfl) rfl (NDP.mk (World.ownsRow_nil _ _ _ _) (HG.out ▸ hb6))
    | false =>
      have hbh : ¬ badHead b := of_decide_eq_false HB.out.symm
      have hsz16 : sz ≤ 65536 := by
        rcases Nat.lt_or_ge 65536 sz with h' | h'
        · exact absurd (.inl (HSz.out ▸ h')) hbh
        · exact h'
      obtain ⟨S, hS⟩ : ∃ S, S = sizeN sz := ⟨_, rfl⟩
      have hS1 : sz + 28 ≤ S := hS ▸ sizeN_ge sz
      have hS2 : S ≤ sz + 35 := hS ▸ sizeN_le sz
      have hsize := refSize_any (sz : Int) wc
      rw [sizeZ_nat sz hsz16, ← hS] at hsize
      have hszi16 : (sz : Int) ≤ 65536 := by omega
      have hSi1 : (sz : Int) + 28 ≤ (S : Int) := by omega
      have hSi2 : (S : Int) ≤ 65571 := by omega
      have HS := Lib.hid hS
      have HSIZE := Lib.hid hsize
      clear hS hsize
      go_wp2_with fail
      refine HSIZE.out.mono ?_
      rintro e W6 ⟨rfl, hw⟩
      subst hw
      clear HSIZE
      by_cases hlen : b.length < S
      · have hleni : (b.length : Int) < (S : Int) := by omega
        have HYb : Hid (((0, 0, false, []), 0, 2) = Y) := Lib.hid (by rw [← HY.out]; unfold nDec; rw [if_neg (by omega), if_neg hbh, ← HSz.out, ← HS.out, if_pos hlen])
        clear hbh
        go_wp2_with (with_reducible refine At.store 26 (.tmp 2) (.tmp 71) ?_)
        refine At.out (wpList_storeV rfl _ rfl (.tmp 2) (.tmp 71) rfl strN G _ #[.int .u64 0, .int .u32 0, .bool false, .slice none 0 0] rfl rfl hBR6 rfl rfl (by simp [Value.oneCell']) ?_)
        intro w6 hB6 hbel6 _
        have hb6 := hbel6 G w hbW6 (Nat.le_refl _)
        go_wp2_with fail
        rw [← HYb.out]
        exact bodyPost_ret (v := .tuple #[.agg #[.int .u64 0, .int .u32 0, .bool false, .slice none 0 0], .int .i64 0, .int .i64 2]) (results_cell3 rfl strN rfl rfl rfl hB6 rfl) rfl (NDP.mk (World.ownsRow_nil _ _ _ _) (HG.out ▸ hb6))
      · have hleni : (S : Int) ≤ (b.length : Int) := by omega
        have hYg : Y = if (b.drop (24 + sz)).take (S - (24 + sz)) = nTail sz ((b.drop 24).take sz) then ((key, ck, dead, (b.drop 24).take sz), S, 0) else ((key, ck, dead, []), S, 4) := by
          rw [← HY.out]; unfold nDec
          rw [if_neg (by omega), if_neg hbh, ← HSz.out, ← HS.out, if_neg hlen, ← HK.out, ← HC.out, ← HD.out]
        have HYG := Lib.hid hYg
        have d2 : wc.cell? ⟨ba, bo + 2, none⟩ = some (.int .u8 (x2.toNat : Int)) := D2.out wc (HG.out ▸ hbW6)
        clear hbh hYg
        have hdv : ((x2.toNat : Int) == 1) = dead := HDV.out
        have i4 : (4 : Int) ≤ (b.length : Int) := by omega
        have i12 : (12 : Int) ≤ (b.length : Int) := by omega
        have ic4 : (4 : Int) ≤ (c : Int) := by omega
        have ic12 : (12 : Int) ≤ (c : Int) := by omega
        have hc4 : ¬ c = 4 := by omega
        have hc12 : ¬ c = 12 := by omega
        have hGz : G ≤ wc.heap.size := by have := hBR6.lt; omega
        go_upto_region 9 with (fail)
        go_cut [7] from 72 (fun s7 wx => ∃ Z, s7 = .pointer (some ⟨Z, 0, none⟩) ∧ G < Z ∧ BlkV wx Z 26 #[.int .u64 (key.toNat : Int), .int .u32 (ck.toNat : Int), .bool dead, .slice none 0 0] ∧ Below (G + 1) wc wx)
        case first =>
          have hS0 : QS wc ⟨ba, bo + 2, none⟩ (.int .u8 (x2.toNat : Int)) wc.drew := ⟨d2, (Below.refl _ _).drew⟩
          have hkq : ∀ V V', QS wc ⟨ba, bo + 2, none⟩ (.int .u8 (x2.toNat : Int)) V → Qt V V' → QS wc ⟨ba, bo + 2, none⟩ (.int .u8 (x2.toNat : Int)) V' := fun V V' h1 h2 => h1.quiet h2
          have hka : ∀ V o, QS wc ⟨ba, bo + 2, none⟩ (.int .u8 (x2.toNat : Int)) V → QS wc ⟨ba, bo + 2, none⟩ (.int .u8 (x2.toNat : Int)) (V.alloc o) := fun V o h1 => h1.alloc o
          have hbel : ∀ V, (V.cell? ⟨ba, bo + 2, none⟩ = some (.int .u8 (x2.toNat : Int)) ∧ Below wc.heap.size wc V) → Below w.heap.size w V := fun V h => HG.out ▸ (hbW6.trans (h.2.mono hGz))
          refine wp_region_held_drew (S := fun V => V.cell? ⟨ba, bo + 2, none⟩ = some (.int .u8 (x2.toNat : Int)) ∧ Below wc.heap.size wc V) (by kernel_rfl) hS0 (fun hHeld => ?_)
          refine takeH (i := 0) rfl (by kernel_rfl) (by kernel_rfl) (by kernel_rfl) (fun _ _ _ _ h => h) (by rfl) (by assumption) ?_
          apply Exists.intro
          constructor
          focus
            intro V hV
            obtain ⟨f2, _⟩ := hV
            go_simp
            try with_reducible rfl
          simp only [Act.put, List.setIfInBounds_toArray]
          refine takeH (i := 1) rfl (by kernel_rfl) (by kernel_rfl) (by kernel_rfl) (fun _ _ _ _ h => h) (by rfl) (by assumption) ?_
          apply Exists.intro
          constructor
          focus
            intro V hV
            obtain ⟨f2, _⟩ := hV
            go_simp
            try with_reducible rfl
          simp only [Act.put]
          refine takeH (i := 3) rfl (by kernel_rfl) (by kernel_rfl) (by kernel_rfl) (fun _ _ _ _ h => h) (by rfl) (by assumption) ?_
          apply Exists.intro
          constructor
          focus
            intro V hV
            obtain ⟨f2, _⟩ := hV
            go_simp
            try with_reducible rfl
          simp only [Act.put]
          refine takeH (i := 4) rfl (by kernel_rfl) (by kernel_rfl) (by kernel_rfl) (fun _ _ _ _ h => h) (by rfl) (by assumption) ?_
          apply Exists.intro
          constructor
          focus
            intro V hV
            obtain ⟨f2, _⟩ := hV
            go_simp
            try with_reducible rfl
          simp only [Act.put]
          refine takeH (i := 6) rfl (by kernel_rfl) (by kernel_rfl) (by kernel_rfl) (fun _ _ _ _ h => h) (by rfl) (by assumption) ?_
          apply Exists.intro
          constructor
          focus
            intro V hV
            obtain ⟨f2, _⟩ := hV
            go_simp
            try with_reducible rfl
          simp only [Act.put]
          refine takeH (i := 7) rfl (by kernel_rfl) (by kernel_rfl) (by kernel_rfl) (fun _ _ _ _ h => h) (by rfl) (by assumption) ?_
          apply Exists.intro
          constructor
          focus
            intro V hV
            obtain ⟨f2, _⟩ := hV
            go_simp
            try with_reducible rfl
          simp only [Act.put]
          refine takeH (i := 8) rfl (by kernel_rfl) (by kernel_rfl) (by kernel_rfl) (fun _ _ _ _ h => h) (by rfl) (by assumption) ?_
          apply Exists.intro
          constructor
          focus
            intro V hV
            obtain ⟨f2, _⟩ := hV
            go_simp
            try with_reducible rfl
          simp only [Act.put]
          refine takeH (i := 9) rfl (by kernel_rfl) (by kernel_rfl) (by kernel_rfl) (fun _ _ _ _ h => h) (by rfl) (by assumption) ?_
          apply Exists.intro
          constructor
          focus
            intro V hV
            obtain ⟨f2, _⟩ := hV
            go_simp
            try with_reducible rfl
          simp only [Act.put]
          have hbaz : ba < wc.heap.size := World.block_lt_of_cell? wc _ d2
          refine wpAnyH_ready (rs := [2, 11]) (by kernel_rfl) (by simp) ?_
          refine AllReadyH.cons rfl (fun K hK => ?_) (AllReadyH.cons rfl (fun K hK => ?_) AllReadyH.nil)
          · go_simp
            go_at_call 31
            refine (HG64.out _ (hbel _ hHeld)).mono ?_
            rintro e wA ⟨rfl, hqA⟩
            try go_simp
            refine hK.out _ _ (hkq _ _ hHeld hqA) (fun hSwA => ?_)
            clear hK K
            try simp only [Act.put, List.getElem_toArray, List.getElem_cons_succ, List.getElem_cons_zero, List.setIfInBounds_toArray, List.set_cons_zero, List.set_cons_succ]
            refine wpAnyH_ready (rs := [5, 11]) (by kernel_rfl) (by simp) ?_
            refine AllReadyH.cons rfl (fun K hK => ?_) (AllReadyH.cons rfl (fun K hK => ?_) AllReadyH.nil)
            · go_simp
              go_at_call 30
              refine (HG12.out _ (hbel _ hSwA)).mono ?_
              rintro e wB ⟨rfl, hqB⟩
              try go_simp
              refine hK.out _ _ (hkq _ _ hSwA hqB) (fun hSwB => ?_)
              clear hK K
              try simp only [Act.put, List.getElem_toArray, List.getElem_cons_succ, List.getElem_cons_zero, List.setIfInBounds_toArray, List.set_cons_zero, List.set_cons_succ]
              refine takeH (i := 10) rfl (by kernel_rfl) (by kernel_rfl) (by kernel_rfl) (fun _ _ _ _ h => h) (by rfl) (by assumption) ?_
              apply Exists.intro
              constructor
              focus
                intro V hV
                go_simp
                try with_reducible rfl
              simp only [Act.put, List.setIfInBounds_toArray]
              refine wpAnyH_ready (rs := [11]) (by kernel_rfl) (by simp) ?_
              refine AllReadyH.cons rfl (fun K hK => ?_) AllReadyH.nil
              go_simp
              refine hK.out _ _ (hka _ _ hSwB) (fun hSC => ?_)
              clear hK K
              try simp only [Act.put, List.getElem_toArray, List.getElem_cons_succ, List.getElem_cons_zero, List.setIfInBounds_toArray, List.set_cons_zero, List.set_cons_succ]
              refine wpAnyH_ready (rs := [12]) (by kernel_rfl) (by simp) ?_
              refine AllReadyH.cons rfl (fun K hK => ?_) AllReadyH.nil
              rw [if_pos (by rfl)]
              refine wp_store_row _ _ _ rfl wB.heap.size #[.int .u64 (key.toNat : Int), .int .u32 (ck.toNat : Int), .bool dead, .slice none 0 0] rfl rfl 26 #[.int .u64 0, .int .u32 0, .bool false, .slice none 0 0] (BlkV.new wB _ _) infoN rfl (by simp [Value.oneCell']) ?_
              refine hK.out _ _ (QS.row hSC hbaz hSwB.2.size _) (fun hSE => ?_)
              clear hK K
              refine wpAnyH_done (by kernel_rfl) ?_ _
              try simp only [Act.put, List.getElem_toArray, List.getElem_cons_succ, List.getElem_cons_zero]
              go_wp2_with fail
              go_meet
              exact ⟨wB.heap.size, rfl, by have := hBR6.lt; have := hSwB.2.size; omega, setRow_heap _ _ _ _ _ _ (BlkV.new wB _ _), hSE.2.mono (by have := hBR6.lt; omega)⟩
            · go_simp
              refine hK.out _ _ (hka _ _ hSwA) (fun hSC => ?_)
              clear hK K
              try simp only [Act.put, List.getElem_toArray, List.getElem_cons_succ, List.getElem_cons_zero, List.setIfInBounds_toArray, List.set_cons_zero, List.set_cons_succ]
              refine wpAnyH_ready (rs := [5]) (by kernel_rfl) (by simp) ?_
              refine AllReadyH.cons rfl (fun K hK => ?_) AllReadyH.nil
              go_simp
              go_at_call 30
              refine (HG12.out _ (hbel _ hSC)).mono ?_
              rintro e wB ⟨rfl, hqB⟩
              try go_simp
              refine hK.out _ _ (hkq _ _ hSC hqB) (fun hSwB => ?_)
              clear hK K
              try simp only [Act.put, List.getElem_toArray, List.getElem_cons_succ, List.getElem_cons_zero, List.setIfInBounds_toArray, List.set_cons_zero, List.set_cons_succ]
              refine takeH (i := 10) rfl (by kernel_rfl) (by kernel_rfl) (by kernel_rfl) (fun _ _ _ _ h => h) (by rfl) (by assumption) ?_
              apply Exists.intro
              constructor
              focus
                intro V hV
                go_simp
                try with_reducible rfl
              simp only [Act.put, List.setIfInBounds_toArray]
              refine wpAnyH_ready (rs := [12]) (by kernel_rfl) (by simp) ?_
              refine AllReadyH.cons rfl (fun K hK => ?_) AllReadyH.nil
              rw [if_pos (by rfl)]
              refine wp_store_row _ _ _ rfl wA.heap.size #[.int .u64 (key.toNat : Int), .int .u32 (ck.toNat : Int), .bool dead, .slice none 0 0] rfl rfl 26 #[.int .u64 0, .int .u32 0, .bool false, .slice none 0 0] ((BlkV.new wA _ _).below (hqB.below _)) infoN rfl (by simp [Value.oneCell']) ?_
              refine hK.out _ _ (QS.row hSwB hbaz hSwA.2.size _) (fun hSE => ?_)
              clear hK K
              refine wpAnyH_done (by kernel_rfl) ?_ _
              try simp only [Act.put, List.getElem_toArray, List.getElem_cons_succ, List.getElem_cons_zero, List.set_cons_zero, List.set_cons_succ]
              go_wp2_with fail
              go_meet
              exact ⟨wA.heap.size, rfl, by have := hBR6.lt; have := hSwA.2.size; omega, setRow_heap _ _ _ _ _ _ ((BlkV.new wA _ _).below (hqB.below _)), hSE.2.mono (by have := hBR6.lt; omega)⟩
          · go_simp
            refine hK.out _ _ (hka _ _ hHeld) (fun hSC => ?_)
            clear hK K
            try simp only [Act.put, List.getElem_toArray, List.getElem_cons_succ, List.getElem_cons_zero, List.setIfInBounds_toArray, List.set_cons_zero, List.set_cons_succ]
            refine wpAnyH_ready (rs := [2]) (by kernel_rfl) (by simp) ?_
            refine AllReadyH.cons rfl (fun K hK => ?_) AllReadyH.nil
            go_simp
            go_at_call 31
            refine (HG64.out _ (hbel _ hSC)).mono ?_
            rintro e wA ⟨rfl, hqA⟩
            try go_simp
            refine hK.out _ _ (hkq _ _ hSC hqA) (fun hSwA => ?_)
            clear hK K
            try simp only [Act.put, List.getElem_toArray, List.getElem_cons_succ, List.getElem_cons_zero, List.setIfInBounds_toArray, List.set_cons_zero, List.set_cons_succ]
            refine wpAnyH_ready (rs := [5]) (by kernel_rfl) (by simp) ?_
            refine AllReadyH.cons rfl (fun K hK => ?_) AllReadyH.nil
            go_simp
            go_at_call 30
            refine (HG12.out _ (hbel _ hSwA)).mono ?_
            rintro e wB ⟨rfl, hqB⟩
            try go_simp
            refine hK.out _ _ (hkq _ _ hSwA hqB) (fun hSwB => ?_)
            clear hK K
            try simp only [Act.put, List.getElem_toArray, List.getElem_cons_succ, List.getElem_cons_zero, List.setIfInBounds_toArray, List.set_cons_zero, List.set_cons_succ]
            refine takeH (i := 10) rfl (by kernel_rfl) (by kernel_rfl) (by kernel_rfl) (fun _ _ _ _ h => h) (by rfl) (by assumption) ?_
            apply Exists.intro
            constructor
            focus
              intro V hV
              go_simp
              try with_reducible rfl
            simp only [Act.put, List.setIfInBounds_toArray]
            refine wpAnyH_ready (rs := [12]) (by kernel_rfl) (by simp) ?_
            refine AllReadyH.cons rfl (fun K hK => ?_) AllReadyH.nil
            rw [if_pos (by rfl)]
            refine wp_store_row _ _ _ rfl wc.heap.size #[.int .u64 (key.toNat : Int), .int .u32 (ck.toNat : Int), .bool dead, .slice none 0 0] rfl rfl 26 #[.int .u64 0, .int .u32 0, .bool false, .slice none 0 0] (((BlkV.new wc.drew _ _).below (hqA.below _)).below (hqB.below _)) infoN rfl (by simp [Value.oneCell']) ?_
            refine hK.out _ _ (QS.row hSwB hbaz (Nat.le_refl wc.heap.size) _) (fun hSE => ?_)
            clear hK K
            refine wpAnyH_done (by kernel_rfl) ?_ _
            try simp only [Act.put, List.getElem_toArray, List.getElem_cons_succ, List.getElem_cons_zero, List.set_cons_zero, List.set_cons_succ]
            go_wp2_with fail
            go_meet
            exact ⟨wc.heap.size, rfl, by have := hBR6.lt; have := (Nat.le_refl wc.heap.size); omega, setRow_heap _ _ _ _ _ _ (((BlkV.new wc.drew _ _).below (hqA.below _)).below (hqB.below _)), hSE.2.mono (by have := hBR6.lt; omega)⟩
        case rest =>
          obtain ⟨Z, rfl, hGZ, hBZ, hb9⟩ := hcut
          obtain ⟨w9, hw9⟩ : ∃ w9 : World, w9 = wc := ⟨_, rfl⟩
          have hbW9 := hbW6.trans (hb9.mono (show G ≤ G + 1 by omega))
          have hBR9 := hBR6.at hb9 (show G < G + 1 by omega)
          clear hw9 hb9 hbW6 hBR6 hr6 d2 HG64 HG12 D2 HDV hdv w9
          obtain ⟨data, hdata⟩ : ∃ d, d = (b.drop 24).take sz := ⟨_, rfl⟩
          have hdl : data.length = sz := by rw [hdata, List.length_take, List.length_drop]; omega
          have htl := tail_iff (b := b) (sz := sz) (S := S) HS.out (by omega) (by omega)
          obtain ⟨gT, hgT⟩ : ∃ g, g = getN ((b.drop (24 + sz)).take 4) := ⟨_, rfl⟩
          obtain ⟨s, hs⟩ : ∃ s, s = crc data := ⟨_, rfl⟩
          have hT1 := HG32.out (24 + sz) gT hgT.symm (by omega)
          have hT2 : ∀ W, Below w.heap.size w W → Calls Try.prog 25 #[.slice (some ⟨ba, bo + 24, none⟩) sz (c - 24)] W fun e w' => e = .returned (.int .u32 (s.toNat : Int)) ∧ Below W.heap.size W w' := by
            intro W hb
            have hrd : Rd W (some ⟨ba, bo + 24, none⟩) (c - 24) (B8 data) := by rw [hdata]; exact (rd8_drop (hr.kept hb) 24 (by omega)).take8 sz
            have := refSum_any W _ (c - 24) data hrd
            rw [hdl, ← hs] at this
            exact this
          have hTO : ∀ j, tailOk b sz j ↔ (gT = s.toNat ∧ ∀ t, 28 + sz ≤ t → t < j → b.getD t 0 = 0) := fun j => by unfold tailOk; rw [hgT, hs, hdata]
          have hYok : tailOk b sz S → Y = ((key, ck, dead, data), S, 0) := fun h => by rw [HYG.out, if_pos (htl.2 h), hdata]
          have hYno : ¬ tailOk b sz S → Y = ((key, ck, dead, []), S, 4) := fun h => by rw [HYG.out, if_neg (fun e => h (htl.1 e))]
          have HT1 := Lib.hid hT1
          have HT2 := Lib.hid hT2
          have HTO := Lib.hid hTO
          have HYOK := Lib.hid hYok
          have HYNO := Lib.hid hYno
          have HDL := Lib.hid hdl
          have HDT := Lib.hid hdata
          clear hdata hdl hYok hYno htl hgT hs hT1 hT2 hTO HG32 HYG
          go_wp2_with (with_reducible refine At.slot 86 ?_)
          refine At.out (wpList_lhA rfl (.tmp 83) (.const (.int .i64 24)) (.tmp 85) rfl elemB ba bo b.length c rfl .i64 .i64 24 (24 + sz) rfl (show Value.int IntKind.i64 (24 + (sz : Int)) = .int .i64 ((24 + sz : Nat) : Int) from by go_num) (by omega) (by omega) (by omega) ?_)
          rw [show 24 + sz - 24 = sz by omega]
          go_wp2_with (with_reducible refine At.slot 90 ?_)
          refine At.out (wpList_plA rfl (.tmp 87) (.tmp 89) rfl elemB ba bo b.length c rfl .i64 (24 + sz) (show Value.int IntKind.i64 (24 + (sz : Int)) = .int .i64 ((24 + sz : Nat) : Int) from by go_num) (by omega) (by omega) ?_)
          go_wp2_with fail
          refine (HT1.out _ (HG.out ▸ hbW9)).mono ?_
          rintro e w10 ⟨rfl, hq10⟩
          have hbW10 := hbW9.trans (hq10.below G)
          have hBR10 := hBR9.below (hq10.below _)
          have hBZ10 := hBZ.below (hq10.below _)
          clear hq10 hbW9 hBR9 hBZ
          go_wp2_with fail
          refine (HT2.out _ (HG.out ▸ hbW10)).mono ?_
          rintro e w11 ⟨rfl, hb11⟩
          have hGs : G ≤ w10.heap.size := by have := hBR10.lt; omega
          have hbW11 := hbW10.trans (hb11.mono hGs)
          have hBR11 := hBR10.below hb11
          have hBZ11 := hBZ10.below hb11
          clear hb11 hbW10 hBR10 hBZ10 hGs HT1 HT2
          obtain ⟨r0, hr0⟩ : ∃ r0 : Bool, r0 = ((gT : Int) != (s.toNat : Int)) := ⟨_, rfl⟩
          have hne : ((gT : Int) != (s.toNat : Int)) = r0 := hr0.symm
          have HR0 : Hid (r0 = true ↔ ¬ tailOk b sz (28 + sz)) := Lib.hid (by
            rw [HTO.out, hr0, bne_iff_ne]
            constructor
            · intro h1 h2
              exact h1 (by rw [h2.1])
            · intro h1 h2
              exact h1 ⟨by omega, fun t h3 h4 => by omega⟩)
          clear hr0
          go_wp2
          go_loopw [9, 10] (fun s9 s10 wr => ∃ (i : Nat) (r : Bool), 28 + sz ≤ i ∧ i ≤ S ∧ s10 = .int .i64 i ∧ s9 = .bool r ∧ Hid (r = true ↔ ¬ tailOk b sz i) ∧ wr = w11) (fun _ s10 _ => S - (intOf s10).toNat)
          case atStart => exact ⟨28 + sz, r0, by omega, by omega, by go_num, rfl, HR0, rfl⟩
          case round =>
            clear HR0 hne
            obtain ⟨i, r, hi1, hi2, rfl, rfl, HRI, rfl⟩ := hrel
            by_cases hlt : i < S
            · have hii : (i : Int) < (S : Int) := by omega
              have hib : (i : Int) < (b.length : Int) := by omega
              obtain ⟨x, hx⟩ : ∃ x, x = b[i]'(by omega) := ⟨_, rfl⟩
              have hcx := (hbW11.cell (p := ⟨ba, bo + i, none⟩) (by rw [HG.out]; exact hlt0)).trans (HCELL.out i (by omega))
              rw [← hx] at hcx
              have hgx : b.getD i 0 = x := by rw [List.getD_eq_getElem?_getD, List.getElem?_eq_getElem (by omega), hx]; rfl
              cases r with
              | true =>
                have H2 : Hid (true = true ↔ ¬ tailOk b sz (i + 1)) := Lib.hid (by
                  refine ⟨fun _ h => (HRI.out.1 rfl) ?_, fun _ => rfl⟩
                  rw [HTO.out] at h ⊢
                  exact ⟨h.1, fun t h1 h2 => h.2 t h1 (by omega)⟩)
                clear hx hgx
                go_wp2
                go_roundw
                case rel => exact ⟨i + 1, true, by omega, by omega, by go_num, rfl, H2, trivial⟩
                case measure => simp [intOf]; omega
              | false =>
                obtain ⟨r', hr'⟩ : ∃ r' : Bool, r' = ((x.toNat : Int) != 0) := ⟨_, rfl⟩
                have hne : ((x.toNat : Int) != 0) = r' := hr'.symm
                have hok : tailOk b sz i := Classical.byContradiction fun h => by have := HRI.out.2 h; cases this
                have H2 : Hid (r' = true ↔ ¬ tailOk b sz (i + 1)) := Lib.hid (by
                  rw [hr', bne_iff_ne, HTO.out]
                  rw [HTO.out] at hok
                  constructor
                  · intro h1 h2
                    have := h2.2 i hi1 (by omega)
                    rw [hgx] at this
                    rw [this] at h1
                    exact h1 rfl
                  · intro h1 h2
                    refine h1 ⟨hok.1, fun t h3 h4 => ?_⟩
                    by_cases e : t = i
                    · subst e; rw [hgx]
                      exact UInt8.toNat_inj.1 (by have : (0 : UInt8).toNat = 0 := rfl; omega)
                    · exact hok.2 t h3 (by omega))
                clear hx hgx hok hr'
                go_wp2
                go_roundw
                case rel => exact ⟨i + 1, r', by omega, by omega, by go_num, rfl, H2, trivial⟩
                case measure => simp [intOf]; omega
            · obtain rfl : S = i := by omega
              have hnl : ¬ (S : Int) < (S : Int) := by omega
              cases r with
              | true =>
                have HYb : Hid (((key, ck, dead, []), S, 4) = Y) := Lib.hid (HYNO.out (HRI.out.1 rfl)).symm
                go_wp2_with (with_reducible refine At.slot 111 ?_)
                refine At.out (wpList_loadV rfl _ rfl (.tmp 7) rfl strN Z _ rfl hBZ11 rfl ?_)
                go_wp2_with (with_reducible refine At.store 26 (.tmp 2) (.tmp 111) ?_)
                refine At.out (wpList_storeV rfl _ rfl (.tmp 2) (.tmp 111) rfl strN G _ #[.int .u64 key.toNat, .int .u32 ck.toNat, .bool dead, .slice none 0 0] rfl rfl hBR11 rfl rfl (by simp [Value.oneCell']) ?_)
                intro w13 hB13 hbel13 _
                have hb13 := hbel13 G w hbW11 (Nat.le_refl _)
                go_wp2_with fail
                rw [← HYb.out]
                exact bodyPost_ret (v := .tuple #[.agg #[.int .u64 key.toNat, .int .u32 ck.toNat, .bool dead, .slice none 0 0], .int .i64 (S : Int), .int .i64 4]) (results_cell3 rfl strN rfl rfl rfl hB13 rfl) rfl (NDP.mk (World.ownsRow_nil _ _ _ _) (HG.out ▸ hb13))
              | false =>
                have hok : tailOk b sz S := Classical.byContradiction fun h => by have := HRI.out.2 h; cases this
                have HYb : Hid (((key, ck, dead, data), S, 0) = Y) := Lib.hid (HYOK.out hok).symm
                have hrdat : ∀ W, Below G w W → Rd W (some ⟨ba, bo + 24, none⟩) (c - 24) (B8 data) := fun W hb => by rw [HDT.out]; exact (rd8_drop (hr.kept (HG.out ▸ hb : Below w.heap.size w W)) 24 (by omega)).take8 sz
                obtain ⟨K, hK⟩ : ∃ K, K = wr.heap.size := ⟨_, rfl⟩
                have hZK : Z < K := by rw [hK]; exact hBZ11.lt
                have hKs : K ≤ wr.heap.size := by omega
                have hemp := own_empty wr 5
                rw [← hK] at hemp
                have hGK : G ≤ K := by omega
                have hbe := (Below.refl K wr).alloc hKs (.cells #[] 5)
                have hbWe : Below G w (wr.alloc (.cells #[] 5)) := hbW11.trans (hbe.mono hGK)
                have hrd11 := hrdat _ hbWe
                have HK2 := Lib.hid hK
                clear hok hK
                go_wp2_with (with_reducible refine At.slot 115 ?_)
                rw [← HK2.out]
                refine At.out (wpList_app rfl (.tmp 113) (.tmp 114) 24 rfl elemB rfl K _ 0 [] rfl hemp _ sz (c - 24) (B8 data) rfl (by rw [B8_length, HDL.out]) hrd11 (B8_one data) (by unfold maxLen; omega) (by omega) (by simp; omega) ?_)
                intro v12 w12 ho12 hb12 _
                rw [Nat.zero_add, List.nil_append] at ho12
                have hbx : Below K wr w12 := hbe.trans hb12
                have hbW12 := hbW11.trans (hbx.mono hGK)
                have hBR12 := hBR11.at hbx (by omega)
                have hBZ12 := hBZ11.at hbx hZK
                have m3 := hBZ12.cell 3
                have mf := hBZ12.frozen 3
                simp only [List.getElem?_toArray, List.getElem?_cons_succ, List.getElem?_cons_zero] at m3
                obtain ⟨a12, c12, rfl, _⟩ := Rd.ofOwn ho12
                clear hemp hbe hbWe hrd11 hrdat hb12 hbx hBR11 hBZ11 hbW11
                go_wp2_with (with_reducible refine At.slot 117 ?_)
                obtain ⟨w13, hw13⟩ : ∃ w13, w13 = w12.setCell ⟨Z, 3, none⟩ (.slice a12 sz c12) := ⟨_, rfl⟩
                have hBR13 := hBR12.far (show G ≠ Z by omega) 3 (.slice a12 sz c12)
                have hBZ13 := hBZ12.set 3 (.slice a12 sz c12)
                have hbW13 : Below G w w13 := by rw [hw13]; exact hbW12.setCell (p := ⟨Z, 3, none⟩) (by show G ≤ Z; omega) _
                have ho13 := own_setFar ho12 hZK 3 (.slice a12 sz c12)
                simp only [List.setIfInBounds_toArray, List.set_cons_zero, List.set_cons_succ] at hBZ13
                rw [← hw13] at hBR13 hBZ13 ho13 ⊢
                clear hBR12 hBZ12 m3 mf ho12 hbW12 hw13
                refine At.out (wpList_loadV rfl _ rfl (.tmp 7) rfl strN Z _ rfl hBZ13 rfl ?_)
                go_wp2_with (with_reducible refine At.store 26 (.tmp 2) (.tmp 117) ?_)
                refine At.out (wpList_storeV rfl _ rfl (.tmp 2) (.tmp 117) rfl strN G _ #[.int .u64 key.toNat, .int .u32 ck.toNat, .bool dead, .slice a12 sz c12] rfl rfl hBR13 rfl rfl (by simp [Value.oneCell']) ?_)
                intro w14 hB14 hbel14 hoth14
                have hb14 := hbel14 G w hbW13 (Nat.le_refl _)
                have ho14 := own_same ho13 (fun k hk => hoth14 k (by omega))
                have ho14' := own_len (own_base ho14 hGK) HDL.out.symm
                go_wp2_with fail
                rw [← HYb.out]
                exact bodyPost_ret (v := .tuple #[.agg #[.int .u64 key.toNat, .int .u32 ck.toNat, .bool dead, .slice a12 sz c12], .int .i64 (S : Int), .int .i64 0]) (results_cell3 rfl strN rfl rfl rfl hB14 rfl) rfl (NDP.mk (HG.out ▸ ho14') (HG.out ▸ hb14))
/-- The document's Decode. -/
theorem refNDecode_any (w : World) (a : Option Addr) (c : Nat) (b : List UInt8) (hr : Rd w a c (B8 b)) :
    Calls Try.prog 17 #[.slice a b.length c] w (NDP w (nDec b)) := by
  by_cases h : b.length < 24
  · have := refNDec_short w a c b h
    rwa [show nDec b = ((0, 0, false, []), 0, 2) by unfold nDec; rw [if_pos h]]
  · exact refNDec_head w a c b hr (by omega) _ rfl
end Go.Proofs.Ytlahcdkhpekefaa
