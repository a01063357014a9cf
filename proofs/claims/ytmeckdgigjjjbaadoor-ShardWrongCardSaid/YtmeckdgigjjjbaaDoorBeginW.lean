/- shard's begins: the contract. Conditions: its own premises. -/
import Derived.Test.YtmeckdgigjjjbaaDoorSh0
import Derived.Test.YtmeckdgigjjjbaaDoorMxP
namespace Go.Proofs.YtmeckdgigjjjbaaDoor
open Go Go.RowKit

/-- A call's work: the matrix, and the inverses. -/
structure WorkI (W : World) (B g b k m : Nat) (ac : Option Addr) (cc : Nat) : Prop where
  blk : BlkV W g 62 #[.int .i64 (k : Int), .int .i64 (m : Int), .slice ac (k + m) cc, .map (some b)]
  code : RdLL W ac cc (codeL k m)
  map : MapI W b k m
  base : B ≤ g
  baseb : B ≤ b
/-- The rows may not be spoken of. -/
def noRows (L : Mx) (k m : Int) : Prop := codeBad k m = true ∨ (L.length : Int) ≠ k + m ∨ Odd L
/-- What begins gives. -/
def BegP (w : World) (L : Mx) (k m : Int) (e : Ending) (w' : World) : Prop :=
  (noRows L k m ∧ e = .returned (.tuple #[.pointer none, .int .u32 0, .int .i64 0, .int .i64 1]) ∧ Below w.heap.size w w') ∨
  (¬ noRows L k m ∧ ∃ (g b T n sz : Nat) (ac : Option Addr) (cc : Nat), BegI L L.length T n sz ∧ e = .returned (.tuple #[.pointer (some ⟨g, 0, none⟩), .int .u32 (T : Int), .int .i64 (n : Int), .int .i64 0]) ∧ WorkI w' w.heap.size g b k.toNat m.toNat ac cc ∧ Below w.heap.size w w')

set_option maxRecDepth 100000 in
set_option maxHeartbeats 2000000 in
theorem begins_any (w : World) (a : Option Addr) (c : Nat) (L : Mx) (k m : Int) (hr : RdLL w a c L) (hk : -9223372036854775808 ≤ k ∧ k ≤ 9223372036854775807) (hm : -9223372036854775808 ≤ m ∧ m ≤ 9223372036854775807) (hL : L.length ≤ 1000000) (hLl : ∀ r ∈ L, r.length ≤ 1000000) :
    Calls Tryd.prog 18 #[.slice a L.length c, .int .i64 k, .int .i64 m] w (BegP w L k m) := by
  have hC := code_any w k m hk hm
  by_cases hbad : codeBad k m = true
  · rw [show codeR k m = ([], 1) from if_pos hbad] at hC
    have hno : noRows L k m := .inl hbad
    have HC := Lib.hid hC
    clear hC hbad
    go_enter Tryd.func18, Tryd.ntmps18
    go_wp2_with fail
    refine HC.out.mono ?_
    intro e w1 h
    obtain ⟨v, rfl, _, hb1⟩ := h
    go_wp2
    have HNO := Lib.hid hno
    exact bodyPost_ret (v := .tuple #[.pointer none, .int .u32 0, .int .i64 0, .int .i64 1]) (by simp [results, Tryd.results18, go_sem]) rfl (.inl ⟨HNO.out, rfl, hb1⟩)
  by_cases hlen : (L.length : Int) = k + m
  · have hcb : codeBad k m = false := by simpa using hbad
    unfold codeBad at hcb
    have h3 := of_decide_eq_false hcb
    obtain ⟨kn, rfl⟩ : ∃ k' : Nat, k = k' := ⟨k.toNat, by omega⟩
    obtain ⟨mn, rfl⟩ : ∃ m' : Nat, m = m' := ⟨m.toNat, by omega⟩
    have hk1 : 1 ≤ kn := by omega
    have hkm : kn + mn ≤ 14 := by omega
    have hLkm : L.length = kn + mn := by omega
    rw [show codeR kn mn = (codeL kn mn, 0) from by unfold codeR; rw [if_neg hbad]; rfl] at hC
    have hcl : (codeL kn mn).length = kn + mn := codeL_length kn mn
    have HC := Lib.hid hC
    have HCL := Lib.hid hcl
    have HLKM := Lib.hid hLkm
    have HB := Lib.hid hbad
    have hlb : ((L.length : Int) != (kn : Int) + (mn : Int)) = false := by simp [hlen]
    clear hC hcl hbad hcb h3 hk hm hLkm
    go_enter Tryd.func18, Tryd.ntmps18
    go_wp2_with fail
    refine HC.out.mono ?_
    intro e w1 h
    obtain ⟨ac, cc, rfl, hrc, hb1⟩ := MxP.rd h
    have hrc' : RdLL w1 ac cc (codeL kn mn) := hrc
    rw [show ((codeL kn mn, 0) : Mx × Nat).1.length = kn + mn from HCL.out]
    clear h hrc
    have HLEN := Lib.hid hlen
    clear hlen
    go_wp2_with fail
    clear hlb
    go_loopw [12, 13, 14, 35] (fun s12 s13 s14 s35 wr => ∃ (i T n sz : Nat), i ≤ L.length ∧ s35 = .int .i64 i ∧ s12 = .int .u32 (T : Int) ∧ s13 = .int .i64 (n : Int) ∧ s14 = .int .i64 (sz : Int) ∧ n ≤ i ∧ Hid (BegI L i T n sz) ∧ wr = w1) (fun _ _ _ s35 _ => L.length - (intOf s35).toNat)
    case atStart => exact ⟨0, 0, 0, 0, by omega, rfl, rfl, rfl, rfl, by omega, Lib.hid (BegI.start L), rfl⟩
    case round =>
      obtain ⟨i, T, n, sz, hi, rfl, rfl, rfl, rfl, hni, HI, rfl⟩ := hrel
      by_cases hlt : i < L.length
      · have hii : (i : Int) < (L.length : Int) := by omega
        obtain ⟨b0, o0, ad, cd, rfl, hc0, _⟩ := (hr.kept hb1).cell i hlt
        have hgd : L.getD i [] = L[i] := by rw [List.getD_eq_getElem?_getD, List.getElem?_eq_getElem hlt]; rfl
        have hle := hLl _ (List.getElem_mem hlt)
        obtain ⟨l, hl⟩ : ∃ l, l = (L[i]).length := ⟨_, rfl⟩
        rw [← hl] at hc0 hle
        have hgl : (L.getD i []).length = l := by rw [hgd, hl]
        by_cases hl0 : l = 0
        · have hp : presT L i = false := by unfold presT; rw [hgl]; simp [hl0]
          have h2 := HI.out.skip hp
          have H2 := Lib.hid h2
          have hl1 : ((l : Int) == 0) = true := by rw [beq_iff_eq]; omega
          clear h2 hp hgd hl hgl hl0
          go_wp2
          go_roundw
          case rel => exact ⟨i + 1, T, n, sz, by omega, by go_num, rfl, rfl, rfl, by omega, H2, trivial⟩
          case measure => simp [intOf]; omega
        · have hp : presT L i = true := by unfold presT; rw [hgl]; simp [hl0]
          have hl1 : ((l : Int) == 0) = false := by rw [beq_eq_false_iff_ne]; omega
          by_cases hodd : 0 < n ∧ l ≠ sz
          · have ho := HI.out.odd hp hodd.1 (by rw [hgl]; exact hodd.2)
            have HNO := Lib.hid (show noRows L kn mn from .inr (.inr ho))
            have hn1 : (0 : Int) < (n : Int) := by omega
            have hn2 : ((l : Int) != (sz : Int)) = true := by rw [bne_iff_ne]; omega
            clear ho hodd hp hgd hl hgl hl0
            go_wp2
            exact bodyPost_ret (v := .tuple #[.pointer none, .int .u32 0, .int .i64 0, .int .i64 1]) (by simp [results, Tryd.results18, go_sem]) rfl (.inl ⟨HNO.out, rfl, hb1⟩)
          · have hs : 0 < n → (L.getD i []).length = sz := fun h => by rw [hgl]; exact Classical.byContradiction fun hne => hodd ⟨h, hne⟩
            obtain ⟨T', hT1, hT2, hT3⟩ := or_bit T i HI.out.lt (by have := HLKM.out; omega)
            have h2 := HI.out.next hp hs hT2 hT3
            rw [hgl] at h2
            have H2 := Lib.hid h2
            have hT4 : bits BinOp.or IntKind.u32 (T : Int) (2 ^ min i 32 % 4294967296) = (T' : Int) := by
              rw [show min i 32 = i by have := HLKM.out; omega, ← wrap_u32']; exact hT1
            have HT := Lib.hid hT4
            clear hT4
            by_cases hn0 : 0 < n
            · have hn1 : (0 : Int) < (n : Int) := by omega
              have hn2 : ((l : Int) != (sz : Int)) = false := by
                have : l = sz := by rw [← hgl]; exact hs hn0
                rw [this]; simp
              clear h2 hp hgd hl hgl hl0 hodd hs hT1 hT2 hT3 hn0
              go_wp2
              go_roundw
              case rel => exact ⟨i + 1, T', n + 1, l, by omega, by go_num, by rw [HT.out], by go_num, rfl, by omega, H2, trivial⟩
              case measure => simp [intOf]; omega
            · have hn1 : (n : Int) ≤ 0 := by omega
              clear h2 hp hgd hl hgl hl0 hodd hs hT1 hT2 hT3 hn0
              go_wp2
              go_roundw
              case rel => exact ⟨i + 1, T', n + 1, l, by omega, by go_num, by rw [HT.out], by go_num, rfl, by omega, H2, trivial⟩
              case measure => simp [intOf]; omega
      · obtain rfl : i = L.length := by omega
        have hnl : ¬ (L.length : Int) < (L.length : Int) := by omega
        have hmm := @run_makeMap Tryd.prog
        have hno : ¬ noRows L kn mn := by
          rintro (h | h | h)
          · exact HB.out h
          · exact h HLEN.out
          · exact HI.out.even h
        have hb2 : Below w.heap.size w ((wr.alloc (.map #[] 0)).alloc (.cells #[.int .i64 (kn : Int), .int .i64 (mn : Int), .slice ac (kn + mn) cc, .map (some wr.heap.size)] 62)) := (hb1.alloc hb1.size _).alloc (by simp; have := hb1.size; omega) _
        have hblk := BlkV.new (wr.alloc (.map #[] 0)) 62 #[.int .i64 (kn : Int), .int .i64 (mn : Int), .slice ac (kn + mn) cc, .map (some wr.heap.size)]
        rw [show (wr.alloc (.map #[] 0)).heap.size = wr.heap.size + 1 by simp] at hblk
        have hcode : RdLL ((wr.alloc (.map #[] 0)).alloc (.cells #[.int .i64 (kn : Int), .int .i64 (mn : Int), .slice ac (kn + mn) cc, .map (some wr.heap.size)] 62)) ac cc (codeL kn mn) :=
          hrc'.kept (((Below.refl _ _).alloc (Nat.le_refl _) _).alloc (by simp) _)
        have hmap : MapI ((wr.alloc (.map #[] 0)).alloc (.cells #[.int .i64 (kn : Int), .int .i64 (mn : Int), .slice ac (kn + mn) cc, .map (some wr.heap.size)] 62)) wr.heap.size kn mn :=
          ⟨#[], 0, by
            rw [(MapKept.heap_alloc (wr.alloc (.map #[] 0)) _).2 _ (by simp)]
            exact (MapKept.heap_alloc wr _).1, fun x hx => by simp at hx⟩
        have hsz := hb1.size
        have HNO := Lib.hid hno
        have HBK := Lib.hid hblk
        have HCD := Lib.hid hcode
        have HMP := Lib.hid hmap
        have HB2 := Lib.hid hb2
        clear hno hblk hcode hmap hb2 hrc'
        go_wp2
        exact bodyPost_ret (v := .tuple #[.pointer (some ⟨wr.heap.size + 1, 0, none⟩), .int .u32 (T : Int), .int .i64 (n : Int), .int .i64 0]) (by simp [results, Tryd.results18, go_sem]) rfl
          (.inr ⟨HNO.out, wr.heap.size + 1, wr.heap.size, T, n, sz, ac, cc, HI.out, rfl, ⟨HBK.out, HCD.out, HMP.out, by omega, by omega⟩, HB2.out⟩)
  · have hlb : ((L.length : Int) != k + m) = true := by rw [bne_iff_ne]; exact hlen
    have HNO := Lib.hid (show noRows L k m from .inr (.inl hlen))
    have hcb : codeBad k m = false := by simpa using hbad
    unfold codeBad at hcb
    have h3 := of_decide_eq_false hcb
    obtain ⟨kn, rfl⟩ : ∃ k' : Nat, k = k' := ⟨k.toNat, by omega⟩
    obtain ⟨mn, rfl⟩ : ∃ m' : Nat, m = m' := ⟨m.toNat, by omega⟩
    have hkm : kn + mn ≤ 14 := by omega
    rw [show codeR kn mn = (codeL kn mn, 0) from by unfold codeR; rw [if_neg hbad]; rfl] at hC
    have HC := Lib.hid hC
    clear hC hbad hcb h3 hk hm hlen
    go_enter Tryd.func18, Tryd.ntmps18
    go_wp2_with fail
    refine HC.out.mono ?_
    intro e w1 h
    obtain ⟨v, rfl, _, hb1⟩ := h
    go_wp2
    exact bodyPost_ret (v := .tuple #[.pointer none, .int .u32 0, .int .i64 0, .int .i64 1]) (by simp [results, Tryd.results18, go_sem]) rfl (.inl ⟨HNO.out, rfl, hb1⟩)
end Go.Proofs.YtmeckdgigjjjbaaDoor
