/- The document's fits: the contract. Conditions: its own premises. -/
import Derived.Test.YtmeckdgigjjjbaaDoorShardP
import Derived.Test.YtmeckdgigjjjbaaDoorRefCode
namespace Go.Proofs.YtmeckdgigjjjbaaDoor
open Go Go.RowKit

/-- What stands when i rows were looked at. -/
structure FitI (L : Mx) (i n : Nat) : Prop where
  ex : n ≠ 0 → ∃ r, r < i ∧ presT L r = true ∧ (L.getD r []).length = n
  all : ∀ r, r < i → presT L r = true → (L.getD r []).length = n
theorem FitI.skip {L : Mx} {i n : Nat} (h : FitI L i n) (hp : presT L i = false) : FitI L (i + 1) n := by
  refine ⟨fun hn => ?_, fun r hr hpr => ?_⟩
  · obtain ⟨r, h1, h2⟩ := h.ex hn
    exact ⟨r, by omega, h2⟩
  · by_cases e : r = i
    · subst e; rw [hp] at hpr; cases hpr
    · exact h.all r (by omega) hpr
theorem FitI.next {L : Mx} {i n : Nat} (h : FitI L i n) (hp : presT L i = true) (hs : n ≠ 0 → (L.getD i []).length = n) : FitI L (i + 1) (L.getD i []).length := by
  refine ⟨fun _ => ⟨i, by omega, hp, rfl⟩, fun r hr hpr => ?_⟩
  by_cases e : r = i
  · subst e; rfl
  · by_cases hn : n = 0
    · have h1 := h.all r (by omega) hpr
      unfold presT at hpr
      have := of_decide_eq_true hpr
      omega
    · rw [h.all r (by omega) hpr, hs hn]
theorem FitI.odd {L : Mx} {i n : Nat} (h : FitI L i n) (hp : presT L i = true) (hn : n ≠ 0) (hs : (L.getD i []).length ≠ n) : Odd L := by
  obtain ⟨r, _, h2, h3⟩ := h.ex hn
  exact ⟨i, r, hp, h2, by rw [h3]; exact hs⟩
theorem FitI.even {L : Mx} {n : Nat} (h : FitI L L.length n) : ¬ Odd L := by
  rintro ⟨r, s, h1, h2, h3⟩
  exact h3 (by rw [h.all r (presT_lt h1) h1, h.all s (presT_lt h2) h2])

/-- What fits gives. -/
def FitsP (w : World) (L : Mx) (k m : Int) (e : Ending) (w' : World) : Prop :=
  ∃ (n : Int) (b : Bool), e = .returned (.tuple #[.int .i64 n, .bool b]) ∧ (b = true ↔ ¬ noRows L k m) ∧ Below w.heap.size w w'

set_option maxRecDepth 100000 in
set_option maxHeartbeats 2000000 in
theorem fits_any (w : World) (a : Option Addr) (c : Nat) (L : Mx) (k m : Int) (hr : RdLL w a c L) (hk : -9223372036854775808 ≤ k ∧ k ≤ 9223372036854775807) (hm : -9223372036854775808 ≤ m ∧ m ≤ 9223372036854775807) (hL : L.length ≤ 1000000) (hLl : ∀ r ∈ L, r.length ≤ 1000000) :
    Calls Tryd.prog 20 #[.slice a L.length c, .int .i64 k, .int .i64 m] w (FitsP w L k m) := by
  have hC := refCode_any w k m
  by_cases hbad : codeBad k m = true
  · rw [show codeR k m = ([], 1) from if_pos hbad] at hC
    have hno : noRows L k m := .inl hbad
    have HC := Lib.hid hC
    have HNO := Lib.hid hno
    clear hC hbad hno
    go_enter Tryd.func20, Tryd.ntmps20
    go_wp2_with fail
    refine HC.out.mono ?_
    intro e w1 h
    obtain ⟨v, rfl, _, hb1⟩ := h
    go_wp2
    go_ret2
    exact ⟨0, false, rfl, by simp [HNO.out], hb1⟩
  have hcb : codeBad k m = false := by simpa using hbad
  unfold codeBad at hcb
  have h3 := of_decide_eq_false hcb
  obtain ⟨kn, rfl⟩ : ∃ k' : Nat, k = k' := ⟨k.toNat, by omega⟩
  obtain ⟨mn, rfl⟩ : ∃ m' : Nat, m = m' := ⟨m.toNat, by omega⟩
  have hkm : kn + mn ≤ 14 := by omega
  rw [show codeR kn mn = (codeL kn mn, 0) from by unfold codeR; rw [if_neg hbad]; rfl] at hC
  have HC := Lib.hid hC
  have HB := Lib.hid hbad
  clear hC hbad hcb h3 hk hm
  by_cases hlen : (L.length : Int) = kn + mn
  · have hlb : ((L.length : Int) != (kn : Int) + (mn : Int)) = false := by simp [hlen]
    have HLEN := Lib.hid hlen
    have HR := Lib.hid hr
    have HLL := Lib.hid hLl
    clear hlen hr hLl
    go_enter Tryd.func20, Tryd.ntmps20
    go_wp2_with fail
    refine HC.out.mono ?_
    intro e w1 h
    obtain ⟨ac, cc, rfl, _, hb1⟩ := MxP.rd h
    clear h
    go_wp2_with fail
    clear hlb
    go_loopw [10, 11] (fun s10 s11 wr => ∃ (i n : Nat), i ≤ L.length ∧ s11 = .int .i64 i ∧ s10 = .int .i64 (n : Int) ∧ n ≤ 1000000 ∧ Hid (FitI L i n) ∧ wr = w1) (fun _ s11 _ => L.length - (intOf s11).toNat)
    case atStart => exact ⟨0, 0, by omega, rfl, rfl, by omega, Lib.hid ⟨fun h => absurd rfl h, fun r h => by omega⟩, rfl⟩
    case round =>
      obtain ⟨i, n, hi, rfl, rfl, hn6, HI, rfl⟩ := hrel
      by_cases hlt : i < L.length
      · have hii : (i : Int) < (L.length : Int) := by omega
        obtain ⟨b0, o0, ad, cd, rfl, hc0, _⟩ := (HR.out.kept hb1).cell i hlt
        have hgd : L.getD i [] = L[i] := by rw [List.getD_eq_getElem?_getD, List.getElem?_eq_getElem hlt]; rfl
        have hle := HLL.out _ (List.getElem_mem hlt)
        obtain ⟨l, hl⟩ : ∃ l, l = (L[i]).length := ⟨_, rfl⟩
        rw [← hl] at hc0 hle
        have hgl : (L.getD i []).length = l := by rw [hgd, hl]
        by_cases hl0 : l = 0
        · have hp : presT L i = false := by unfold presT; rw [hgl]; simp [hl0]
          have H2 := Lib.hid (HI.out.skip hp)
          have hl1 : ((l : Int) == 0) = true := by rw [beq_iff_eq]; omega
          clear hp hgd hl hgl hl0
          go_wp2
          go_roundw
          case rel => exact ⟨i + 1, n, by omega, by go_num, rfl, hn6, H2, trivial⟩
          case measure => simp [intOf]; omega
        · have hp : presT L i = true := by unfold presT; rw [hgl]; simp [hl0]
          have hl1 : ((l : Int) == 0) = false := by rw [beq_eq_false_iff_ne]; omega
          by_cases hn0 : n = 0
          · have h2 := HI.out.next hp (fun h => absurd hn0 h)
            rw [hgl] at h2
            have H2 := Lib.hid h2
            have hn1 : ((n : Int) != 0) = false := by rw [hn0]; rfl
            clear h2 hp hgd hl hgl hl0 hn0
            go_wp2
            go_roundw
            case rel => exact ⟨i + 1, l, by omega, by go_num, rfl, hle, H2, trivial⟩
            case measure => simp [intOf]; omega
          · have hn1 : ((n : Int) != 0) = true := by rw [bne_iff_ne]; omega
            by_cases hs : l = n
            · have h2 := HI.out.next hp (fun _ => by rw [hgl]; exact hs)
              rw [hgl] at h2
              have H2 := Lib.hid h2
              have hn2 : ((l : Int) != (n : Int)) = false := by rw [hs]; simp
              clear h2 hp hgd hl hgl hl0 hn0 hs
              go_wp2
              go_roundw
              case rel => exact ⟨i + 1, l, by omega, by go_num, rfl, hle, H2, trivial⟩
              case measure => simp [intOf]; omega
            · have ho := HI.out.odd hp hn0 (by rw [hgl]; exact hs)
              have HNO := Lib.hid (show noRows L kn mn from .inr (.inr ho))
              have hn2 : ((l : Int) != (n : Int)) = true := by rw [bne_iff_ne]; omega
              clear ho hp hgd hl hgl hl0 hn0 hs
              go_wp2
              go_ret2
              exact ⟨0, false, rfl, by simp [HNO.out], hb1⟩
      · obtain rfl : L.length = i := by omega
        have hnl : ¬ (L.length : Int) < (L.length : Int) := by omega
        have hno : ¬ noRows L kn mn := by
          rintro (h | h | h)
          · exact HB.out h
          · exact h HLEN.out
          · exact HI.out.even h
        have HNO := Lib.hid hno
        clear hno
        go_wp2
        go_ret2
        exact ⟨n, true, rfl, by simp [HNO.out], hb1⟩
  · have hlb : ((L.length : Int) != (kn : Int) + (mn : Int)) = true := by rw [bne_iff_ne]; exact hlen
    have HNO := Lib.hid (show noRows L kn mn from .inr (.inl hlen))
    clear hlen
    go_enter Tryd.func20, Tryd.ntmps20
    go_wp2_with fail
    refine HC.out.mono ?_
    intro e w1 h
    obtain ⟨v, rfl, _, hb1⟩ := h
    go_wp2
    go_ret2
    exact ⟨0, false, rfl, by simp [HNO.out], hb1⟩
end Go.Proofs.YtmeckdgigjjjbaaDoor
