/- Needles there and back: plain laws. Conditions: each law's own premises. -/
import Derived.Test.YtlahcdkhpekefaaNDec

namespace Go.Proofs.Ytlahcdkhpekefaa
open Go Go.RowKit

theorem drop_take_take (b : List UInt8) (i k n : Nat) (h : i + k ≤ n) : ((b.take n).drop i).take k = (b.drop i).take k := by
  rw [List.drop_take, List.take_take, Nat.min_eq_left (by omega)]
theorem head_part (key : UInt64) (ck : UInt32) (dead : Bool) (sz : Nat) : headL key ck dead sz = [110, 100, if dead then 1 else 0, 0] ++ (putL 8 key.toNat ++ (putL 4 ck.toNat ++ (putL 4 sz ++ putL 4 (crc (head20 key ck dead sz)).toNat))) := by
  unfold headL head20; simp only [List.append_assoc]
theorem head_fields (b : List UInt8) (key : UInt64) (ck : UInt32) (dead : Bool) (sz : Nat) (hsz : sz < 4294967296) (h : b.take 24 = headL key ck dead sz) : nKey b = key ∧ nCk b = ck ∧ nDead b = dead ∧ nSz b = sz := by
  have e := head_part key ck dead sz
  have l4 : ([110, 100, if dead then 1 else 0, 0] : List UInt8).length = 4 := rfl
  have p1 : (b.drop 4).take 8 = putL 8 key.toNat := by
    rw [← drop_take_take b 4 8 24 (by omega), h, e, List.drop_left' l4, List.take_left' (putL_length _ _)]
  have p2 : (b.drop 12).take 4 = putL 4 ck.toNat := by
    rw [← drop_take_take b 12 4 24 (by omega), h, e, show (12 : Nat) = 4 + 8 from rfl, ← List.drop_drop, List.drop_left' l4, List.drop_left' (putL_length _ _), List.take_left' (putL_length _ _)]
  have p3 : (b.drop 16).take 4 = putL 4 sz := by
    rw [← drop_take_take b 16 4 24 (by omega), h, e, show (16 : Nat) = 4 + 8 + 4 from rfl, ← List.drop_drop, ← List.drop_drop, List.drop_left' l4, List.drop_left' (putL_length _ _), List.drop_left' (putL_length _ _), List.take_left' (putL_length _ _)]
  have p4 : b[2]? = some (if dead then 1 else 0) := by
    have : (b.take 24)[2]? = b[2]? := by rw [List.getElem?_take, if_pos (by omega)]
    rw [← this, h, e]; rfl
  refine ⟨?_, ?_, ?_, ?_⟩
  · unfold nKey; rw [p1, getN_putL]
    apply UInt64.toNat_inj.1
    rw [UInt64.toNat_ofNat', Nat.mod_eq_of_lt (by have := u64_lt key; exact Nat.lt_of_le_of_lt (Nat.mod_le _ _) this)]
    exact Nat.mod_eq_of_lt (u64_lt key)
  · unfold nCk; rw [p2, getN_putL]
    apply UInt32.toNat_inj.1
    rw [UInt32.toNat_ofNat', Nat.mod_eq_of_lt (by have := u32_lt ck; exact Nat.lt_of_le_of_lt (Nat.mod_le _ _) this)]
    exact Nat.mod_eq_of_lt (u32_lt ck)
  · unfold nDead
    rw [List.getD_eq_getElem?_getD, p4]
    cases dead <;> rfl
  · unfold nSz; rw [p3, getN_putL]
    exact Nat.mod_eq_of_lt hsz

/-- A needle that is one. -/
structure Whole (dead : Bool) (l : List UInt8) : Prop where
  dead0 : dead = true → l.length = 0
  le : l.length ≤ 65536

theorem good_head {b : List UInt8} {key : UInt64} {ck : UInt32} {dead : Bool} {l : List UInt8} (hw : Whole dead l) (h : b.take 24 = headL key ck dead l.length) : ¬ badHead b := by
  obtain ⟨h1, h2, h3, h4⟩ := head_fields b key ck dead l.length (by have := hw.le; omega) h
  unfold badHead
  rw [h1, h2, h3, h4, h]
  rintro (h | ⟨h, h'⟩ | h)
  · have := hw.le; omega
  · have := hw.dead0 h; omega
  · exact h rfl

/-- Bytes that begin with a head, and then whatever. -/
theorem nDec_form (key : UInt64) (ck : UInt32) (dead : Bool) (l : List UInt8) (hw : Whole dead l) (data rest more : List UInt8) (hd : data.length = l.length) (hr : rest.length = sizeN l.length - (24 + l.length)) :
    nDec (headL key ck dead l.length ++ (data ++ (rest ++ more))) = if rest = nTail l.length data then ((key, ck, dead, data), sizeN l.length, 0) else ((key, ck, dead, []), sizeN l.length, 4) := by
  have hS := sizeN_ge l.length
  have hl := headL_length key ck dead l.length
  have ht : (headL key ck dead l.length ++ (data ++ (rest ++ more))).take 24 = headL key ck dead l.length := List.take_left' hl
  have hlen : (headL key ck dead l.length ++ (data ++ (rest ++ more))).length = sizeN l.length + more.length := by simp only [List.length_append]; omega
  have hgood := good_head (b := headL key ck dead l.length ++ (data ++ (rest ++ more))) hw ht
  obtain ⟨h1, h2, h3, h4⟩ := head_fields _ key ck dead l.length (by have := hw.le; omega) ht
  have hd24 : (headL key ck dead l.length ++ (data ++ (rest ++ more))).drop 24 = data ++ (rest ++ more) := List.drop_left' hl
  unfold nDec
  rw [if_neg (by omega), if_neg hgood, h1, h2, h3, h4, if_neg (by omega), ← List.drop_drop, hd24, List.take_left' hd, List.drop_left' hd, List.take_left' hr]

theorem needL_app (key : UInt64) (ck : UInt32) (dead : Bool) (l more : List UInt8) : needL key ck dead l ++ more = headL key ck dead l.length ++ (l ++ (nTail l.length l ++ more)) := by
  unfold needL nTail; simp only [List.append_assoc]
theorem nTail_length (l data : List UInt8) : (nTail l.length data).length = sizeN l.length - (24 + l.length) := by
  have := sizeN_ge l.length
  unfold nTail; rw [List.length_append, putL_length, zeroB_length]; omega

/-- What was written is read, whatever stands behind. -/
theorem nDec_back (key : UInt64) (ck : UInt32) (dead : Bool) (l more : List UInt8) (hw : Whole dead l) : nDec (needL key ck dead l ++ more) = ((key, ck, dead, l), sizeN l.length, 0) := by
  rw [needL_app, nDec_form key ck dead l hw l _ more rfl (nTail_length l l), if_pos rfl]

/-- What ends too early. -/
theorem nDec_cut (key : UInt64) (ck : UInt32) (dead : Bool) (l : List UInt8) (hw : Whole dead l) (k : Nat) (hk : k < (needL key ck dead l).length) : nDec ((needL key ck dead l).take k) = ((0, 0, false, []), 0, 2) := by
  have hlen : ((needL key ck dead l).take k).length = k := by rw [List.length_take]; omega
  unfold nDec
  by_cases h24 : k < 24
  · rw [hlen, if_pos h24]
  · have ht : ((needL key ck dead l).take k).take 24 = headL key ck dead l.length := by
      rw [List.take_take, Nat.min_eq_left (by omega)]
      have := needL_app key ck dead l []
      rw [List.append_nil] at this
      rw [this, List.take_left' (headL_length _ _ _ _)]
    have hgood := good_head (b := (needL key ck dead l).take k) hw ht
    obtain ⟨h1, h2, h3, h4⟩ := head_fields _ key ck dead l.length (by have := hw.le; omega) ht
    rw [needL_length] at hk
    rw [hlen, if_neg h24, if_neg hgood, h4, if_pos hk]

theorem set_split (p q : List UInt8) (i : Nat) (x : UInt8) : (p ++ q).set i x = if i < p.length then p.set i x ++ q else p ++ q.set (i - p.length) x := by
  split
  · exact List.set_append_left _ _ (by assumption)
  · exact List.set_append_right _ _ (by omega)

/-- One byte that is another one is found. -/
theorem nDec_bad (key : UInt64) (ck : UInt32) (dead : Bool) (l : List UInt8) (hw : Whole dead l) (i : Nat) (x : UInt8) (hi : i < (needL key ck dead l).length) (hx : x ≠ (needL key ck dead l)[i]) :
    (nDec ((needL key ck dead l).set i x)).2.2 = 3 ∨ (nDec ((needL key ck dead l).set i x)).2.2 = 4 := by
  have e0 : needL key ck dead l = headL key ck dead l.length ++ (l ++ nTail l.length l) := by
    have := needL_app key ck dead l []
    simpa using this
  have hl := headL_length key ck dead l.length
  have hx' : some x ≠ (headL key ck dead l.length ++ (l ++ nTail l.length l))[i]? := by
    rw [← e0, List.getElem?_eq_getElem hi]; intro h; exact hx (Option.some.inj h)
  rw [e0, set_split]
  by_cases h24 : i < 24
  · left
    rw [if_pos (by omega)]
    rw [List.getElem?_append_left (by omega)] at hx'
    have ht : ((headL key ck dead l.length).set i x ++ (l ++ nTail l.length l)).take 24 = (headL key ck dead l.length).set i x := List.take_left' (by rw [List.length_set]; exact hl)
    have hbad : badHead ((headL key ck dead l.length).set i x ++ (l ++ nTail l.length l)) := by
      right; right
      rw [ht]
      generalize nKey _ = key'
      generalize nCk _ = ck'
      generalize nDead _ = dead'
      generalize nSz _ = sz'
      intro e
      have hl20 := head20_length key ck dead l.length
      have hl20' := head20_length key' ck' dead' sz'
      unfold headL at e
      rw [set_split] at e
      by_cases h20 : i < 20
      · rw [if_pos (by omega)] at e
        obtain ⟨e1, e2⟩ := List.append_inj e (by rw [List.length_set]; omega)
        have e3 := congrArg getN e2
        rw [getN_putL, getN_putL] at e3
        have e4 : (crc (head20 key' ck' dead' sz')).toNat = (crc (head20 key ck dead l.length)).toNat := by
          have a1 := Nat.mod_eq_of_lt (show (crc (head20 key' ck' dead' sz')).toNat < 256 ^ 4 from UInt32.toNat_lt _)
          have a2 := Nat.mod_eq_of_lt (show (crc (head20 key ck dead l.length)).toNat < 256 ^ 4 from UInt32.toNat_lt _)
          omega
        rw [e1] at e4
        refine crc_set _ i (by omega) x ?_ (UInt32.toNat_inj.1 e4)
        intro h
        apply hx'
        unfold headL
        rw [List.getElem?_append_left (by omega), List.getElem?_eq_getElem (by omega), h]
      · rw [if_neg (by omega)] at e
        obtain ⟨e1, e2⟩ := List.append_inj e (by omega)
        rw [e1] at e2
        have : some x = (putL 4 (crc (head20 key ck dead l.length)).toNat)[i - 20]? := by
          rw [hl20] at e2
          have e5 := congrArg (fun z => z[i - 20]?) e2
          rw [List.getElem?_set_self (by rw [putL_length]; omega)] at e5
          exact e5.symm
        apply hx'
        unfold headL
        rw [List.getElem?_append_right (by omega), hl20]
        exact this
    unfold nDec
    rw [if_neg (by simp only [List.length_append, List.length_set]; omega), if_pos hbad]
  · right
    rw [if_neg (by omega), hl]
    rw [List.getElem?_append_right (by omega), hl] at hx'
    rw [set_split]
    by_cases hdat : i - 24 < l.length
    · rw [if_pos hdat]
      rw [List.getElem?_append_left hdat] at hx'
      have := nDec_form key ck dead l hw (l.set (i - 24) x) (nTail l.length l) [] (by simp) (nTail_length l l)
      rw [List.append_nil] at this
      rw [this, if_neg]
      intro e
      unfold nTail at e
      obtain ⟨e1, _⟩ := List.append_inj e (by rw [putL_length, putL_length])
      have e3 := congrArg getN e1
      rw [getN_putL, getN_putL] at e3
      have e4 : (crc (l.set (i - 24) x)).toNat = (crc l).toNat := by
        have a1 := Nat.mod_eq_of_lt (show (crc (l.set (i - 24) x)).toNat < 256 ^ 4 from UInt32.toNat_lt _)
        have a2 := Nat.mod_eq_of_lt (show (crc l).toNat < 256 ^ 4 from UInt32.toNat_lt _)
        omega
      refine crc_set l (i - 24) hdat x ?_ (UInt32.toNat_inj.1 e4)
      intro h
      apply hx'
      rw [List.getElem?_eq_getElem hdat, h]
    · rw [if_neg hdat]
      rw [List.getElem?_append_right (by omega)] at hx'
      have := nDec_form key ck dead l hw l ((nTail l.length l).set (i - 24 - l.length) x) [] rfl (by rw [List.length_set]; exact nTail_length l l)
      rw [List.append_nil] at this
      rw [this, if_neg]
      intro e
      apply hx'
      rw [needL_length] at hi
      have hS := sizeN_ge l.length
      have hk : i - 24 - l.length < (nTail l.length l).length := by rw [nTail_length]; omega
      have e5 := congrArg (fun z => z[i - 24 - l.length]?) e
      rw [List.getElem?_set_self hk] at e5
      exact e5
end Go.Proofs.Ytlahcdkhpekefaa
