/- Records there and back: what is read of what was written. Plain laws. Conditions: each law's own premises. -/
import Derived.Test.YteenbobblbehoaaDecode
import Derived.Test.YteenbobblbehoaaEnc
namespace Go.Proofs.Yteenbobblbehoaa
open Go Go.RowKit

theorem getN_inj : ∀ (a b : List UInt8), a.length = b.length → getN a = getN b → a = b
  | [], [], _, _ => rfl
  | [], _ :: _, h, _ => by simp at h
  | _ :: _, [], h, _ => by simp at h
  | c :: a, d :: b, h, e => by
    have hl : a.length = b.length := by simpa using h
    rw [getN_cons, getN_cons, hl] at e
    have h1 := getN_lt a
    have h2 := getN_lt b
    rw [hl] at h1
    have hp : 0 < 256 ^ b.length := Nat.pow_pos (by decide)
    have hq : c.toNat = d.toNat := by
      have e1 := congrArg (· / 256 ^ b.length) e
      simp only [Nat.mul_comm _ (256 ^ b.length)] at e1
      rwa [Nat.mul_add_div hp, Nat.mul_add_div hp, Nat.div_eq_of_lt h1, Nat.div_eq_of_lt h2, Nat.add_zero, Nat.add_zero] at e1
    rw [hq] at e
    rw [UInt8.toNat_inj.1 hq, getN_inj a b hl (by omega)]

theorem dec_form (n : Nat) (q p m : List UInt8) (hn : n ≤ 1048576) (hq : q.length = 4) (hp : p.length = n) :
    decR (putL 4 n ++ (q ++ (p ++ m))) = if (crc (putL 4 n ++ p)).toNat = getN q then (p, 8 + n, 0) else ([], 0, 4) := by
  have h4 : (putL 4 n).length = 4 := putL_length 4 n
  have t4 : (putL 4 n ++ (q ++ (p ++ m))).take 4 = putL 4 n := List.take_left' h4
  have d4 : (putL 4 n ++ (q ++ (p ++ m))).drop 4 = q ++ (p ++ m) := List.drop_left' h4
  have d8 : (putL 4 n ++ (q ++ (p ++ m))).drop 8 = p ++ m := by
    rw [show (8 : Nat) = 4 + 4 from rfl, ← List.drop_drop, d4, List.drop_left' hq]
  have hg : getN (putL 4 n) = n := by rw [getN_putL]; exact Nat.mod_eq_of_lt (by omega)
  have hlen : (putL 4 n ++ (q ++ (p ++ m))).length = 8 + n + m.length := by simp only [List.length_append]; omega
  unfold decR
  rw [t4, d4, d8, hg, hlen, if_neg (by omega), if_neg (by omega), if_neg (by omega), List.take_left' hq, List.take_left' hp]

theorem encL_app (l m : List UInt8) : encL l ++ m = putL 4 l.length ++ (putL 4 (crc (putL 4 l.length ++ l)).toNat ++ (l ++ m)) := by
  unfold encL; simp only [List.append_assoc]

/-- What was written is read, whatever stands behind. -/
theorem dec_enc (l m : List UInt8) (hn : l.length ≤ 1048576) : decR (encL l ++ m) = (l, 8 + l.length, 0) := by
  rw [encL_app, dec_form _ _ _ _ hn (putL_length _ _) rfl, getN_putL, if_pos]
  exact (Nat.mod_eq_of_lt (UInt32.toNat_lt _)).symm

/-- One byte behind the length that is another one is found. -/
theorem dec_bad (l : List UInt8) (hn : l.length ≤ 1048576) (k : Nat) (hk : k < 4 + l.length) (x : UInt8) (hx : ∀ h : 4 + k < (encL l).length, x ≠ (encL l)[4 + k]) :
    decR ((encL l).set (4 + k) x) = ([], 0, 4) := by
  have hx := hx (by rw [encL_length]; omega)
  have e : encL l = putL 4 l.length ++ (putL 4 (crc (putL 4 l.length ++ l)).toNat ++ (l ++ [])) := by rw [← encL_app, List.append_nil]
  obtain ⟨s, hs⟩ : ∃ s, s = crc (putL 4 l.length ++ l) := ⟨_, rfl⟩
  rw [← hs] at e
  have h4 : (putL 4 l.length).length = 4 := putL_length 4 _
  have h4s : (putL 4 s.toNat).length = 4 := putL_length 4 _
  have e2 : (encL l).set (4 + k) x = putL 4 l.length ++ (putL 4 s.toNat ++ (l ++ [])).set k x := by
    rw [e, List.set_append_right _ _ (by omega), h4, Nat.add_sub_cancel_left]
  have e3 : (encL l)[4 + k]? = (putL 4 s.toNat ++ (l ++ []))[k]? := by
    rw [e, List.getElem?_append_right (by omega), h4, Nat.add_sub_cancel_left]
  have hx3 : some x ≠ (putL 4 s.toNat ++ (l ++ []))[k]? := by
    rw [← e3, List.getElem?_eq_getElem (by rw [encL_length]; omega)]
    intro h; exact hx (Option.some.inj h)
  by_cases hk4 : k < 4
  · have e4 : (putL 4 s.toNat ++ (l ++ [])).set k x = (putL 4 s.toNat).set k x ++ (l ++ []) := List.set_append_left _ _ (by omega)
    rw [e2, e4, dec_form _ _ _ _ hn (by rw [List.length_set]; exact h4s) rfl, ← hs, if_neg]
    intro hg
    have hss : getN (putL 4 s.toNat) = s.toNat := by rw [getN_putL]; exact Nat.mod_eq_of_lt s.toNat_lt
    have := getN_inj _ _ (by simp) (hss.trans hg)
    apply hx3
    rw [List.getElem?_append_left (by omega), this, List.getElem?_set_self (by simp [h4s]; omega)]
  · have e4 : (putL 4 s.toNat ++ (l ++ [])).set k x = putL 4 s.toNat ++ (l.set (k - 4) x ++ []) := by
      rw [List.set_append_right _ _ (by omega), h4s, List.append_nil, List.append_nil]
    have hlk : k - 4 < l.length := by omega
    have hx4 : x ≠ l[k - 4] := by
      intro h
      apply hx3
      rw [List.getElem?_append_right (by omega), h4s, List.append_nil, List.getElem?_eq_getElem hlk, h]
    rw [e2, e4, dec_form _ _ _ _ hn h4s (by rw [List.length_set]), getN_putL, if_neg]
    rw [show s.toNat % 256 ^ 4 = s.toNat from Nat.mod_eq_of_lt s.toNat_lt]
    intro hg
    have hg := UInt32.toNat_inj.1 hg
    rw [hs] at hg
    have e5 : putL 4 l.length ++ l.set (k - 4) x = (putL 4 l.length ++ l).set (4 + (k - 4)) x := by
      rw [List.set_append_right _ _ (by omega), h4, Nat.add_sub_cancel_left]
    rw [e5] at hg
    refine crc_set (putL 4 l.length ++ l) (4 + (k - 4)) (by rw [List.length_append, h4]; omega) x ?_ hg
    rw [List.getElem_append_right (by omega)]
    simp only [h4, Nat.add_sub_cancel_left]
    exact hx4
end Go.Proofs.Yteenbobblbehoaa
