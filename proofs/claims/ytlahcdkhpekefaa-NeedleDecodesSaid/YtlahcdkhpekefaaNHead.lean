/- When bytes begin with a head: place by place. Plain laws. Conditions: each law's own premises. -/
import Derived.Test.YtlahcdkhpekefaaNDec
namespace Go.Proofs.Ytlahcdkhpekefaa
open Go Go.RowKit

theorem putL_getN : ∀ (l : List UInt8) (k : Nat), l.length = k → putL k (getN l) = l
  | [], k, h => by subst h; rfl
  | c :: l, k, h => by
    subst h
    have ih := putL_getN l l.length rfl
    have hlt := getN_lt l
    have e8 : (2 : Nat) ^ (8 * l.length) = 256 ^ l.length := by rw [Nat.pow_mul]
    show UInt8.ofNat (getN (c :: l) / 2 ^ (8 * l.length)) :: putL l.length (getN (c :: l)) = c :: l
    rw [getN_cons]
    have h1 : (c.toNat * 256 ^ l.length + getN l) / 2 ^ (8 * l.length) = c.toNat := by
      rw [e8, Nat.mul_comm, Nat.mul_add_div (Nat.pow_pos (by decide)), Nat.div_eq_of_lt hlt, Nat.add_zero]
    have h2 : putL l.length (c.toNat * 256 ^ l.length + getN l) = putL l.length (getN l) := by
      rw [← putL_mod l.length l.length (c.toNat * 256 ^ l.length + getN l) (Nat.le_refl _), e8, Nat.mul_comm, Nat.mul_add_mod, Nat.mod_eq_of_lt hlt]
    rw [h1, h2, ih, UInt8.ofNat_toNat]

theorem take_split (b : List UInt8) (i k : Nat) : b.take (i + k) = b.take i ++ (b.drop i).take k := List.take_add

theorem take24 (b : List UInt8) : b.take 24 = b.take 4 ++ ((b.drop 4).take 8 ++ ((b.drop 12).take 4 ++ ((b.drop 16).take 4 ++ (b.drop 20).take 4))) := by
  rw [show (24 : Nat) = 4 + 8 + 4 + 4 + 4 from rfl, take_split, take_split, take_split, take_split]
  simp only [List.append_assoc]
theorem take20 (b : List UInt8) : b.take 20 = b.take 4 ++ ((b.drop 4).take 8 ++ ((b.drop 12).take 4 ++ (b.drop 16).take 4)) := by
  rw [show (20 : Nat) = 4 + 8 + 4 + 4 from rfl, take_split, take_split, take_split]
  simp only [List.append_assoc]

theorem head_eq (b : List UInt8) (h : 24 ≤ b.length) (x0 x1 x2 x3 : UInt8) (h4 : b.take 4 = [x0, x1, x2, x3]) (h2 : b.getD 2 0 = x2) :
    headL (nKey b) (nCk b) (nDead b) (nSz b) = b.take 24 ↔ x0 = 110 ∧ x1 = 100 ∧ x2.toNat ≤ 1 ∧ x3 = 0 ∧ getN ((b.drop 20).take 4) = (crc (b.take 20)).toNat := by
  have l1 : ((b.drop 4).take 8).length = 8 := by rw [List.length_take, List.length_drop]; omega
  have l2 : ((b.drop 12).take 4).length = 4 := by rw [List.length_take, List.length_drop]; omega
  have l3 : ((b.drop 16).take 4).length = 4 := by rw [List.length_take, List.length_drop]; omega
  have l4 : ((b.drop 20).take 4).length = 4 := by rw [List.length_take, List.length_drop]; omega
  have k1 : putL 8 (nKey b).toNat = (b.drop 4).take 8 := by
    unfold nKey
    rw [UInt64.toNat_ofNat', Nat.mod_eq_of_lt (by have := getN_lt ((b.drop 4).take 8); rw [l1] at this; exact this)]
    exact putL_getN _ _ l1
  have k2 : putL 4 (nCk b).toNat = (b.drop 12).take 4 := by
    unfold nCk
    rw [UInt32.toNat_ofNat', Nat.mod_eq_of_lt (by have := getN_lt ((b.drop 12).take 4); rw [l2] at this; exact this)]
    exact putL_getN _ _ l2
  have k3 : putL 4 (nSz b) = (b.drop 16).take 4 := putL_getN _ _ l3
  have hd : nDead b = (x2 == 1) := by unfold nDead; rw [h2]
  have e20 : head20 (nKey b) (nCk b) (nDead b) (nSz b) = [110, 100, if nDead b then 1 else 0, 0] ++ ((b.drop 4).take 8 ++ ((b.drop 12).take 4 ++ (b.drop 16).take 4)) := by
    unfold head20; rw [k1, k2, k3]; simp only [List.append_assoc]
  have e24 : headL (nKey b) (nCk b) (nDead b) (nSz b) = [110, 100, if nDead b then 1 else 0, 0] ++ ((b.drop 4).take 8 ++ ((b.drop 12).take 4 ++ ((b.drop 16).take 4 ++ putL 4 (crc (head20 (nKey b) (nCk b) (nDead b) (nSz b))).toNat))) := by
    unfold headL; rw [e20]; simp only [List.append_assoc]
  rw [e24, take24, h4]
  constructor
  · intro e
    obtain ⟨e1, e2⟩ := List.append_inj e rfl
    simp only [List.cons.injEq, and_true] at e1
    obtain ⟨a0, a1, a2, a3⟩ := e1
    obtain ⟨_, e3⟩ := List.append_inj e2 rfl
    obtain ⟨_, e4⟩ := List.append_inj e3 rfl
    obtain ⟨_, e5⟩ := List.append_inj e4 rfl
    have hh : head20 (nKey b) (nCk b) (nDead b) (nSz b) = b.take 20 := by rw [e20, take20, h4, ← a0, ← a1, ← a2, ← a3]
    refine ⟨a0.symm, a1.symm, ?_, a3.symm, ?_⟩
    · rw [← a2]; cases nDead b <;> decide
    · rw [← e5, getN_putL, hh]; exact Nat.mod_eq_of_lt (UInt32.toNat_lt _)
  · rintro ⟨rfl, rfl, hx2, rfl, hg⟩
    have hdd : (if nDead b then (1 : UInt8) else 0) = x2 := by
      rw [hd]
      by_cases h1 : x2 = 1
      · rw [h1]; rfl
      · have h0 : x2 = 0 := by
          apply UInt8.toNat_inj.1
          have : ¬ x2.toNat = 1 := fun e => h1 (UInt8.toNat_inj.1 e)
          have z : (0 : UInt8).toNat = 0 := rfl
          omega
        rw [h0]; rfl
    have hh : head20 (nKey b) (nCk b) (nDead b) (nSz b) = b.take 20 := by rw [e20, take20, h4, hdd]
    rw [hh, hdd, ← hg, putL_getN _ _ l4]

/-- Why bytes begin with no head, in the document's order. -/
def badD (b : List UInt8) (x0 x1 x2 x3 : UInt8) : Bool :=
  x0 != 110 || (x1 != 100 || (decide (1 < x2.toNat) || (x3 != 0 || (decide (getN ((b.drop 20).take 4) ≠ (crc (b.take 20)).toNat) || (decide (65536 < nSz b) || (x2 == 1 && decide (0 < nSz b)))))))
theorem badD_eq (b : List UInt8) (h : 24 ≤ b.length) (x0 x1 x2 x3 : UInt8) (h4 : b.take 4 = [x0, x1, x2, x3]) (h2 : b.getD 2 0 = x2) : decide (badHead b) = badD b x0 x1 x2 x3 := by
  have he := head_eq b h x0 x1 x2 x3 h4 h2
  have hd : nDead b = (x2 == 1) := by unfold nDead; rw [h2]
  rw [Bool.eq_iff_iff, decide_eq_true_iff]
  unfold badD
  have hb : badHead b ↔ (65536 < nSz b ∨ ((x2 == 1) = true ∧ 0 < nSz b) ∨ headL (nKey b) (nCk b) (nDead b) (nSz b) ≠ b.take 24) := by unfold badHead; rw [← hd]
  rw [hb]
  simp only [decide_eq_true_eq, Bool.or_eq_true, bne_iff_ne, Bool.and_eq_true, ne_eq, he]
  constructor
  · rintro (a | a | a)
    · simp [a]
    · simp [a.1, a.2]
    · by_cases c0 : x0 = 110
      · by_cases c1 : x1 = 100
        · by_cases c2 : x2.toNat ≤ 1
          · by_cases c3 : x3 = 0
            · by_cases c4 : getN ((b.drop 20).take 4) = (crc (b.take 20)).toNat
              · exact absurd ⟨c0, c1, c2, c3, c4⟩ a
              · simp [c4]
            · simp [c3]
          · have : 1 < x2.toNat := by omega
            simp [this]
        · simp [c1]
      · simp [c0]
  · rintro (a | a | a | a | a | a | a)
    · exact .inr (.inr fun e => a e.1)
    · exact .inr (.inr fun e => a e.2.1)
    · exact .inr (.inr fun e => by have := e.2.2.1; omega)
    · exact .inr (.inr fun e => a e.2.2.2.1)
    · exact .inr (.inr fun e => a e.2.2.2.2)
    · exact .inl a
    · exact .inr (.inl ⟨a.1, a.2⟩)
end Go.Proofs.Ytlahcdkhpekefaa
