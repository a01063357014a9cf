/- What stands behind a needle's data: plain. Conditions: each law's own premises. -/
import Derived.Test.YtlahcdkhpekefaaNHead
import Derived.Test.YtlahcdkhpekefaaSlice
namespace Go.Proofs.Ytlahcdkhpekefaa
open Go Go.RowKit

/-- The sum stands, and so many bytes behind it are 0. -/
def tailOk (b : List UInt8) (sz j : Nat) : Prop := getN ((b.drop (24 + sz)).take 4) = (crc ((b.drop 24).take sz)).toNat ∧ ∀ t, 28 + sz ≤ t → t < j → b.getD t 0 = 0
theorem zero_iff (l : List UInt8) (k : Nat) (h : k ≤ l.length) : l.take k = zeroB k ↔ ∀ t, t < k → l.getD t 0 = 0 := by
  constructor
  · intro he t ht
    have h1 : (l.take k)[t]? = (zeroB k)[t]? := by rw [he]
    rw [List.getElem?_take, if_pos ht] at h1
    unfold zeroB at h1
    rw [List.getElem?_replicate, if_pos ht] at h1
    rw [List.getD_eq_getElem?_getD, h1]; rfl
  · intro ha
    apply List.ext_getElem
    · rw [List.length_take, zeroB_length]; omega
    · intro i h1 h2
      have hi : i < k := by rw [zeroB_length] at h2; exact h2
      have := ha i hi
      rw [List.getD_eq_getElem?_getD, List.getElem?_eq_getElem (by omega)] at this
      rw [List.getElem_take]
      simp only [zeroB, List.getElem_replicate]
      exact this
theorem tail_iff {b : List UInt8} {sz S : Nat} (hS : S = sizeN sz) (hS1 : sz + 28 ≤ S) (hb : S ≤ b.length) : (b.drop (24 + sz)).take (S - (24 + sz)) = nTail sz ((b.drop 24).take sz) ↔ tailOk b sz S := by
  obtain ⟨k, hk⟩ : ∃ k, k = S - (28 + sz) := ⟨_, rfl⟩
  have h1 : (b.drop (24 + sz)).take (S - (24 + sz)) = (b.drop (24 + sz)).take 4 ++ (b.drop (28 + sz)).take k := by
    rw [show S - (24 + sz) = 4 + k by omega, List.take_add, List.drop_drop, show 24 + sz + 4 = 28 + sz by omega]
  have h2 : nTail sz ((b.drop 24).take sz) = putL 4 (crc ((b.drop 24).take sz)).toNat ++ zeroB k := by unfold nTail; rw [← hS, hk]
  have hl : ((b.drop (24 + sz)).take 4).length = 4 := by rw [List.length_take, List.length_drop]; omega
  rw [h1, h2]
  have hz := zero_iff (b.drop (28 + sz)) k (by rw [List.length_drop]; omega)
  have hc : (crc ((b.drop 24).take sz)).toNat < 4294967296 := (crc ((b.drop 24).take sz)).toNat_lt
  unfold tailOk
  constructor
  · intro h
    obtain ⟨e1, e2⟩ := List.append_inj h (by rw [hl, putL_length])
    refine ⟨by rw [e1, getN_putL]; exact Nat.mod_eq_of_lt hc, fun t ht1 ht2 => ?_⟩
    have := hz.1 e2 (t - (28 + sz)) (by omega)
    rw [List.getD_eq_getElem?_getD, List.getElem?_drop, show 28 + sz + (t - (28 + sz)) = t by omega, ← List.getD_eq_getElem?_getD] at this
    exact this
  · rintro ⟨e1, e2⟩
    congr 1
    · rw [← putL_getN _ 4 hl, e1]
    · refine hz.2 fun t ht => ?_
      rw [List.getD_eq_getElem?_getD, List.getElem?_drop, ← List.getD_eq_getElem?_getD]
      exact e2 _ (by omega) (by omega)
/-- x[l:] of a known address. -/
theorem wpList_plA {P : Program} {w : World} {ops : Array Oper} {rest : List Oper} {o : Oper} {a : Act} {Q : Exit → Act → World → Prop} {t e : TypeId} {z : Value} {bytes : Nat}
    (hgd : o.guard = none) (x lo : Operand) (ho : o.op = .slice t x (some lo) none none) (T : ElemT P t e 1 z bytes)
    (b of n c : Nat) (hx : a.eval x = .slice (some ⟨b, of, none⟩) n c) (kl : IntKind) (l : Nat) (hl : a.eval lo = .int kl (l : Int)) (h2 : l ≤ n) (hne : c ≠ l)
    (K : wpList P ops Q rest (a.put o.dst (.slice (some ⟨b, of + l, none⟩) (n - l) (c - l))) w) : wpList P ops Q (o :: rest) a w := by
  refine wpList_plain hgd fun _ hK => ?_
  have hs : sliced (some ⟨b, of, none⟩) l n c 1 = .slice (some ⟨b, of + l, none⟩) (n - l) (c - l) := by
    unfold sliced; rw [if_neg hne]; simp [Addr.add_lit]
  unfold Oper.wp execOp
  simp only [ho, hx, Option.map_some, Option.map_none, hl, Sem.run_bind, run_part_l T w _ n c kl l h2, Sem.run_pure, Result.andThen_ok, hs]
  exact hK _ _ K
end Go.Proofs.Ytlahcdkhpekefaa
