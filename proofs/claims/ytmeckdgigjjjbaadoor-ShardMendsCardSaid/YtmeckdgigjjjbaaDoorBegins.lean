/- What a call of shard's begins with: the contract. Conditions: its own premises. -/
import Derived.Test.YtmeckdgigjjjbaaDoorShSet
import Derived.Test.YtmeckdgigjjjbaaDoorOwnR
import Derived.Test.YtmeckdgigjjjbaaDoorBlkV
import Derived.WideKeyArr
namespace Go.Proofs.YtmeckdgigjjjbaaDoor
open Go Go.RowKit

/-- Is a row there? -/
def presT (L : Mx) (r : Nat) : Bool := decide ((L.getD r []).length ≠ 0)
/-- Rows of different lengths. -/
def Odd (L : Mx) : Prop := ∃ r s, presT L r = true ∧ presT L s = true ∧ (L.getD r []).length ≠ (L.getD s []).length
def presC (L : Mx) (i : Nat) : Nat := ((List.range i).filter (presT L)).length
/-- What stands when i rows were looked at. -/
structure BegI (L : Mx) (i T n sz : Nat) : Prop where
  lt : T < 2 ^ i
  bit : ∀ r, T.testBit r = (decide (r < i) && presT L r)
  cnt : n = presC L i
  same : ∀ r, r < i → presT L r = true → (L.getD r []).length = sz
theorem presC_succ (L : Mx) (i : Nat) : presC L (i + 1) = presC L i + if presT L i = true then 1 else 0 := by
  unfold presC
  rw [List.range_succ, List.filter_append, List.length_append]
  congr 1
  cases h : presT L i with
  | true => rw [List.filter_cons_of_pos h]; rfl
  | false => rw [List.filter_cons_of_neg (by simp [h])]; rfl
theorem presC_le (L : Mx) (i : Nat) : presC L i ≤ i := by
  have := List.length_filter_le (presT L) (List.range i)
  rwa [List.length_range] at this
theorem presC_pos {L : Mx} {i : Nat} (h : 0 < presC L i) : ∃ r, r < i ∧ presT L r = true := by
  obtain ⟨r, hr⟩ := List.exists_mem_of_length_pos h
  obtain ⟨h1, h2⟩ := List.mem_filter.1 hr
  exact ⟨r, List.mem_range.1 h1, h2⟩
theorem BegI.start (L : Mx) : BegI L 0 0 0 0 := ⟨by decide, fun r => by simp, rfl, fun r h => by omega⟩
theorem BegI.skip {L : Mx} {i T n sz : Nat} (h : BegI L i T n sz) (hp : presT L i = false) : BegI L (i + 1) T n sz := by
  refine ⟨Nat.lt_trans h.lt (Nat.pow_lt_pow_right (by decide) (by omega)), fun r => ?_, ?_, fun r hr hr2 => ?_⟩
  · rw [h.bit]
    by_cases e : r = i
    · subst e; simp [hp]
    · by_cases h1 : r < i
      · simp [h1, show r < i + 1 by omega]
      · simp [h1, show ¬ r < i + 1 by omega]
  · rw [presC_succ, hp, if_neg (by decide)]; exact h.cnt
  · by_cases e : r = i
    · subst e; rw [hp] at hr2; cases hr2
    · exact h.same r (by omega) hr2
theorem BegI.next {L : Mx} {i T n sz T' : Nat} (h : BegI L i T n sz) (hp : presT L i = true) (hs : 0 < n → (L.getD i []).length = sz) (hlt : T' < 2 ^ (i + 1)) (hb : ∀ r, T'.testBit r = (T.testBit r || decide (r = i))) :
    BegI L (i + 1) T' (n + 1) (L.getD i []).length := by
  refine ⟨hlt, fun r => ?_, ?_, fun r hr hr2 => ?_⟩
  · rw [hb, h.bit]
    by_cases e : r = i
    · subst e; simp [hp]
    · by_cases h1 : r < i
      · simp [h1, e, show r < i + 1 by omega]
      · simp [h1, e, show ¬ r < i + 1 by omega]
  · rw [presC_succ, hp, if_pos rfl, h.cnt]
  · by_cases e : r = i
    · subst e; rfl
    · have h1 := h.same r (by omega) hr2
      rw [h1, hs]
      have : r ∈ (List.range i).filter (presT L) := List.mem_filter.2 ⟨List.mem_range.2 (by omega), hr2⟩
      rw [h.cnt]
      exact List.length_pos_of_mem this
theorem BegI.odd {L : Mx} {i T n sz : Nat} (h : BegI L i T n sz) (hp : presT L i = true) (hn : 0 < n) (hs : (L.getD i []).length ≠ sz) : Odd L := by
  rw [h.cnt] at hn
  obtain ⟨r, h1, h2⟩ := presC_pos hn
  exact ⟨i, r, hp, h2, by rw [h.same r h1 h2]; exact hs⟩
theorem presT_lt {L : Mx} {r : Nat} (h : presT L r = true) : r < L.length := by
  refine Classical.byContradiction fun hn => ?_
  unfold presT at h
  rw [List.getD_eq_getElem?_getD, List.getElem?_eq_none (by omega)] at h
  simp at h
theorem BegI.even {L : Mx} {T n sz : Nat} (h : BegI L L.length T n sz) : ¬ Odd L := by
  rintro ⟨r, s, h1, h2, h3⟩
  exact h3 (by rw [h.same r (presT_lt h1) h1, h.same s (presT_lt h2) h2])
theorem or_bit (T i : Nat) (h : T < 2 ^ i) (hi : i < 32) : ∃ T' : Nat, bits BinOp.or IntKind.u32 (T : Int) (IntKind.u32.wrap (2 ^ i)) = (T' : Int) ∧ T' < 2 ^ (i + 1) ∧ ∀ r, T'.testBit r = (T.testBit r || decide (r = i)) := by
  have hp : 2 ^ i < 2 ^ 32 := Nat.pow_lt_pow_right (by decide) hi
  have e0 : IntKind.u32.wrap (2 ^ i) = ((2 ^ i : Nat) : Int) := by
    rw [show (2 : Int) ^ i = ((2 ^ i : Nat) : Int) by rw [Int.natCast_pow]; rfl, wrap_u32']
    obtain ⟨q, hq⟩ : ∃ q, q = 2 ^ i := ⟨_, rfl⟩
    rw [← hq] at hp ⊢
    omega
  have h1 : BitVec.ofInt 32 (T : Int) = BitVec.ofNat 32 T := by rw [BitVec.ofInt_natCast]
  have h2 : BitVec.ofInt 32 ((2 ^ i : Nat) : Int) = BitVec.ofNat 32 (2 ^ i) := by rw [BitVec.ofInt_natCast]
  have hlt : T ||| 2 ^ i < 2 ^ (i + 1) := Nat.or_lt_two_pow (Nat.lt_trans h (Nat.pow_lt_pow_right (by decide) (by omega))) (Nat.pow_lt_pow_right (by decide) (by omega))
  have hlt32 : T ||| 2 ^ i < 2 ^ 32 := Nat.lt_of_lt_of_le hlt (Nat.pow_le_pow_right (by decide) (by omega))
  have hT32 : T < 2 ^ 32 := Nat.lt_trans h hp
  refine ⟨T ||| 2 ^ i, ?_, hlt, fun r => ?_⟩
  · rw [e0]
    show IntKind.u32.wrap ((BitVec.ofInt 32 (T : Int) ||| BitVec.ofInt 32 ((2 ^ i : Nat) : Int)).toNat : Int) = _
    rw [h1, h2, BitVec.toNat_or, BitVec.toNat_ofNat, BitVec.toNat_ofNat, Nat.mod_eq_of_lt hT32, Nat.mod_eq_of_lt hp, wrap_u32']
    obtain ⟨q, hq⟩ : ∃ q, q = T ||| 2 ^ i := ⟨_, rfl⟩
    rw [← hq] at hlt32 ⊢
    omega
  · rw [Nat.testBit_or, Nat.testBit_two_pow]
    congr 1
    by_cases e : i = r
    · subst e; simp
    · have : ¬ r = i := fun h => e h.symm
      simp [e, this]
end Go.Proofs.YtmeckdgigjjjbaaDoor
