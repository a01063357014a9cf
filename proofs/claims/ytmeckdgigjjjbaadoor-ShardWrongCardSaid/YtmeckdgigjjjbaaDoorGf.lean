/- The field of 256, plain: the product, its laws, powers. Conditions: none. -/
namespace Go.Proofs.YtmeckdgigjjjbaaDoor

/-- One more x. -/
def gStep (a : UInt8) : UInt8 := (a <<< 1) ^^^ ((0x1d : UInt8) &&& -(a >>> 7))
def gmF : Nat → UInt8 → UInt8 → UInt8 → UInt8
  | 0, p, _, _ => p
  | k + 1, p, a, b => gmF k (p ^^^ (a &&& -(b &&& 1))) (gStep a) (b >>> 1)
/-- The product. -/
def gm (a b : UInt8) : UInt8 := gmF 8 0 a b

theorem x8_swap (a b c d : UInt8) : (a ^^^ b) ^^^ (c ^^^ d) = (a ^^^ c) ^^^ (b ^^^ d) := by
  rw [UInt8.xor_assoc, UInt8.xor_assoc, ← UInt8.xor_assoc b c d, UInt8.xor_comm b c, UInt8.xor_assoc c b d]
theorem and1_8 (n : UInt8) : n &&& 1 = 0 ∨ n &&& 1 = 1 := by
  have h : (n &&& 1).toNat = n.toNat % 2 := by
    rw [UInt8.toNat_and]; exact Nat.and_two_pow_sub_one_eq_mod n.toNat 1
  rcases Nat.mod_two_eq_zero_or_one n.toNat with h0 | h1
  · left; apply UInt8.toNat_inj.1; rw [h, h0]; rfl
  · right; apply UInt8.toNat_inj.1; rw [h, h1]; rfl
theorem shr7_8 (n : UInt8) : n >>> 7 = 0 ∨ n >>> 7 = 1 := by
  have h : (n >>> 7).toNat = n.toNat / 128 := by
    rw [UInt8.toNat_shiftRight]; exact Nat.shiftRight_eq_div_pow _ _
  have := n.toNat_lt
  rcases (show n.toNat / 128 = 0 ∨ n.toNat / 128 = 1 by omega) with h0 | h1
  · left; apply UInt8.toNat_inj.1; rw [h, h0]; rfl
  · right; apply UInt8.toNat_inj.1; rw [h, h1]; rfl
theorem and_xor8 (a b c : UInt8) : (a ^^^ b) &&& c = (a &&& c) ^^^ (b &&& c) := by
  apply UInt8.toNat_inj.1
  simp only [UInt8.toNat_and, UInt8.toNat_xor, Nat.and_xor_distrib_right]
theorem shr_xor8 (a b k : UInt8) : (a ^^^ b) >>> k = (a >>> k) ^^^ (b >>> k) := by
  apply UInt8.toNat_inj.1
  simp only [UInt8.toNat_shiftRight, UInt8.toNat_xor, Nat.shiftRight_xor_distrib]
theorem shl1_xor8 (a b : UInt8) : (a ^^^ b) <<< 1 = (a <<< 1) ^^^ (b <<< 1) := by
  apply UInt8.eq_of_toBitVec_eq
  apply BitVec.eq_of_getLsbD_eq
  intro i hi
  simp [UInt8.toBitVec_shiftLeft, BitVec.getLsbD_shiftLeft, Bool.and_xor_distrib_left]

theorem gStep_xor (a b : UInt8) : gStep (a ^^^ b) = gStep a ^^^ gStep b := by
  unfold gStep
  rw [shl1_xor8, shr_xor8, x8_swap]
  congr 1
  rcases shr7_8 a with ha | ha <;> rcases shr7_8 b with hb | hb <;> rw [ha, hb] <;> decide
theorem gmF_xor_left : ∀ (k : Nat) (p p' a a' b : UInt8), gmF k (p ^^^ p') (a ^^^ a') b = gmF k p a b ^^^ gmF k p' a' b
  | 0, _, _, _, _, _ => rfl
  | k + 1, p, p', a, a', b => by
    show gmF k (p ^^^ p' ^^^ ((a ^^^ a') &&& -(b &&& 1))) (gStep (a ^^^ a')) (b >>> 1) = gmF k (p ^^^ (a &&& -(b &&& 1))) (gStep a) (b >>> 1) ^^^ gmF k (p' ^^^ (a' &&& -(b &&& 1))) (gStep a') (b >>> 1)
    rw [and_xor8, x8_swap, gStep_xor, gmF_xor_left k]
theorem mask_xor (a b b' : UInt8) : (a &&& -((b ^^^ b') &&& 1)) = (a &&& -(b &&& 1)) ^^^ (a &&& -(b' &&& 1)) := by
  rw [and_xor8]
  have z : a &&& -(0 : UInt8) = 0 := by
    have : -(0 : UInt8) = 0 := by decide
    rw [this, UInt8.and_zero]
  rcases and1_8 b with hb | hb <;> rcases and1_8 b' with hb' | hb' <;> rw [hb, hb']
  · rw [UInt8.xor_self, z, UInt8.xor_self]
  · rw [UInt8.zero_xor, z, UInt8.zero_xor]
  · rw [UInt8.xor_zero, z, UInt8.xor_zero]
  · rw [UInt8.xor_self, z, UInt8.xor_self]
theorem gmF_xor_right : ∀ (k : Nat) (p p' a b b' : UInt8), gmF k (p ^^^ p') a (b ^^^ b') = gmF k p a b ^^^ gmF k p' a b'
  | 0, _, _, _, _, _ => rfl
  | k + 1, p, p', a, b, b' => by
    show gmF k (p ^^^ p' ^^^ (a &&& -((b ^^^ b') &&& 1))) (gStep a) ((b ^^^ b') >>> 1) = gmF k (p ^^^ (a &&& -(b &&& 1))) (gStep a) (b >>> 1) ^^^ gmF k (p' ^^^ (a &&& -(b' &&& 1))) (gStep a) (b' >>> 1)
    rw [mask_xor, x8_swap, shr_xor8, gmF_xor_right k]
theorem gm_xor_left (a a' b : UInt8) : gm (a ^^^ a') b = gm a b ^^^ gm a' b := by
  have := gmF_xor_left 8 0 0 a a' b
  rwa [UInt8.xor_self] at this
/-- A product with a sum is the sum of products. -/
theorem gm_xor_right (a b b' : UInt8) : gm a (b ^^^ b') = gm a b ^^^ gm a b' := by
  have := gmF_xor_right 8 0 0 a b b'
  rwa [UInt8.xor_self] at this

/-- Additive functions that agree at the eight digits agree. -/
structure Add8 (f : UInt8 → UInt8) : Prop where
  add : ∀ a b, f (a ^^^ b) = f a ^^^ f b
theorem Add8.zero {f : UInt8 → UInt8} (h : Add8 f) : f 0 = 0 := by
  have := h.add 0 0
  rw [UInt8.xor_self, UInt8.xor_self] at this
  exact this
theorem split8n : ∀ n, n < 256 → UInt8.ofNat n = (UInt8.ofNat n &&& 1) ^^^ (UInt8.ofNat n &&& 2) ^^^ (UInt8.ofNat n &&& 4) ^^^ (UInt8.ofNat n &&& 8) ^^^ (UInt8.ofNat n &&& 16) ^^^ (UInt8.ofNat n &&& 32) ^^^ (UInt8.ofNat n &&& 64) ^^^ (UInt8.ofNat n &&& 128) ∧
    (UInt8.ofNat n &&& 1 = 0 ∨ UInt8.ofNat n &&& 1 = 1) ∧ (UInt8.ofNat n &&& 2 = 0 ∨ UInt8.ofNat n &&& 2 = 2) ∧ (UInt8.ofNat n &&& 4 = 0 ∨ UInt8.ofNat n &&& 4 = 4) ∧ (UInt8.ofNat n &&& 8 = 0 ∨ UInt8.ofNat n &&& 8 = 8) ∧
    (UInt8.ofNat n &&& 16 = 0 ∨ UInt8.ofNat n &&& 16 = 16) ∧ (UInt8.ofNat n &&& 32 = 0 ∨ UInt8.ofNat n &&& 32 = 32) ∧ (UInt8.ofNat n &&& 64 = 0 ∨ UInt8.ofNat n &&& 64 = 64) ∧ (UInt8.ofNat n &&& 128 = 0 ∨ UInt8.ofNat n &&& 128 = 128) := by decide +kernel
theorem ofNat_toNat8 (a : UInt8) : UInt8.ofNat a.toNat = a := by
  apply UInt8.toNat_inj.1; rw [UInt8.toNat_ofNat']; exact Nat.mod_eq_of_lt a.toNat_lt
theorem split8 (a : UInt8) : a = (a &&& 1) ^^^ (a &&& 2) ^^^ (a &&& 4) ^^^ (a &&& 8) ^^^ (a &&& 16) ^^^ (a &&& 32) ^^^ (a &&& 64) ^^^ (a &&& 128) ∧
    (a &&& 1 = 0 ∨ a &&& 1 = 1) ∧ (a &&& 2 = 0 ∨ a &&& 2 = 2) ∧ (a &&& 4 = 0 ∨ a &&& 4 = 4) ∧ (a &&& 8 = 0 ∨ a &&& 8 = 8) ∧ (a &&& 16 = 0 ∨ a &&& 16 = 16) ∧ (a &&& 32 = 0 ∨ a &&& 32 = 32) ∧ (a &&& 64 = 0 ∨ a &&& 64 = 64) ∧ (a &&& 128 = 0 ∨ a &&& 128 = 128) := by
  have := split8n a.toNat a.toNat_lt
  rwa [ofNat_toNat8] at this
/-- The eight digits. -/
def units : List UInt8 := [1, 2, 4, 8, 16, 32, 64, 128]
theorem Add8.ext {f g : UInt8 → UInt8} (hf : Add8 f) (hg : Add8 g) (h : ∀ u ∈ units, f u = g u) (a : UInt8) : f a = g a := by
  obtain ⟨hs, h1, h2, h3, h4, h5, h6, h7, h8⟩ := split8 a
  have one : ∀ (u x : UInt8), u ∈ units → (x = 0 ∨ x = u) → f x = g x := by
    intro u x hu hx
    rcases hx with rfl | rfl
    · rw [hf.zero, hg.zero]
    · exact h _ hu
  rw [hs]
  simp only [hf.add, hg.add]
  rw [one 1 _ (by simp [units]) h1, one 2 _ (by simp [units]) h2, one 4 _ (by simp [units]) h3, one 8 _ (by simp [units]) h4, one 16 _ (by simp [units]) h5, one 32 _ (by simp [units]) h6, one 64 _ (by simp [units]) h7, one 128 _ (by simp [units]) h8]
theorem add_left (b : UInt8) : Add8 (fun a => gm a b) := ⟨fun a a' => gm_xor_left a a' b⟩
theorem add_right (a : UInt8) : Add8 (gm a) := ⟨fun b b' => gm_xor_right a b b'⟩
theorem Add8.comp {f g : UInt8 → UInt8} (hf : Add8 f) (hg : Add8 g) : Add8 (fun a => f (g a)) := ⟨fun a b => by rw [hg.add, hf.add]⟩

theorem gm_comm (a b : UInt8) : gm a b = gm b a := by
  refine (add_left b).ext (add_right b) (fun u hu => ?_) a
  refine (add_right u).ext (add_left u) (fun v hv => ?_) b
  exact (by decide +kernel : ∀ u ∈ units, ∀ v ∈ units, gm u v = gm v u) u hu v hv
theorem gm_assoc (a b c : UInt8) : gm a (gm b c) = gm (gm a b) c := by
  refine (add_left (gm b c)).ext ((add_left c).comp (add_left b)) (fun u hu => ?_) a
  refine ((add_right u).comp (add_left c)).ext ((add_left c).comp (add_right u)) (fun v hv => ?_) b
  refine ((add_right u).comp (add_right v)).ext (add_right (gm u v)) (fun x hx => ?_) c
  exact (by decide +kernel : ∀ u ∈ units, ∀ v ∈ units, ∀ x ∈ units, gm u (gm v x) = gm (gm u v) x) u hu v hv x hx
theorem gm_one (a : UInt8) : gm a 1 = a := by
  refine (add_left 1).ext (g := fun a => a) ⟨fun _ _ => rfl⟩ (fun u hu => ?_) a
  exact (by decide +kernel : ∀ u ∈ units, gm u 1 = u) u hu
theorem gm_zero (a : UInt8) : gm a 0 = 0 := (add_right a).zero
theorem one_gm (a : UInt8) : gm 1 a = a := by rw [gm_comm, gm_one]
theorem zero_gm (a : UInt8) : gm 0 a = 0 := (add_left a).zero

/-! ### Powers -/
def gpow (a : UInt8) : Nat → UInt8
  | 0 => 1
  | k + 1 => gm (gpow a k) a
theorem gpow_add (a : UInt8) (j : Nat) : ∀ k, gpow a (j + k) = gm (gpow a j) (gpow a k)
  | 0 => (gm_one _).symm
  | k + 1 => by show gm (gpow a (j + k)) a = gm (gpow a j) (gm (gpow a k) a); rw [gpow_add a j k, gm_assoc]
theorem gpow_one (a : UInt8) : gpow a 1 = a := one_gm a
theorem gpow_mul (a : UInt8) (j : Nat) : ∀ k, gpow (gpow a j) k = gpow a (j * k)
  | 0 => rfl
  | k + 1 => by show gm (gpow (gpow a j) k) (gpow a j) = gpow a (j * k + j); rw [gpow_mul a j k, gpow_add]
theorem gpow_two (a : UInt8) : gpow a 2 = gm a a := by show gm (gm 1 a) a = gm a a; rw [one_gm]
theorem gpow_sq (a : UInt8) (k : Nat) : gpow (gm a a) k = gpow a (2 * k) := by rw [← gpow_two, gpow_mul]
theorem one_gpow : ∀ k, gpow 1 k = 1
  | 0 => rfl
  | k + 1 => by show gm (gpow 1 k) 1 = 1; rw [one_gpow k, gm_one]
theorem zero_gpow (k : Nat) : gpow 0 (k + 1) = 0 := gm_zero _

/-- a to the 255th, by squares. -/
def p255 (a : UInt8) : UInt8 :=
  let b := gm a a; let c := gm b b; let d := gm c c; let e := gm d d; let f := gm e e; let g := gm f f; let h := gm g g
  gm (gm (gm (gm (gm (gm (gm a b) c) d) e) f) g) h
theorem p255_eq (a : UInt8) : p255 a = gpow a 255 := by
  unfold p255
  simp only [← gpow_two, gpow_mul]
  have e : gpow a 255 = gpow a (1 + 2 + 2 * 2 + 2 * 2 * 2 + 2 * 2 * 2 * 2 + 2 * 2 * 2 * 2 * 2 + 2 * 2 * 2 * 2 * 2 * 2 + 2 * 2 * 2 * 2 * 2 * 2 * 2) := rfl
  rw [e]
  simp only [gpow_add a, gpow_one]
theorem p255n : ∀ n, n < 256 → n ≠ 0 → p255 (UInt8.ofNat n) = 1 := by decide +kernel
theorem gpow_255 (a : UInt8) (h : a ≠ 0) : gpow a 255 = 1 := by
  rw [← p255_eq]
  have := p255n a.toNat a.toNat_lt (by intro e; apply h; apply UInt8.toNat_inj.1; exact e)
  rwa [ofNat_toNat8] at this
theorem gpow_mod (a : UInt8) (h : a ≠ 0) (k : Nat) : gpow a k = gpow a (k % 255) := by
  conv => lhs; rw [← Nat.div_add_mod k 255]
  rw [gpow_add, ← gpow_mul, gpow_255 a h, one_gpow, one_gm]
/-- The one that makes 1. -/
def ginv (a : UInt8) : UInt8 := gpow a 254
theorem gm_ginv (a : UInt8) (h : a ≠ 0) : gm a (ginv a) = 1 := by
  rw [gm_comm]
  exact gpow_255 a h
theorem gm_ne_zero {a b : UInt8} (ha : a ≠ 0) (hb : b ≠ 0) : gm a b ≠ 0 := by
  intro e
  have : gm (ginv a) (gm a b) = b := by rw [gm_assoc, gm_comm (ginv a), gm_ginv a ha, one_gm]
  rw [e, gm_zero] at this
  exact hb this.symm
theorem ginv_ne_zero {a : UInt8} (ha : a ≠ 0) : ginv a ≠ 0 := by
  intro e
  have := gm_ginv a ha
  rw [e, gm_zero] at this
  exact absurd this (by decide)
/-- A power of any number. -/
def pw (a : UInt8) (n : Int) : UInt8 := if a = 0 then (if n = 0 then 1 else 0) else gpow a (n % 255).toNat
theorem pw_nat (a : UInt8) (k : Nat) : gpow a k = pw a (k : Int) := by
  unfold pw
  by_cases h : a = 0
  · rw [if_pos h, h]
    cases k with
    | zero => rfl
    | succ k => rw [zero_gpow, if_neg (by omega)]
  · rw [if_neg h, gpow_mod a h]
    congr 1
theorem pw_neg (a : UInt8) (h : a ≠ 0) (k : Nat) : gpow (ginv a) k = pw a (-(k : Int)) := by
  unfold pw ginv
  rw [if_neg h, gpow_mul, gpow_mod a h]
  congr 1
  omega
theorem pw_add (a : UInt8) (h : a ≠ 0) (n m : Int) : gm (pw a n) (pw a m) = pw a (n + m) := by
  unfold pw
  rw [if_neg h, if_neg h, if_neg h, ← gpow_add, gpow_mod a h]
  congr 1
  omega
theorem pw_255 (a : UInt8) (h : a ≠ 0) : pw a 255 = 1 := by
  unfold pw
  rw [if_neg h]
  rfl
end Go.Proofs.YtmeckdgigjjjbaaDoor
