/- ReadUvarint: the plain function, and the contracts of the program's and of the document's. Conditions: each contract's own premises. -/
import Derived.Test.YteenbobblbehoaaCom0
namespace Go.Proofs.Yteenbobblbehoaa
open Go Go.RowKit

/-- The number that bytes begin with (at place i, so far v), how many bytes it has, the error. -/
def rdF : Nat → Nat → List UInt8 → Nat × Nat × Nat
  | _, _, [] => (0, 0, 2)
  | i, v, c :: l =>
    if 128 ≤ c.toNat then (if i = 9 then (0, 0, 3) else rdF (i + 1) (v + (c.toNat - 128) * 2 ^ (7 * i)) l)
    else if c.toNat = 0 ∧ 0 < i then (0, 0, 3)
    else if i = 9 ∧ 1 < c.toNat then (0, 0, 3)
    else (v + c.toNat * 2 ^ (7 * i), i + 1, 0)
def rd (l : List UInt8) : Nat × Nat × Nat := rdF 0 0 l

theorem rdF_at {k v : Nat} {l : List UInt8} (hk : k < l.length) : rdF k v (l.drop k) =
    if 128 ≤ l[k].toNat then (if k = 9 then (0, 0, 3) else rdF (k + 1) (v + (l[k].toNat - 128) * 2 ^ (7 * k)) (l.drop (k + 1)))
    else if l[k].toNat = 0 ∧ 0 < k then (0, 0, 3)
    else if k = 9 ∧ 1 < l[k].toNat then (0, 0, 3)
    else (v + l[k].toNat * 2 ^ (7 * k), k + 1, 0) := by
  rw [List.drop_eq_getElem_cons hk]
  rfl

theorem or_int (v y s : Nat) (hv : v < 2 ^ s) (h : v + y * 2 ^ s < 18446744073709551616) : bits BinOp.or IntKind.u64 (v : Int) (IntKind.u64.wrap ((y : Int) * 2 ^ s)) = ((v + y * 2 ^ s : Nat) : Int) := by
  have e : IntKind.u64.wrap ((y : Int) * 2 ^ s) = ((y * 2 ^ s : Nat) : Int) := by
    have e1 : (y : Int) * 2 ^ s = ((y * 2 ^ s : Nat) : Int) := by rw [Int.natCast_mul, Int.natCast_pow]; rfl
    rw [e1]
    exact IntWalk.u64_in _ (by omega)
  rw [e, u64_or_nat _ _ (by omega) (by omega), Nat.or_comm, Nat.mul_comm, ← Nat.two_pow_add_eq_or_of_lt hv]
  omega
theorem rd_small {v y k : Nat} (hk : k < 9) (hv : v < 2 ^ (7 * k)) (hy : y < 128) : v + y * 2 ^ (7 * k) < 2 ^ (7 * (k + 1)) ∧ v + y * 2 ^ (7 * k) < 18446744073709551616 := by
  have h1 : v + y * 2 ^ (7 * k) < 2 ^ (7 * (k + 1)) := by
    have : 2 ^ (7 * (k + 1)) = 128 * 2 ^ (7 * k) := by rw [Nat.mul_add, Nat.pow_add, Nat.mul_comm]
    rw [this]
    have : y * 2 ^ (7 * k) ≤ 127 * 2 ^ (7 * k) := Nat.mul_le_mul_right _ (by omega)
    omega
  refine ⟨h1, Nat.lt_of_lt_of_le h1 ?_⟩
  exact Nat.le_trans (Nat.pow_le_pow_right (by decide) (show 7 * (k + 1) ≤ 63 by omega)) (by decide)
theorem rd_nine {v y k : Nat} (hk : k ≤ 9) (h9 : k = 9 → y ≤ 1) (hv : v < 2 ^ (7 * k)) (hy : y < 128) : v + y * 2 ^ (7 * k) < 18446744073709551616 := by
  by_cases h : k = 9
  · subst h
    have := h9 rfl
    have h2 : y * 2 ^ (7 * 9) ≤ 1 * 2 ^ (7 * 9) := Nat.mul_le_mul_right _ this
    have h3 : (2 : Nat) ^ (7 * 9) = 9223372036854775808 := by decide
    rw [h3] at hv h2 ⊢
    omega
  · exact (rd_small (by omega) hv hy).2
theorem and127 (x : UInt8) : bits BinOp.and IntKind.u8 (x.toNat : Int) 127 = ((x.toNat % 128 : Nat) : Int) := by
  have h1 : (127 : Int) = ((127 : Nat) : Int) := rfl
  rw [h1, u8_and_nat _ _ (u8_lt x) (by decide), nat_mask7]
theorem u64_of {n : Nat} (h : n < 18446744073709551616) : ∃ v : UInt64, n = v.toNat := ⟨UInt64.ofNat n, by rw [UInt64.toNat_ofNat', Nat.mod_eq_of_lt h]⟩

/-- The three results. -/
def rdV (r : Nat × Nat × Nat) : Value := .tuple #[.int .u64 (r.1 : Nat), .int .i64 (r.2.1 : Nat), .int .i64 (r.2.2 : Nat)]

/-- What is known at place k: a round's cases. -/
theorem rd_round {k v : Nat} {l : List UInt8} (hk : k < l.length) (hk9 : k ≤ 9) (hv : v < 2 ^ (7 * k)) (hr : rdF k v (l.drop k) = rd l) :
    (128 ≤ l[k].toNat ∧ k = 9 ∧ rd l = (0, 0, 3)) ∨
    (128 ≤ l[k].toNat ∧ k < 9 ∧ ∃ v' : UInt64, bits BinOp.or IntKind.u64 (v : Int) (IntKind.u64.wrap (((l[k].toNat % 128 : Nat) : Int) * 2 ^ (7 * k))) = (v'.toNat : Int) ∧ v'.toNat < 2 ^ (7 * (k + 1)) ∧ rdF (k + 1) v'.toNat (l.drop (k + 1)) = rd l) ∨
    (l[k].toNat = 0 ∧ 0 < k ∧ rd l = (0, 0, 3)) ∨
    (0 < l[k].toNat ∧ l[k].toNat < 128 ∧ k = 9 ∧ 1 < l[k].toNat ∧ rd l = (0, 0, 3)) ∨
    (l[k].toNat < 128 ∧ ((l[k].toNat = 0 ∧ k = 0) ∨ (0 < l[k].toNat ∧ k = 9 ∧ l[k].toNat ≤ 1) ∨ (0 < l[k].toNat ∧ k < 9)) ∧ ∃ v' : UInt64, bits BinOp.or IntKind.u64 (v : Int) (IntKind.u64.wrap ((l[k].toNat : Int) * 2 ^ (7 * k))) = (v'.toNat : Int) ∧ rd l = (v'.toNat, k + 1, 0)) := by
  rw [rdF_at hk] at hr
  have hx := u8_lt l[k]
  by_cases h1 : 128 ≤ l[k].toNat
  · rw [if_pos h1] at hr
    by_cases h9 : k = 9
    · rw [if_pos h9] at hr
      exact .inl ⟨h1, h9, hr.symm⟩
    · rw [if_neg h9] at hr
      have hy : l[k].toNat % 128 = l[k].toNat - 128 := by omega
      obtain ⟨b1, b2⟩ := rd_small (show k < 9 by omega) hv (show l[k].toNat % 128 < 128 by omega)
      obtain ⟨v', hv'⟩ := u64_of b2
      refine .inr (.inl ⟨h1, by omega, v', by rw [or_int _ _ _ hv b2, hv'], by rw [← hv']; exact b1, by rw [← hv', hy]; exact hr⟩)
  · rw [if_neg h1] at hr
    by_cases h2 : l[k].toNat = 0 ∧ 0 < k
    · rw [if_pos h2] at hr
      exact .inr (.inr (.inl ⟨h2.1, h2.2, hr.symm⟩))
    · rw [if_neg h2] at hr
      by_cases h3 : k = 9 ∧ 1 < l[k].toNat
      · rw [if_pos h3] at hr
        exact .inr (.inr (.inr (.inl ⟨by omega, by omega, h3.1, h3.2, hr.symm⟩)))
      · rw [if_neg h3] at hr
        have b := rd_nine (y := l[k].toNat) hk9 (by intro e; omega) hv (by omega)
        obtain ⟨v', hv'⟩ := u64_of b
        exact .inr (.inr (.inr (.inr ⟨by omega, by omega, v', by rw [or_int _ _ _ hv b, hv'], by rw [← hr, hv']⟩)))

theorem ret_rd {r : Nat × Nat × Nat} {a b c : Int} (h1 : a = (r.1 : Nat)) (h2 : b = (r.2.1 : Nat)) (h3 : c = (r.2.2 : Nat)) : Ending.returned (.tuple #[.int .u64 a, .int .i64 b, .int .i64 c]) = .returned (rdV r) := by
  rw [h1, h2, h3]; rfl

set_option maxRecDepth 100000 in
set_option maxHeartbeats 1000000 in
/-- ReadUvarint. -/
theorem read_any (w : World) (a : Option Addr) (c : Nat) (l : List UInt8) (hr : Rd w a c (B8 l)) :
    Calls Try.prog 72 #[.slice a l.length c] w fun e w' => e = .returned (rdV (rd l)) ∧ w' = w := by
  have hl := hr.le
  rw [B8_length] at hl
  go_enter Try.func72, Try.ntmps72
  go_wp2
  go_loop [5, 10] (fun s5 s10 => ∃ (k : Nat) (v : UInt64), k ≤ l.length ∧ k ≤ 9 ∧ s10 = .int .i64 k ∧ s5 = .int .u64 v.toNat ∧ v.toNat < 2 ^ (7 * k) ∧ rdF k v.toNat (l.drop k) = rd l) (fun _ s10 => l.length - (intOf s10).toNat)
  case atStart => exact ⟨0, 0, by omega, by omega, rfl, rfl, by decide, rfl⟩
  case round =>
    obtain ⟨k, v, hk, hk9, rfl, rfl, hv, hrd⟩ := hrel
    by_cases hlt : k < l.length
    · obtain ⟨b1, o1, rfl, hc1⟩ := hr.cs.b8 k hlt
      have hi : (k : Int) < (l.length : Int) := by omega
      have cs := rd_round hlt hk9 hv hrd
      obtain ⟨x, hx⟩ : ∃ x, x = l[k] := ⟨_, rfl⟩
      rw [← hx] at hc1 cs
      have e1 := and127 x
      have hx256 := u8_lt x
      clear hx hv hrd
      rcases cs with ⟨h1, h9, hres⟩ | ⟨h1, h9, v', hv', hlt', hrd'⟩ | ⟨h0, hk0, hres⟩ | ⟨h0, h1, h9, h2, hres⟩ | ⟨h1, hcs, v', hv', hres⟩
      · have h9' : ((k : Int) == 9) = true := by rw [beq_iff_eq]; omega
        have HR := Lib.hid hres; clear hres h9
        go_wp2
        go_ret3
        exact ⟨ret_rd (by rw [HR.out]; rfl) (by rw [HR.out]; rfl) (by rw [HR.out]; rfl), rfl⟩
      · have h9' : ((k : Int) == 9) = false := by rw [beq_eq_false_iff_ne]; omega
        have HR := Lib.hid hrd'; clear hrd'
        have HL := Lib.hid hlt'; clear hlt'
        obtain ⟨y, hy⟩ : ∃ y, y = x.toNat % 128 := ⟨_, rfl⟩
        rw [← hy] at e1 hv'
        have hy1 : y < 128 := by omega
        clear hy
        go_wp2
        go_round
        case rel => exact ⟨k + 1, v', by omega, by omega, by go_num, rfl, HL.out, HR.out⟩
        case measure => simp [intOf]; omega
      · have h0' : ((x.toNat : Int) == 0) = true := by rw [beq_iff_eq]; omega
        have HR := Lib.hid hres; clear hres h0
        go_wp2
        go_ret3
        exact ⟨ret_rd (by rw [HR.out]; rfl) (by rw [HR.out]; rfl) (by rw [HR.out]; rfl), rfl⟩
      · have h9' : ((k : Int) == 9) = true := by rw [beq_iff_eq]; omega
        have h0' : ((x.toNat : Int) == 0) = false := by rw [beq_eq_false_iff_ne]; omega
        have HR := Lib.hid hres; clear hres h9
        go_wp2
        go_ret3
        exact ⟨ret_rd (by rw [HR.out]; rfl) (by rw [HR.out]; rfl) (by rw [HR.out]; rfl), rfl⟩
      · have HR := Lib.hid hres; clear hres
        rcases hcs with ⟨h0, hk0⟩ | ⟨h0, h9, h2⟩ | ⟨h0, h9⟩
        · have h0' : ((x.toNat : Int) == 0) = true := by rw [beq_iff_eq]; omega
          have hk0' : ¬ (0 : Int) < (k : Int) := by omega
          have h9' : ((k : Int) == 9) = false := by rw [beq_eq_false_iff_ne]; omega
          have hv0 : bits BinOp.or IntKind.u64 (v.toNat : Int) (x.toNat : Int) = (v'.toNat : Int) := by
            rw [← hv', hk0, Nat.mul_zero, Int.pow_zero, Int.mul_one, IntWalk.u64_in _ (by omega)]
          have HK0 := Lib.hid hk0
          clear h0 hk0 hv'
          go_wp2
          go_ret3
          exact ⟨ret_rd (by rw [HR.out]) (by rw [HR.out, HK0.out]; rfl) (by rw [HR.out]; rfl), rfl⟩
        · have h9' : ((k : Int) == 9) = true := by rw [beq_iff_eq]; omega
          have h0' : ((x.toNat : Int) == 0) = false := by rw [beq_eq_false_iff_ne]; omega
          clear h9
          go_wp2
          go_ret3
          exact ⟨ret_rd (by rw [HR.out]) (by rw [HR.out]; rfl) (by rw [HR.out]; rfl), rfl⟩
        · have h9' : ((k : Int) == 9) = false := by rw [beq_eq_false_iff_ne]; omega
          have h0' : ((x.toNat : Int) == 0) = false := by rw [beq_eq_false_iff_ne]; omega
          go_wp2
          go_ret3
          exact ⟨ret_rd (by rw [HR.out]) (by rw [HR.out]; rfl) (by rw [HR.out]; rfl), rfl⟩
    · rw [List.drop_of_length_le (by omega)] at hrd
      have HR := Lib.hid hrd; clear hrd hv
      go_wp2
      go_ret3
      have hres : rd l = (0, 0, 2) := HR.out.symm
      exact ⟨ret_rd (by rw [hres]; rfl) (by rw [hres]; rfl) (by rw [hres]; rfl), rfl⟩

set_option maxRecDepth 100000 in
set_option maxHeartbeats 1000000 in
/-- The document's ReadUvarint. -/
theorem refRead_any (w : World) (a : Option Addr) (c : Nat) (l : List UInt8) (hr : Rd w a c (B8 l)) :
    Calls Try.prog 86 #[.slice a l.length c] w fun e w' => e = .returned (rdV (rd l)) ∧ w' = w := by
  have hl := hr.le
  rw [B8_length] at hl
  go_enter Try.func86, Try.ntmps86
  go_wp2
  go_loop [5, 6, 7] (fun s5 s10 _ => ∃ (k : Nat) (v : UInt64), k ≤ l.length ∧ k ≤ 9 ∧ s10 = .int .i64 k ∧ s5 = .int .u64 v.toNat ∧ v.toNat < 2 ^ (7 * k) ∧ rdF k v.toNat (l.drop k) = rd l) (fun _ s10 _ => l.length - (intOf s10).toNat)
  case atStart => exact ⟨0, 0, by omega, by omega, rfl, rfl, by decide, rfl⟩
  case round =>
    obtain ⟨k, v, hk, hk9, rfl, rfl, hv, hrd⟩ := hrel
    by_cases hlt : k < l.length
    · obtain ⟨b1, o1, rfl, hc1⟩ := hr.cs.b8 k hlt
      have hi : (k : Int) < (l.length : Int) := by omega
      have cs := rd_round hlt hk9 hv hrd
      obtain ⟨x, hx⟩ : ∃ x, x = l[k] := ⟨_, rfl⟩
      rw [← hx] at hc1 cs
      have e1 := and127 x
      have hx256 := u8_lt x
      clear hx hv hrd
      rcases cs with ⟨h1, h9, hres⟩ | ⟨h1, h9, v', hv', hlt', hrd'⟩ | ⟨h0, hk0, hres⟩ | ⟨h0, h1, h9, h2, hres⟩ | ⟨h1, hcs, v', hv', hres⟩
      · have h9' : ((k : Int) == 9) = true := by rw [beq_iff_eq]; omega
        have HR := Lib.hid hres; clear hres h9
        go_wp2
        go_ret3
        exact ⟨ret_rd (by rw [HR.out]; rfl) (by rw [HR.out]; rfl) (by rw [HR.out]; rfl), rfl⟩
      · have h9' : ((k : Int) == 9) = false := by rw [beq_eq_false_iff_ne]; omega
        have HR := Lib.hid hrd'; clear hrd'
        have HL := Lib.hid hlt'; clear hlt'
        obtain ⟨y, hy⟩ : ∃ y, y = x.toNat % 128 := ⟨_, rfl⟩
        rw [← hy] at e1 hv'
        have hy1 : y < 128 := by omega
        have e2 : (x.toNat : Int) % 128 = (y : Int) := by omega
        clear hy
        go_wp2
        go_round
        case rel => exact ⟨k + 1, v', by omega, by omega, by go_num, rfl, HL.out, HR.out⟩
        case measure => simp [intOf]; omega
      · have h0' : ((x.toNat : Int) == 0) = true := by rw [beq_iff_eq]; omega
        have e2 : (x.toNat : Int) % 128 = (x.toNat : Int) := by omega
        have hx1 : (x.toNat : Int) ≤ 1 := by omega
        have HR := Lib.hid hres; clear hres h0
        obtain ⟨b9, hb9⟩ : ∃ b : Bool, ((k : Int) == 9) = b := ⟨_, rfl⟩
        cases b9
        all_goals
          go_wp2
          go_ret3
          exact ⟨ret_rd (by rw [HR.out]; rfl) (by rw [HR.out]; rfl) (by rw [HR.out]; rfl), rfl⟩
      · have h9' : ((k : Int) == 9) = true := by rw [beq_iff_eq]; omega
        have h0' : ((x.toNat : Int) == 0) = false := by rw [beq_eq_false_iff_ne]; omega
        have e2 : (x.toNat : Int) % 128 = (x.toNat : Int) := by omega
        have HR := Lib.hid hres; clear hres h9
        go_wp2
        go_ret3
        exact ⟨ret_rd (by rw [HR.out]; rfl) (by rw [HR.out]; rfl) (by rw [HR.out]; rfl), rfl⟩
      · have e2 : (x.toNat : Int) % 128 = (x.toNat : Int) := by omega
        have HR := Lib.hid hres; clear hres
        rcases hcs with ⟨h0, hk0⟩ | ⟨h0, h9, h2⟩ | ⟨h0, h9⟩
        · have h0' : ((x.toNat : Int) == 0) = true := by rw [beq_iff_eq]; omega
          have hk0' : ¬ (0 : Int) < (k : Int) := by omega
          have h9' : ((k : Int) == 9) = false := by rw [beq_eq_false_iff_ne]; omega
          have hv0 : bits BinOp.or IntKind.u64 (v.toNat : Int) (x.toNat : Int) = (v'.toNat : Int) := by
            rw [← hv', hk0, Nat.mul_zero, Int.pow_zero, Int.mul_one, IntWalk.u64_in _ (by omega)]
          have HK0 := Lib.hid hk0
          clear h0 hk0
          go_wp2
          go_ret3
          exact ⟨ret_rd (by rw [HR.out]) (by rw [HR.out, HK0.out]; rfl) (by rw [HR.out]; rfl), rfl⟩
        · have h9' : ((k : Int) == 9) = true := by rw [beq_iff_eq]; omega
          have h0' : ((x.toNat : Int) == 0) = false := by rw [beq_eq_false_iff_ne]; omega
          clear h9
          go_wp2
          go_ret3
          exact ⟨ret_rd (by rw [HR.out]) (by rw [HR.out]; rfl) (by rw [HR.out]; rfl), rfl⟩
        · have h9' : ((k : Int) == 9) = false := by rw [beq_eq_false_iff_ne]; omega
          have h0' : ((x.toNat : Int) == 0) = false := by rw [beq_eq_false_iff_ne]; omega
          go_wp2
          go_ret3
          exact ⟨ret_rd (by rw [HR.out]) (by rw [HR.out]; rfl) (by rw [HR.out]; rfl), rfl⟩
    · rw [List.drop_of_length_le (by omega)] at hrd
      have HR := Lib.hid hrd; clear hrd hv
      go_wp2
      go_ret3
      have hres : rd l = (0, 0, 2) := HR.out.symm
      exact ⟨ret_rd (by rw [hres]; rfl) (by rw [hres]; rfl) (by rw [hres]; rfl), rfl⟩
end Go.Proofs.Yteenbobblbehoaa
