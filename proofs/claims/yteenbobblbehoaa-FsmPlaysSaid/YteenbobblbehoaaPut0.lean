/- Numbers as four bytes, there and back: plain functions, their laws, and the contracts of the program's and of the document's. Conditions: each contract's own premises. -/
import Derived.Test.YteenbobblbehoaaCom0
namespace Go.Proofs.Yteenbobblbehoaa
open Go Go.RowKit

/-- So many bytes of a number, the highest first. -/
def putL : Nat → Nat → List UInt8
  | 0, _ => []
  | k + 1, v => UInt8.ofNat (v / 2 ^ (8 * k)) :: putL k v
/-- The number that bytes are. -/
def getN (l : List UInt8) : Nat := l.foldl (fun v c => v * 256 + c.toNat) 0

theorem putL_length : ∀ k v, (putL k v).length = k
  | 0, _ => rfl
  | k + 1, v => by show (putL k v).length + 1 = k + 1; rw [putL_length k]
theorem getN_foldl : ∀ (l : List UInt8) (v : Nat), l.foldl (fun v c => v * 256 + c.toNat) v = v * 256 ^ l.length + getN l
  | [], v => by simp [getN]
  | c :: l, v => by
    show l.foldl (fun v c => v * 256 + c.toNat) (v * 256 + c.toNat) = v * 256 ^ (l.length + 1) + l.foldl (fun v c => v * 256 + c.toNat) (0 * 256 + c.toNat)
    rw [getN_foldl l, getN_foldl l (0 * 256 + c.toNat), Nat.zero_mul, Nat.zero_add, Nat.add_mul, Nat.pow_succ, Nat.mul_comm (256 ^ l.length) 256, Nat.mul_assoc, Nat.add_assoc]
theorem getN_cons (c : UInt8) (l : List UInt8) : getN (c :: l) = c.toNat * 256 ^ l.length + getN l := by
  show l.foldl (fun v c => v * 256 + c.toNat) (0 * 256 + c.toNat) = _
  rw [getN_foldl, Nat.zero_mul, Nat.zero_add]
theorem getN_snoc (l : List UInt8) (c : UInt8) : getN (l ++ [c]) = getN l * 256 + c.toNat := by
  unfold getN; rw [List.foldl_append]; rfl
theorem getN_lt : ∀ (l : List UInt8), getN l < 256 ^ l.length
  | [] => by simp [getN]
  | c :: l => by
    rw [getN_cons, List.length_cons, Nat.pow_succ, Nat.mul_comm (256 ^ l.length) 256]
    have h1 := getN_lt l
    have h2 := u8_lt c
    have h3 : c.toNat * 256 ^ l.length ≤ 255 * 256 ^ l.length := Nat.mul_le_mul_right _ (by omega)
    omega
theorem getN_putL : ∀ k v, getN (putL k v) = v % 256 ^ k
  | 0, v => by simp [putL, getN, Nat.mod_one]
  | k + 1, v => by
    show getN (UInt8.ofNat (v / 2 ^ (8 * k)) :: putL k v) = _
    rw [getN_cons, putL_length, getN_putL k v, UInt8.toNat_ofNat']
    have e : (2 : Nat) ^ (8 * k) = 256 ^ k := by rw [Nat.pow_mul]
    rw [e]
    show v / 256 ^ k % 256 * 256 ^ k + v % 256 ^ k = v % 256 ^ (k + 1)
    rw [Nat.pow_succ, Nat.mod_mul, Nat.mul_comm (256 ^ k), Nat.add_comm]

def PutInv (n v s : Nat) (pre : List UInt8) : Prop := ∃ j, s = 8 * j ∧ pre.length + j = n ∧ pre ++ putL j v = putL n v
theorem PutInv.next {n v s : Nat} {pre : List UInt8} (h : PutInv n v s pre) (hs : 0 < s) : 8 ≤ s ∧ PutInv n v (s - 8) (pre ++ [UInt8.ofNat (v / 2 ^ (s - 8))]) := by
  obtain ⟨j, h1, h2, h3⟩ := h
  cases j with
  | zero => omega
  | succ j =>
    have e : s - 8 = 8 * j := by omega
    refine ⟨by omega, j, by omega, by simp; omega, ?_⟩
    rw [e, List.append_assoc, ← h3]
    rfl
theorem PutInv.done {n v s : Nat} {pre : List UInt8} (h : PutInv n v s pre) (hs : s = 0) : pre.length = n ∧ pre = putL n v := by
  obtain ⟨j, h1, h2, h3⟩ := h
  have : j = 0 := by omega
  subst this
  refine ⟨by omega, ?_⟩
  rw [← h3]; simp [putL]
theorem PutInv.bd {n v s : Nat} {pre : List UInt8} (h : PutInv n v s pre) (hn : n ≤ 8) : s ≤ 64 ∧ pre.length ≤ 8 := by
  obtain ⟨j, h1, h2, h3⟩ := h; omega
theorem put_byte (v k : Nat) : ((v : Int) / 2 ^ k) % 256 = ((UInt8.ofNat (v / 2 ^ k)).toNat : Int) := by
  have e : (v : Int) / 2 ^ k = ((v / 2 ^ k : Nat) : Int) := by rw [Int.natCast_ediv, Int.natCast_pow]; rfl
  rw [e, UInt8.toNat_ofNat']
  rfl

set_option maxRecDepth 100000 in
set_option maxHeartbeats 400000 in
theorem put_any (v : UInt64) (n : Nat) (hn : n ≤ 8) (w : World) :
    Calls Try.prog 89 #[.int .u64 v.toNat, .int .u64 (n : Int)] w fun e w' => ∃ r, e = .returned r ∧ w'.ownsRow w.heap.size 5 1 r n (B8 (putL n v.toNat)) ∧ Below w.heap.size w w' := by
  obtain ⟨i0, hi, hz0, hz1, hz2⟩ := elemB.hi
  go_enter Try.func89, Try.ntmps89
  go_wp2_with (with_reducible refine At.slot 8 ?_)
  refine At.out (wpList_make_own w rfl (.const (.int .i64 0)) (.tmp 7) 31 rfl w.heap.size 5 i0 (.int .u8 0) 1 elemB.ht hi hz0 hz1 .i64 .u64 (n : Int) n rfl rfl rfl (by rw [hz2]; omega) (by unfold maxLen; omega) (Nat.le_refl _) ?_)
  intro w1 ho1 hg1
  have hb1 : Below w.heap.size w w1 := below_grown hg1 (Nat.le_refl _) (fun k h => by cases h)
  clear hg1 hi hz0 hz1 hz2
  go_wp2
  obtain ⟨s0, hs0⟩ : ∃ s : Nat, s = 8 * n := ⟨_, rfl⟩
  go_loopw [5, 6] (fun s5 s6 wr => ∃ (s : Nat) (pre : List UInt8), s6 = .int .u64 (s : Int) ∧ wr.ownsRow w.heap.size 5 1 s5 pre.length (B8 pre) ∧ Below w.heap.size w wr ∧ PutInv n v.toNat s pre) (fun _ s6 _ => (intOf s6).toNat)
  case atStart => exact ⟨8 * n, [], by rw [Int.natCast_mul, Int.mul_comm]; rfl, ho1, hb1, n, rfl, by simp, rfl⟩
  case round =>
    clear hs0 ho1 hb1
    obtain ⟨s, pre, rfl, ho, hb, hinv⟩ := hrel
    obtain ⟨hs64, hpl⟩ := hinv.bd hn
    by_cases hs : 0 < s
    · obtain ⟨hs8, hnext⟩ := hinv.next hs
      have hby := put_byte v.toNat (s - 8)
      obtain ⟨x, hx⟩ : ∃ x, x = UInt8.ofNat (v.toNat / 2 ^ (s - 8)) := ⟨_, rfl⟩
      rw [← hx] at hby hnext
      clear hx hinv
      go_wp2_with (with_reducible refine At.slot 21 ?_)
      refine At.out (wpList_app rfl (.tmp 15) (.tmp 20) 31 rfl elemB rfl w.heap.size _ pre.length _ rfl (ho.alloc _) _ 1 1 [.int .u8 (x.toNat : Int)] rfl rfl (Rd.one _ _ _) (one_int _ _) (by unfold maxLen; omega) (by omega) (by have := hb.size; simp; omega) ?_)
      intro v1 w2 ho2 hb2 _
      have hb3 := (hb.alloc hb.size (.cells #[.int .u8 (x.toNat : Int)] 5)).trans hb2
      clear hb2 hb ho
      go_wp2
      go_roundw
      case rel =>
        refine ⟨s - 8, pre ++ [x], by go_num, ?_, hb3, hnext⟩
        rw [B8_append, List.length_append]
        exact ho2
      case measure => simp [intOf]; omega
    · obtain ⟨hd1, hd2⟩ := hinv.done (by omega)
      go_wp2
      go_ret
      refine ⟨_, rfl, ?_, hb⟩
      rw [hd1, hd2] at ho
      exact ho

set_option maxRecDepth 100000 in
/-- Put32. -/
theorem put32_any (v : UInt32) (w : World) :
    Calls Try.prog 81 #[.int .u32 v.toNat] w fun e w' => ∃ r, e = .returned r ∧ w'.ownsRow w.heap.size 5 1 r 4 (B8 (putL 4 v.toNat)) ∧ Below w.heap.size w w' := by
  have hv := u32_lt v
  go_enter Try.func81, Try.ntmps81
  go_wp2_with fail
  have h := put_any v.toUInt64 4 (by decide) w
  rw [UInt32.toNat_toUInt64] at h
  refine h.mono ?_
  rintro e w1 ⟨r, rfl, ho, hb⟩
  clear h
  go_wp2
  go_ret
  exact ⟨r, rfl, ho, hb⟩
theorem or8_int (v : Nat) (c : UInt8) (hv : v < 72057594037927936) : bits BinOp.or IntKind.u64 (IntKind.u64.wrap ((v : Int) * 256)) (c.toNat : Int) = ((v * 256 + c.toNat : Nat) : Int) := by
  have hc := u8_lt c
  have e : IntKind.u64.wrap ((v : Int) * 256) = ((v * 256 : Nat) : Int) := by
    rw [Int.natCast_mul]; exact IntWalk.u64_in _ (by omega)
  rw [e, u64_or_nat _ _ (by omega) (by omega), Nat.mul_comm v 256, show (256 : Nat) = 2 ^ 8 from rfl, ← Nat.two_pow_add_eq_or_of_lt hc]

/-- The two results of get: a number and an error. -/
def getV (k : IntKind) (r : Nat × Nat) : Value := .tuple #[.int k (r.1 : Nat), .int .i64 (r.2 : Nat)]
def getF (l : List UInt8) (n : Nat) : Nat × Nat := if l.length < n then (0, 2) else (getN (l.take n), 0)

set_option maxRecDepth 100000 in
set_option maxHeartbeats 400000 in
theorem get_any (w : World) (a : Option Addr) (c : Nat) (l : List UInt8) (n : Nat) (hn : 1 ≤ n) (hn8 : n ≤ 8) (hr : Rd w a c (B8 l)) :
    Calls Try.prog 82 #[.slice a l.length c, .int .i64 (n : Int)] w fun e w' => e = .returned (getV .u64 (getF l n)) ∧ w' = w := by
  have hl := hr.le
  have hcap := hr.1
  have hcs := hr.cs
  rw [B8_length] at hl hcap
  clear hr
  by_cases hlt : l.length < n
  · have hres : getF l n = (0, 2) := by unfold getF; rw [if_pos hlt]
    have HR := Lib.hid hres; clear hres
    go_enter Try.func82, Try.ntmps82
    go_wp2
    go_ret2
    exact ⟨by rw [HR.out]; rfl, rfl⟩
  · have hres : getF l n = (getN (l.take n), 0) := by unfold getF; rw [if_neg hlt]
    have HR := Lib.hid hres; clear hres
    obtain ⟨b, o, rfl, _⟩ := hcs.b8 0 (by omega)
    have hcapn : (n : Int) ≤ (c : Int) := by omega
    go_enter Try.func82, Try.ntmps82
    go_wp2
    go_loop [6, 8, 17] (fun s6 _ s17 => ∃ (k : Nat) (v : UInt64), k ≤ n ∧ s17 = .int .i64 k ∧ s6 = .int .u64 v.toNat ∧ v.toNat = getN (l.take k)) (fun _ _ s17 => n - (intOf s17).toNat)
    case atStart => exact ⟨0, 0, by omega, rfl, rfl, rfl⟩
    case round =>
      obtain ⟨k, v, hk, rfl, rfl, hv⟩ := hrel
      have HV := Lib.hid hv; clear hv
      by_cases hkn : k < n
      · obtain ⟨b1, o1, hab, hc1⟩ := hcs.b8 k (by omega)
        simp only [Option.some.injEq, Addr.mk.injEq, and_true] at hab
        obtain ⟨rfl, rfl⟩ := hab
        have hvlt : v.toNat < 72057594037927936 := by
          rw [HV.out]
          have h1 := getN_lt (l.take k)
          rw [List.length_take, Nat.min_eq_left (by omega)] at h1
          exact Nat.lt_of_lt_of_le h1 (Nat.le_trans (Nat.pow_le_pow_right (by decide) (show k ≤ 7 by omega)) (by decide))
        have hor := or8_int v.toNat (l[k]'(by omega)) hvlt
        obtain ⟨v', hv'⟩ : ∃ v' : UInt64, v'.toNat = v.toNat * 256 + (l[k]'(by omega)).toNat := ⟨UInt64.ofNat (v.toNat * 256 + (l[k]'(by omega)).toNat), by
          have := u8_lt (l[k]'(by omega))
          rw [UInt64.toNat_ofNat', Nat.mod_eq_of_lt (by omega)]⟩
        rw [← hv'] at hor
        have HV' := Lib.hid hv'; clear hv' hvlt
        have hki : (k : Int) < (l.length : Int) := by omega
        have hc8 := u8_lt (l[k]'(by omega))
        go_wp2
        go_round
        case rel =>
          refine ⟨k + 1, v', by omega, by go_num, rfl, ?_⟩
          rw [List.take_succ_eq_append_getElem (by omega), getN_snoc, HV'.out, HV.out]
        case measure => simp [intOf]; omega
      · go_wp2
        go_ret2
        refine ⟨?_, rfl⟩
        have : k = n := by omega
        subst this
        rw [HR.out]
        show Ending.returned (.tuple #[.int .u64 (v.toNat : Int), .int .i64 0]) = Ending.returned (getV .u64 (getN (l.take k), 0))
        rw [HV.out]
        rfl

theorem getF_lt (l : List UInt8) (n : Nat) : (getF l n).1 < 256 ^ n := by
  unfold getF
  split
  · exact Nat.pow_pos (by decide)
  · have := getN_lt (l.take n)
    rw [List.length_take, Nat.min_eq_left (by omega)] at this
    exact this
set_option maxRecDepth 100000 in
/-- Get32. -/
theorem get32_any (w : World) (a : Option Addr) (c : Nat) (l : List UInt8) (hr : Rd w a c (B8 l)) :
    Calls Try.prog 71 #[.slice a l.length c] w fun e w' => e = .returned (getV .u32 (getF l 4)) ∧ w' = w := by
  have hlt : (getF l 4).1 < 4294967296 := getF_lt l 4
  go_enter Try.func71, Try.ntmps71
  go_wp2_with fail
  refine (get_any w a c l 4 (by decide) (by decide) hr).mono ?_
  rintro e w1 ⟨rfl, rfl⟩
  unfold getV
  go_wp2
  go_ret2
  exact ⟨rfl, rfl⟩

theorem put_byte32 (v : UInt32) : B8 (putL 4 v.toNat) = [.int .u8 ((v.toNat : Int) / 16777216 % 256), .int .u8 ((v.toNat : Int) / 65536 % 256), .int .u8 ((v.toNat : Int) / 256 % 256), .int .u8 ((v.toNat : Int) % 256)] := by
  have h3 := put_byte v.toNat 24
  have h2 := put_byte v.toNat 16
  have h1 := put_byte v.toNat 8
  have h0 := put_byte v.toNat 0
  show [Value.int .u8 ((UInt8.ofNat (v.toNat / 2 ^ 24)).toNat : Int), .int .u8 ((UInt8.ofNat (v.toNat / 2 ^ 16)).toNat : Int), .int .u8 ((UInt8.ofNat (v.toNat / 2 ^ 8)).toNat : Int), .int .u8 ((UInt8.ofNat (v.toNat / 2 ^ 0)).toNat : Int)] = _
  rw [← h3, ← h2, ← h1, ← h0]
  simp

set_option maxRecDepth 100000 in
/-- The document's Put32. -/
theorem refPut32_any (v : UInt32) (w : World) :
    Calls Try.prog 83 #[.int .u32 v.toNat] w fun e w' => ∃ r, e = .returned r ∧ w'.ownsRow w.heap.size 5 1 r 4 (B8 (putL 4 v.toNat)) ∧ Below w.heap.size w w' := by
  have hv := put_byte32 v
  have HV := Lib.hid hv; clear hv
  go_enter Try.func83, Try.ntmps83
  go_wp2
  go_ret
  refine ⟨_, rfl, ?_, (Below.refl _ _).alloc (Nat.le_refl _) _⟩
  rw [HV.out]
  exact World.ownsRow_lit w #[.int .u8 ((v.toNat : Int) / 16777216 % 256), .int .u8 ((v.toNat : Int) / 65536 % 256), .int .u8 ((v.toNat : Int) / 256 % 256), .int .u8 ((v.toNat : Int) % 256)] 4 (Nat.le_refl _) (by unfold maxLen; omega) rfl

theorem putL_add : ∀ (j k v : Nat), putL (j + k) v = putL j (v / 2 ^ (8 * k)) ++ putL k v
  | 0, k, v => by rw [Nat.zero_add]; rfl
  | j + 1, k, v => by
    rw [Nat.add_right_comm]
    show UInt8.ofNat (v / 2 ^ (8 * (j + k))) :: putL (j + k) v = UInt8.ofNat (v / 2 ^ (8 * k) / 2 ^ (8 * j)) :: (putL j (v / 2 ^ (8 * k)) ++ putL k v)
    rw [putL_add j k v, Nat.div_div_eq_div_mul, ← Nat.pow_add]
    have e : 8 * k + 8 * j = 8 * (j + k) := by omega
    rw [e]
theorem ofNat_mod (a b : Nat) (h : a % 256 = b % 256) : UInt8.ofNat a = UInt8.ofNat b := by
  apply UInt8.toNat_inj.1
  rw [UInt8.toNat_ofNat', UInt8.toNat_ofNat']
  exact h
theorem putL_mod : ∀ (k m v : Nat), k ≤ m → putL k (v % 2 ^ (8 * m)) = putL k v
  | 0, _, _, _ => rfl
  | k + 1, m, v, h => by
    show UInt8.ofNat (v % 2 ^ (8 * m) / 2 ^ (8 * k)) :: putL k (v % 2 ^ (8 * m)) = UInt8.ofNat (v / 2 ^ (8 * k)) :: putL k v
    rw [putL_mod k m v (by omega)]
    congr 1
    apply ofNat_mod
    obtain ⟨d, rfl⟩ : ∃ d, m = k + 1 + d := ⟨m - (k + 1), by omega⟩
    have e : 2 ^ (8 * (k + 1 + d)) = 2 ^ (8 * k) * (256 * 2 ^ (8 * d)) := by
      rw [show 8 * (k + 1 + d) = 8 * k + (8 + 8 * d) by omega, Nat.pow_add, Nat.pow_add]
    rw [e, Nat.mod_mul_right_div_self, Nat.mod_mul_right_mod]

/-- What was put is got. -/
theorem getF_putL (k v : Nat) (m : List UInt8) (hv : v < 256 ^ k) : getF (putL k v ++ m) k = (v, 0) := by
  unfold getF
  rw [if_neg (by simp [putL_length]), List.take_left' (putL_length k v), getN_putL, Nat.mod_eq_of_lt hv]
end Go.Proofs.Yteenbobblbehoaa
