/- A set of rows as digits; what a call begins with. What a call of shard's begins with: the contract. The map of inverses of shard's work. The map of inverses: the look-up and the store. Conditions: each law's own premises. -/
import Derived.Test.YtmeckdgigjjjbaaDoorMendL
import Derived.Test.YtmeckdgigjjjbaaDoorTz
import Derived.Test.YtmeckdgigjjjbaaDoorOwnR
import Derived.Test.YtmeckdgigjjjbaaDoorBlkV
import Derived.WideKeyArr
import Derived.WideKeyElems3
import Derived.Maps.OwnSet
namespace Go.Proofs.YtmeckdgigjjjbaaDoor
open Go Go.RowKit

theorem and1_u32 (x : Nat) (h : x < 4294967296) : bits BinOp.and IntKind.u32 (x : Int) 1 = ((x % 2 : Nat) : Int) := by
  have := bits_and_u32_nat x 1 h (by decide)
  rw [show x &&& 1 = x % 2 from Nat.and_two_pow_sub_one_eq_mod x 1] at this
  exact this
theorem bit_mod (T i : Nat) : (T / 2 ^ i % 2 = 1) ↔ T.testBit i = true := by
  rw [Nat.testBit_eq_decide_div_mod_eq]; simp
set_option maxRecDepth 100000 in
set_option maxHeartbeats 1000000 in
theorem has_any (T i : Nat) (hT : T < 4294967296) (hi : i < 32) (w : World) :
    Calls Tryd.prog 40 #[.int .u32 T, .int .i64 i] w fun e w' => e = .returned (.bool (T.testBit i)) ∧ w' = w := by
  have e1 : (T : Int) / 2 ^ i = ((T / 2 ^ i : Nat) : Int) := by rw [Int.natCast_ediv, Int.natCast_pow]; rfl
  have hlt : T / 2 ^ i < 4294967296 := Nat.lt_of_le_of_lt (Nat.div_le_self _ _) hT
  have e2 := and1_u32 _ hlt
  obtain ⟨r, hr⟩ : ∃ r, r = T.testBit i := ⟨_, rfl⟩
  have e3 : (((T / 2 ^ i % 2 : Nat) : Int) == 1) = r := by
    rw [hr]
    by_cases h : T / 2 ^ i % 2 = 1
    · rw [(bit_mod T i).1 h, h]; rfl
    · have : T.testBit i = false := by
        cases hb : T.testBit i with
        | true => exact absurd ((bit_mod T i).2 hb) h
        | false => rfl
      rw [this, beq_eq_false_iff_ne]; omega
  rw [← hr]
  have hm : min i 32 = i := by omega
  have E1 := Lib.hid e1
  have E2 := Lib.hid e2
  have E3 := Lib.hid e3
  have HM := Lib.hid hm
  clear hr hlt hi hT e1 e2 e3 hm
  go_enter Tryd.func40, Tryd.ntmps40
  go_wp2
  go_ret
  refine ⟨ret_bool ?_, rfl⟩
  rw [HM.out, E1.out, E2.out]
  exact E3.out
end Go.Proofs.YtmeckdgigjjjbaaDoor

namespace Go.Proofs.YtmeckdgigjjjbaaDoor
open Go Go.RowKit

/-- Is a row there? -/
def presT (L : Mx) (r : Nat) : Bool := decide ((L.getD r []).length ≠ 0)
/-- Rows of different lengths. -/
def Odd (L : Mx) : Prop := ∃ r s, presT L r = true ∧ presT L s = true ∧ (L.getD r []).length ≠ (L.getD s []).length
def presC (L : Mx) (i : Nat) : Nat := ((List.range i).filter (presT L)).length
/-- What stands when i rows were looked at. -/
structure BegI (L : Mx) (i T n sz : Nat) : Prop where
  lt : T < 2 ^ i
  bit : ∀ r, T.testBit r = (decide (r < i) && presT L r)
  cnt : n = presC L i
  same : ∀ r, r < i → presT L r = true → (L.getD r []).length = sz
theorem presC_succ (L : Mx) (i : Nat) : presC L (i + 1) = presC L i + if presT L i = true then 1 else 0 := by
  unfold presC
  rw [List.range_succ, List.filter_append, List.length_append]
  congr 1
  cases h : presT L i with
  | true => rw [List.filter_cons_of_pos h]; rfl
  | false => rw [List.filter_cons_of_neg (by simp [h])]; rfl
theorem presC_le (L : Mx) (i : Nat) : presC L i ≤ i := by
  have := List.length_filter_le (presT L) (List.range i)
  rwa [List.length_range] at this
theorem presC_pos {L : Mx} {i : Nat} (h : 0 < presC L i) : ∃ r, r < i ∧ presT L r = true := by
  obtain ⟨r, hr⟩ := List.exists_mem_of_length_pos h
  obtain ⟨h1, h2⟩ := List.mem_filter.1 hr
  exact ⟨r, List.mem_range.1 h1, h2⟩
theorem BegI.start (L : Mx) : BegI L 0 0 0 0 := ⟨by decide, fun r => by simp, rfl, fun r h => by omega⟩
theorem BegI.skip {L : Mx} {i T n sz : Nat} (h : BegI L i T n sz) (hp : presT L i = false) : BegI L (i + 1) T n sz := by
  refine ⟨Nat.lt_trans h.lt (Nat.pow_lt_pow_right (by decide) (by omega)), fun r => ?_, ?_, fun r hr hr2 => ?_⟩
  · rw [h.bit]
    by_cases e : r = i
    · subst e; simp [hp]
    · by_cases h1 : r < i
      · simp [h1, show r < i + 1 by omega]
      · simp [h1, show ¬ r < i + 1 by omega]
  · rw [presC_succ, hp, if_neg (by decide)]; exact h.cnt
  · by_cases e : r = i
    · subst e; rw [hp] at hr2; cases hr2
    · exact h.same r (by omega) hr2
theorem BegI.next {L : Mx} {i T n sz T' : Nat} (h : BegI L i T n sz) (hp : presT L i = true) (hs : 0 < n → (L.getD i []).length = sz) (hlt : T' < 2 ^ (i + 1)) (hb : ∀ r, T'.testBit r = (T.testBit r || decide (r = i))) :
    BegI L (i + 1) T' (n + 1) (L.getD i []).length := by
  refine ⟨hlt, fun r => ?_, ?_, fun r hr hr2 => ?_⟩
  · rw [hb, h.bit]
    by_cases e : r = i
    · subst e; simp [hp]
    · by_cases h1 : r < i
      · simp [h1, e, show r < i + 1 by omega]
      · simp [h1, e, show ¬ r < i + 1 by omega]
  · rw [presC_succ, hp, if_pos rfl, h.cnt]
  · by_cases e : r = i
    · subst e; rfl
    · have h1 := h.same r (by omega) hr2
      rw [h1, hs]
      have : r ∈ (List.range i).filter (presT L) := List.mem_filter.2 ⟨List.mem_range.2 (by omega), hr2⟩
      rw [h.cnt]
      exact List.length_pos_of_mem this
theorem BegI.odd {L : Mx} {i T n sz : Nat} (h : BegI L i T n sz) (hp : presT L i = true) (hn : 0 < n) (hs : (L.getD i []).length ≠ sz) : Odd L := by
  rw [h.cnt] at hn
  obtain ⟨r, h1, h2⟩ := presC_pos hn
  exact ⟨i, r, hp, h2, by rw [h.same r h1 h2]; exact hs⟩
theorem presT_lt {L : Mx} {r : Nat} (h : presT L r = true) : r < L.length := by
  refine Classical.byContradiction fun hn => ?_
  unfold presT at h
  rw [List.getD_eq_getElem?_getD, List.getElem?_eq_none (by omega)] at h
  simp at h
theorem BegI.even {L : Mx} {T n sz : Nat} (h : BegI L L.length T n sz) : ¬ Odd L := by
  rintro ⟨r, s, h1, h2, h3⟩
  exact h3 (by rw [h.same r (presT_lt h1) h1, h.same s (presT_lt h2) h2])
theorem or_bit (T i : Nat) (h : T < 2 ^ i) (hi : i < 32) : ∃ T' : Nat, bits BinOp.or IntKind.u32 (T : Int) (IntKind.u32.wrap (2 ^ i)) = (T' : Int) ∧ T' < 2 ^ (i + 1) ∧ ∀ r, T'.testBit r = (T.testBit r || decide (r = i)) := by
  have hp : 2 ^ i < 2 ^ 32 := Nat.pow_lt_pow_right (by decide) hi
  have e0 : IntKind.u32.wrap (2 ^ i) = ((2 ^ i : Nat) : Int) := by
    rw [show (2 : Int) ^ i = ((2 ^ i : Nat) : Int) by rw [Int.natCast_pow]; rfl, wrap_u32']
    obtain ⟨q, hq⟩ : ∃ q, q = 2 ^ i := ⟨_, rfl⟩
    rw [← hq] at hp ⊢
    omega
  have h1 : BitVec.ofInt 32 (T : Int) = BitVec.ofNat 32 T := by rw [BitVec.ofInt_natCast]
  have h2 : BitVec.ofInt 32 ((2 ^ i : Nat) : Int) = BitVec.ofNat 32 (2 ^ i) := by rw [BitVec.ofInt_natCast]
  have hlt : T ||| 2 ^ i < 2 ^ (i + 1) := Nat.or_lt_two_pow (Nat.lt_trans h (Nat.pow_lt_pow_right (by decide) (by omega))) (Nat.pow_lt_pow_right (by decide) (by omega))
  have hlt32 : T ||| 2 ^ i < 2 ^ 32 := Nat.lt_of_lt_of_le hlt (Nat.pow_le_pow_right (by decide) (by omega))
  have hT32 : T < 2 ^ 32 := Nat.lt_trans h hp
  refine ⟨T ||| 2 ^ i, ?_, hlt, fun r => ?_⟩
  · rw [e0]
    show IntKind.u32.wrap ((BitVec.ofInt 32 (T : Int) ||| BitVec.ofInt 32 ((2 ^ i : Nat) : Int)).toNat : Int) = _
    rw [h1, h2, BitVec.toNat_or, BitVec.toNat_ofNat, BitVec.toNat_ofNat, Nat.mod_eq_of_lt hT32, Nat.mod_eq_of_lt hp, wrap_u32']
    obtain ⟨q, hq⟩ : ∃ q, q = T ||| 2 ^ i := ⟨_, rfl⟩
    rw [← hq] at hlt32 ⊢
    omega
  · rw [Nat.testBit_or, Nat.testBit_two_pow]
    congr 1
    by_cases e : i = r
    · subst e; simp
    · have : ¬ r = i := fun h => e h.symm
      simp [e, this]
end Go.Proofs.YtmeckdgigjjjbaaDoor

namespace Go.Proofs.YtmeckdgigjjjbaaDoor
open Go Go.RowKit Go.WideMaps

theorem A14 : ArrKey Tryd.prog 76 4 14 := ⟨Tryd.underlying76, by kernel_rfl, by kernel_rfl, by kernel_rfl⟩
/-- A key: fourteen truths. -/
def keyV (f : Nat → Bool) : Value := .agg #[.bool (f 0), .bool (f 1), .bool (f 2), .bool (f 3), .bool (f 4), .bool (f 5), .bool (f 6), .bool (f 7), .bool (f 8), .bool (f 9), .bool (f 10), .bool (f 11), .bool (f 12), .bool (f 13)]
theorem key_some (b0 b1 b2 b3 b4 b5 b6 b7 b8 b9 b10 b11 b12 b13 : Bool) : (keyOf Tryd.prog 76 (.agg #[.bool b0, .bool b1, .bool b2, .bool b3, .bool b4, .bool b5, .bool b6, .bool b7, .bool b8, .bool b9, .bool b10, .bool b11, .bool b12, .bool b13])).isSome = true := by kernel_rfl
theorem key_ok (f : Nat → Bool) : ∃ l, keyOf Tryd.prog 76 (keyV f) = some l := Option.isSome_iff_exists.1 (key_some _ _ _ _ _ _ _ _ _ _ _ _ _ _)
theorem keyV_inj {f g : Nat → Bool} (h : keyV f = keyV g) : ∀ i, i < 14 → f i = g i := by
  unfold keyV at h
  simp only [Value.agg.injEq, Array.mk.injEq, List.cons.injEq, Value.bool.injEq, and_true] at h
  intro i hi
  match i, hi with
  | 0, _ => exact h.1
  | 1, _ => exact h.2.1
  | 2, _ => exact h.2.2.1
  | 3, _ => exact h.2.2.2.1
  | 4, _ => exact h.2.2.2.2.1
  | 5, _ => exact h.2.2.2.2.2.1
  | 6, _ => exact h.2.2.2.2.2.2.1
  | 7, _ => exact h.2.2.2.2.2.2.2.1
  | 8, _ => exact h.2.2.2.2.2.2.2.2.1
  | 9, _ => exact h.2.2.2.2.2.2.2.2.2.1
  | 10, _ => exact h.2.2.2.2.2.2.2.2.2.2.1
  | 11, _ => exact h.2.2.2.2.2.2.2.2.2.2.2.1
  | 12, _ => exact h.2.2.2.2.2.2.2.2.2.2.2.2.1
  | 13, _ => exact h.2.2.2.2.2.2.2.2.2.2.2.2.2
def setL (f : Nat → Bool) (N : Nat) : List Nat := (List.range N).filter f
theorem setL_congr {f g : Nat → Bool} {N : Nat} (h : ∀ i, i < N → f i = g i) : setL f N = setL g N := by
  unfold setL
  exact List.filter_congr fun i hi => h i (List.mem_range.1 hi)
/-- An entry: the inverse of the rows of its key. -/
def EntOk (W : World) (k m : Nat) (x : MapEntry) : Prop := ∃ f : Nat → Bool, x.key = keyV f ∧ ∃ a c, x.val = .slice a k c ∧ RdLL W a c (invM (pickM k m (setL f (k + m))))
def MapI (W : World) (b k m : Nat) : Prop := ∃ es clock, W.heap[b]? = some (.map es clock) ∧ ∀ x ∈ es.toList, EntOk W k m x
theorem EntOk.kept {W W' : World} {k m : Nat} {x : MapEntry} (h : EntOk W k m x) (hb : Below W.heap.size W W') : EntOk W' k m x := by
  obtain ⟨f, h1, a, c, h2, h3⟩ := h
  exact ⟨f, h1, a, c, h2, h3.kept hb⟩
theorem MapI.keys {W : World} {k m : Nat} {es : Array MapEntry} (h : ∀ x ∈ es.toList, EntOk W k m x) : ∀ x ∈ es.toList, ∃ l, keyOf Tryd.prog 76 x.key = some l := fun x hx => by
  obtain ⟨f, h1, _⟩ := h x hx
  rw [h1]; exact key_ok f
/-- What a look-up finds: the pieces that the walk wants. -/
theorem MapI.find {W : World} {b k m : Nat} (hkm : k + m ≤ 14) (h : MapI W b k m) (f : Nat → Bool) :
    ∃ es clock, W.heap[b]? = some (.map es clock) ∧ (∀ x ∈ es.toList, EntOk W k m x) ∧ (∀ em, (Instr.checkKey em 10000 76 (keyV f)).run Tryd.prog W = .ok () W) ∧
      (((Instr.findKey 76 (keyV f) es.toList).run Tryd.prog W = .ok none W) ∨
       ∃ j a c, (Instr.findKey 76 (keyV f) es.toList).run Tryd.prog W = .ok (some (j, .slice a k c)) W ∧ RdLL W a c (invM (pickM k m (setL f (k + m))))) := by
  obtain ⟨es, clock, hb, he⟩ := h
  obtain ⟨l, hl⟩ := key_ok f
  refine ⟨es, clock, hb, he, fun em => A14.law.check W em hl, ?_⟩
  rcases A14.law.find W hl es.toList (MapI.keys he) with ⟨h1, _⟩ | ⟨j, e0, h1, h2, h3⟩
  · exact .inl h1
  · obtain ⟨g, h4, a, c, h5, h6⟩ := he e0 (List.mem_of_getElem? h2)
    refine .inr ⟨j, a, c, by rw [← h5]; exact h1, ?_⟩
    rw [setL_congr (f := f) (g := g) (fun i hi => keyV_inj (h3.symm.trans h4) i (by omega))]
    exact h6
end Go.Proofs.YtmeckdgigjjjbaaDoor

namespace Go.Proofs.YtmeckdgigjjjbaaDoor
open Go Go.RowKit Go.WideMaps Go.ChangeMaps

theorem mapT : Tryd.prog.underlying 60 = some (.map 76 22) := by kernel_rfl
theorem MapI.lt {W : World} {b k m : Nat} (h : MapI W b k m) : b < W.heap.size := by
  obtain ⟨es, clock, hb, _⟩ := h
  exact (Array.getElem?_eq_some_iff.1 hb).1
theorem MapI.kept {W W' : World} {b k m : Nat} (h : MapI W b k m) (hb : Below W.heap.size W W') : MapI W' b k m := by
  have hlt := h.lt
  obtain ⟨es, clock, h1, h2⟩ := h
  exact ⟨es, clock, by rw [hb.block b hlt]; exact h1, fun x hx => (h2 x hx).kept hb⟩
/-- 'v, ok := m[k]'. -/
theorem MapI.look {W : World} {b k m : Nat} (hkm : k + m ≤ 14) (h : MapI W b k m) (f : Nat → Bool) :
    ((Instr.lookup 60 (.map (some b)) (keyV f) true).run Tryd.prog W = .ok (.tuple #[.slice none 0 0, .bool false]) W) ∨
    ∃ a c, (Instr.lookup 60 (.map (some b)) (keyV f) true).run Tryd.prog W = .ok (.tuple #[.slice a k c, .bool true]) W ∧ RdLL W a c (invM (pickM k m (setL f (k + m)))) := by
  obtain ⟨es, clock, hb, _, hc, h1⟩ := h.find hkm f
  have hz : (zeroValue 22).run Tryd.prog W = .ok (.slice none 0 0) W := by
    kernel_rfl
  rcases h1 with h1 | ⟨j, a, c, h1, h2⟩
  · exact .inl (by simp [Instr.lookup, run_underlying mapT, MapKept.run_getObj_map hb, hc, h1, hz, Result.andThen])
  · exact .inr ⟨a, c, by simp [Instr.lookup, run_underlying mapT, MapKept.run_getObj_map hb, hc, h1, Result.andThen], h2⟩
/-- Cells stand where a map's block is written. -/
theorem cell_setMap {W : World} {b : Nat} {es es' : Array MapEntry} {c c' : Nat} (hb : W.heap[b]? = some (.map es c)) {p : Addr} {u : Value} (h : W.cell? p = some u) : (setBlock W b (.map es' c')).cell? p = some u := by
  have hne : p.block ≠ b := by
    intro e
    subst e
    simp [World.cell?, hb] at h
  unfold World.cell? at h ⊢
  rw [heap_setBlock_other hb _ hne]
  exact h
theorem Rd.setMap {W : World} {b : Nat} {es es' : Array MapEntry} {k k' : Nat} (hb : W.heap[b]? = some (.map es k)) {a : Option Addr} {c : Nat} {xs : List Value} (h : Rd W a c xs) : Rd (setBlock W b (.map es' k')) a c xs := by
  refine ⟨h.1, h.2.1, h.2.2.1, fun j u hu => ?_⟩
  obtain ⟨b0, o, h1, h2⟩ := h.cs j u hu
  exact ⟨b0, o, h1, cell_setMap hb h2⟩
theorem RdLL.setMap {W : World} {b : Nat} {es es' : Array MapEntry} {k k' : Nat} (hb : W.heap[b]? = some (.map es k)) {a : Option Addr} {c : Nat} {L : Mx} (h : RdLL W a c L) : RdLL (setBlock W b (.map es' k')) a c L := by
  obtain ⟨vs, h1, h2, h3⟩ := h
  refine ⟨vs, h1.setMap hb, h2, fun i l hl => ?_⟩
  obtain ⟨ad, cd, h4, h5⟩ := h3 i l hl
  exact ⟨ad, cd, h4, h5.setMap hb⟩
theorem below_setMap {W : World} {b : Nat} {es es' : Array MapEntry} {c c' : Nat} (hb : W.heap[b]? = some (.map es c)) {B : Nat} {w0 : World} (h : Below B w0 W) (hB : B ≤ b) : Below B w0 (setBlock W b (.map es' c')) := by
  have hlt := (Array.getElem?_eq_some_iff.1 hb).1
  refine h.trans (below_grown (World.mapTurned.grown ⟨es, c, es', c', hb, rfl⟩) (by omega) (fun k hk => ?_))
  cases hk; exact hB
/-- 'm[k] = v'. -/
theorem MapI.put {W : World} {b k m : Nat} (h : MapI W b k m) (f : Nat → Bool) (a : Option Addr) (c : Nat) (hr : RdLL W a c (invM (pickM k m (setL f (k + m))))) :
    ∃ es' clock' es clock, W.heap[b]? = some (.map es clock) ∧ (Instr.mapUpdate 60 (.map (some b)) (keyV f) (.slice a k c)).run Tryd.prog W = .ok () (setBlock W b (.map es' clock')) ∧ MapI (setBlock W b (.map es' clock')) b k m := by
  obtain ⟨es, clock, hb, he⟩ := h
  obtain ⟨l, hl⟩ := key_ok f
  have hc : ∀ em, (Instr.checkKey em 10000 76 (keyV f)).run Tryd.prog W = .ok () W := fun em => A14.law.check W em hl
  have hold : ∀ {es' : Array MapEntry} {c' : Nat}, ∀ x, EntOk W k m x → EntOk (setBlock W b (.map es' c')) k m x := fun x ⟨g, h1, a', c', h2, h3⟩ => ⟨g, h1, a', c', h2, h3.setMap hb⟩
  have hnew : ∀ {es' : Array MapEntry} {c' : Nat} (born : Nat), EntOk (setBlock W b (.map es' c')) k m ⟨keyV f, .slice a k c, born⟩ := fun born => ⟨f, rfl, a, c, rfl, hr.setMap hb⟩
  rcases A14.law.find W hl es.toList (MapI.keys he) with ⟨h1, _⟩ | ⟨j, e0, h1, h2, h3⟩
  · refine ⟨es.push ⟨keyV f, .slice a k c, clock⟩, clock + 1, es, clock, hb, by simp [Instr.mapUpdate, run_underlying mapT, MapKept.run_getObj_map hb, hc, h1, MapKept.run_setObj_map _ hb, Result.andThen, setBlock], _, _, heap_setBlock_same hb _, fun x hx => ?_⟩
    simp only [Array.toList_push, List.mem_append, List.mem_singleton] at hx
    rcases hx with hx | rfl
    · exact hold x (he x hx)
    · exact hnew _
  · have hj : es[j]? = some e0 := by simpa using h2
    refine ⟨es.modify j (fun e' => { e' with key := keyV f, val := .slice a k c }), clock, es, clock, hb, by simp [Instr.mapUpdate, run_underlying mapT, MapKept.run_getObj_map hb, hc, h1, hj, h3, A14.law.stays W hl, MapKept.run_setObj_map _ hb, Result.andThen, setBlock], _, _, heap_setBlock_same hb _, fun x hx => ?_⟩
    rw [Array.toList_modify, modify_eq_set _ _ _ _ h2] at hx
    rcases List.mem_or_eq_of_mem_set hx with hx | rfl
    · exact hold x (he x hx)
    · exact hnew _
end Go.Proofs.YtmeckdgigjjjbaaDoor
