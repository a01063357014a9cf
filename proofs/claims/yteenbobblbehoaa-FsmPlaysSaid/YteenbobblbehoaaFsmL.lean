/- What a table's commands do, in plain Lean. Conditions: none. -/
import Derived.Test.YteenbobblbehoaaFsmMem
import Derived.Test.YteenbobblbehoaaCookie
namespace Go.Proofs.Yteenbobblbehoaa
open Go Go.RowKit

/-- Nodes, none twice (a digit for each that was met). -/
def diffF : List Int → UInt64 → Bool
  | [], m => m != 0
  | n :: l, m => if n < -1 then false else if 64 ≤ n then false else if n = -1 then diffF l m else if (m >>> UInt64.ofNat n.toNat) &&& 1 = 1 then false else diffF l (m ||| (1 <<< UInt64.ofNat n.toNat))
def hasF (n : Int) : List Int → Bool
  | [] => false
  | x :: l => if n = x then true else hasF n l
theorem hasF_iff (n : Int) : ∀ l : List Int, hasF n l = true ↔ n ∈ l
  | [] => by simp [hasF]
  | x :: l => by
    unfold hasF
    split
    · simp_all
    · rw [hasF_iff n l]; simp_all
/-- A volume's row. -/
def ofL (L : List Vl) (id : Int) : Option Vl := if 1 ≤ id then L[(id - 1).toNat]? else none
def growL (L : List Vl) (nodes : List Int) : (List Int × Nat) × List Vl :=
  if diffF nodes 0 = false ∨ hasF (-1) nodes = true then (([], 1), L) else if 4096 ≤ L.length then (([], 17), L) else (([(L.length : Int) + 1], 0), L ++ [⟨0, 1, nodes, false, 1⟩])
def ckI (id key salt : Int) : Int := ((ck id (UInt64.ofNat (key % 18446744073709551616).toNat) (UInt32.ofNat (salt % 4294967296).toNat)).toNat : Int)
def setL (L : List Vl) (id : Int) (V : Vl) : List Vl := L.set (id - 1).toNat V
def assignL (L : List Vl) (id salt : Int) : (List Int × Nat) × List Vl :=
  match ofL L id with
  | none => (([], 7), L)
  | some V => if V.st ≠ 0 then (([], 11), L) else if V.fr = true then (([], 12), L) else if 1099511627776 < V.key then (([], 17), L) else
    (([id, V.key, ckI id V.key salt, V.ep] ++ V.nodes, 0), setL L id { V with key := V.key + 1 })
def oneI (b : Bool) : Int := if b then 1 else 0
def lookL (L : List Vl) (id : Int) : List Int × Nat :=
  match ofL L id with
  | none => ([], 7)
  | some V => ([id, V.st, V.ep, oneI V.fr] ++ V.nodes, 0)
def keepF (V : Vl) : Nat → List Int → Bool
  | _, [] => true
  | i, n :: l => if n = -1 then keepF V (i + 1) l else if V.st = 2 ∧ V.nodes[i]? ≠ some n then false else if hasF n V.nodes = false then false else keepF V (i + 1) l
def keepsB (V : Vl) (st : Int) (nodes : List Int) : Bool := if st ≠ V.st ∧ (V.st ≠ 0 ∨ st ≠ 1) then false else keepF V 0 nodes
def changeL (L : List Vl) (id ep st : Int) (nodes : List Int) (fr : Bool) : (List Int × Nat) × List Vl :=
  match ofL L id with
  | none => (([], 7), L)
  | some V => if ep ≠ V.ep ∨ (fr = false ∧ V.fr = false) then (([], 12), L) else if 2147483646 < V.ep then (([], 17), L) else
    if st < V.st ∨ 2 < st ∨ diffF nodes 0 = false ∨ (st ≠ 2 ∧ hasF (-1) nodes = true) then (([], 1), L) else if fr = true ∧ keepsB V st nodes = false then (([], 1), L) else
      (([V.ep + 1], 0), setL L id ⟨st, V.ep + 1, nodes, fr, V.key⟩)
def mayB (kd : Int) (n : Nat) : Bool := if kd = 1 then n == 0 else if kd = 2 then true else if kd = 3 then n == 2 else if kd = 4 then n == 1 else if kd = 5 ∨ kd = 6 then decide (3 ≤ n) else false
/-- A volume as it may be. -/
def OkV (V : Vl) : Prop := 0 ≤ V.st ∧ V.st ≤ 2 ∧ 1 ≤ V.ep ∧ V.ep ≤ 2147483647 ∧ 1 ≤ V.key ∧ V.key ≤ 1099511627777 ∧ V.nodes.length ≤ 64 ∧ ∀ n ∈ V.nodes, -1 ≤ n ∧ n < 64
def OkL (L : List Vl) : Prop := ∀ V ∈ L, OkV V
/-- What a command of such numbers does. -/
def opL (L : List Vl) (kd : Int) (l : List Int) : (List Int × Nat) × List Vl :=
  if kd = 1 then (([], 0), L) else if kd = 2 then growL L l else if kd = 3 then assignL L (l.getD 0 0) (l.getD 1 0) else if kd = 4 then (lookL L (l.getD 0 0), L) else
    changeL L (l.getD 0 0) (l.getD 1 0) (l.getD 2 0) (l.drop 3) (kd == 5)
/-- What a call gives: numbers of its own, a table out of F and of blocks that are new. -/
def NewF (F : Nat → Prop) (w : World) (a : Option Addr) (k : Nat) : Prop := F k ∨ (w.heap.size ≤ k ∧ ∀ o, a ≠ some ⟨k, o, none⟩)
def AnsP (w : World) (F : Nat → Prop) (t : Nat) (X : (List Int × Nat) × List Vl) (e : Ending) (w' : World) : Prop :=
  ∃ a c, e = .returned (.tuple #[.slice a X.1.1.length c, .int .i64 (X.1.2 : Int)]) ∧ w'.ownsRow w.heap.size 3 1 (.slice a X.1.1.length c) X.1.1.length (BI X.1.1) ∧ TabI w' (NewF F w a) t X.2 ∧ Off F w w'
theorem AnsP.no {w w' : World} {F : Nat → Prop} {t : Nat} {L : List Vl} (k : Nat) (h : TabI w F t L) (hb : Below w.heap.size w w') : AnsP w F t (([], k), L) (.returned (.tuple #[.slice none 0 0, .int .i64 (k : Int)])) w' :=
  ⟨none, 0, rfl, World.ownsRow_nil _ _ _ _, (h.kept hb).mono fun _ h _ => .inl h, Off.ofBelow hb⟩
end Go.Proofs.Yteenbobblbehoaa
