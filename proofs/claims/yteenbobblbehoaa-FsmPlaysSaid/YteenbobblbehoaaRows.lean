/-
  No cell of these rows narrows 'for every input' (looked for: loops, veiled, ifaces, maps, wideKeys, modest, calm, conditions, laid).
  DERIVED. THE GIVEN ROWS OF THIS SEAT. 5 by the template 'for every input the law returns true; each argument reads behind the call as it read before'; 0 by the template 'total and deterministic' (their statements: YteenbobblbehoaaTotals.lean).
  GIVEN WITH THE SEED: the statements are not yours to turn. If you find one false, say at which input.
  Laid BY PROGRAM, IN A SANDBOX (cutbox-rows.mjs): the forced cells as the released guide's own fill.sh prints them over the translation e1abfda9838128c3… (all of the seat's roots in one cut). By AI agents, Wed Nov 11 2026. No macro, syntax, notation, axiom, sorry.
-/
import Derived.Test.YteenbobblbehoaaChecked
import GoSem.Claim
import GoSem.ClaimJoined
import GoSem.ClaimMapViews
import Derived.JoinedTies
import Derived.KernelRfl
namespace Go.Proofs.Yteenbobblbehoaa
/- THE CELL 'sum', in the pinned program and in every row, IS THE sha256 OF THE DUMP (.gsa) THAT YteenbobblbehoaaProg.lean LOADS. Nothing in Lean hashes anything: it is a label: what it is worth is what the hold of that sum in a sandbox is worth. -/
noncomputable def Try.pinned : Pinned := { name := "yteenbobblbehoaa", sum := "e1abfda9838128c39cff1ed188f3d69796a24a9bab7118f213ee17099e6017ea", checked := Try.checked }
namespace Rows
def none {H : Type} : Left H := { results := [], args := [] }

/-- 'garnerlaw18.FsmTwins': WHATEVER THE INPUT: true; the input reads as it did. -/
def fsmTwinsSpec : ChangeSpec := { name := "fsmTwins", fn := fun _ => fun
  | [d] => { results := [.lit (.bool true)], args := [d] }
  | _ => none }
def fsmTwinsRow : OpenClaim := { program := "yteenbobblbehoaa", sum := "e1abfda9838128c39cff1ed188f3d69796a24a9bab7118f213ee17099e6017ea", func := "garner/garnerlaw18.FsmTwins", spec := "fsmTwins", unfollowed := true, recurses := true, apart := false }
def FsmTwinsSaid : Prop := fsmTwinsRow.holds Try.pinned (OpenSpec.ofChange fsmTwinsSpec)

/-- ITS FALSE NEIGHBOUR: 'it returns false'. Refute it at one input. -/
def fsmTwinsWrong : ChangeSpec := { name := "fsmTwins", fn := fun _ => fun
  | [d] => { results := [.lit (.bool false)], args := [d] }
  | _ => none }
def FsmTwinsWrongFalsely : Prop := fsmTwinsRow.holds Try.pinned (OpenSpec.ofChange fsmTwinsWrong)

/-- 'garnerlaw18.FsmOfNothing': WHATEVER THE INPUT: true; the input reads as it did. -/
def fsmOfNothingSpec : ChangeSpec := { name := "fsmOfNothing", fn := fun _ => fun
  | [d1, d2] => { results := [.lit (.bool true)], args := [d1, d2] }
  | _ => none }
def fsmOfNothingRow : OpenClaim := { program := "yteenbobblbehoaa", sum := "e1abfda9838128c39cff1ed188f3d69796a24a9bab7118f213ee17099e6017ea", func := "garner/garnerlaw18.FsmOfNothing", spec := "fsmOfNothing", unfollowed := true, recurses := true, apart := false }
def FsmOfNothingSaid : Prop := fsmOfNothingRow.holds Try.pinned (OpenSpec.ofChange fsmOfNothingSpec)

/-- ITS FALSE NEIGHBOUR: 'it returns false'. Refute it at one input. -/
def fsmOfNothingWrong : ChangeSpec := { name := "fsmOfNothing", fn := fun _ => fun
  | [d1, d2] => { results := [.lit (.bool false)], args := [d1, d2] }
  | _ => none }
def FsmOfNothingWrongFalsely : Prop := fsmOfNothingRow.holds Try.pinned (OpenSpec.ofChange fsmOfNothingWrong)

/-- 'garnerlaw18.FsmOnce': WHATEVER THE INPUT: true; the input reads as it did. -/
def fsmOnceSpec : ChangeSpec := { name := "fsmOnce", fn := fun _ => fun
  | [d1, d2] => { results := [.lit (.bool true)], args := [d1, d2] }
  | _ => none }
def fsmOnceRow : OpenClaim := { program := "yteenbobblbehoaa", sum := "e1abfda9838128c39cff1ed188f3d69796a24a9bab7118f213ee17099e6017ea", func := "garner/garnerlaw18.FsmOnce", spec := "fsmOnce", unfollowed := true, recurses := true, apart := false }
def FsmOnceSaid : Prop := fsmOnceRow.holds Try.pinned (OpenSpec.ofChange fsmOnceSpec)

/-- ITS FALSE NEIGHBOUR: 'it returns false'. Refute it at one input. -/
def fsmOnceWrong : ChangeSpec := { name := "fsmOnce", fn := fun _ => fun
  | [d1, d2] => { results := [.lit (.bool false)], args := [d1, d2] }
  | _ => none }
def FsmOnceWrongFalsely : Prop := fsmOnceRow.holds Try.pinned (OpenSpec.ofChange fsmOnceWrong)

/-- 'garnerlaw18.FsmGrows': WHATEVER THE INPUT: true; the input reads as it did. -/
def fsmGrowsSpec : ChangeSpec := { name := "fsmGrows", fn := fun _ => fun
  | [d] => { results := [.lit (.bool true)], args := [d] }
  | _ => none }
def fsmGrowsRow : OpenClaim := { program := "yteenbobblbehoaa", sum := "e1abfda9838128c39cff1ed188f3d69796a24a9bab7118f213ee17099e6017ea", func := "garner/garnerlaw18.FsmGrows", spec := "fsmGrows", unfollowed := true, recurses := true, apart := false }
def FsmGrowsSaid : Prop := fsmGrowsRow.holds Try.pinned (OpenSpec.ofChange fsmGrowsSpec)

/-- ITS FALSE NEIGHBOUR: 'it returns false'. Refute it at one input. -/
def fsmGrowsWrong : ChangeSpec := { name := "fsmGrows", fn := fun _ => fun
  | [d] => { results := [.lit (.bool false)], args := [d] }
  | _ => none }
def FsmGrowsWrongFalsely : Prop := fsmGrowsRow.holds Try.pinned (OpenSpec.ofChange fsmGrowsWrong)

/-- 'garnerlaw18.FsmPlays': WHATEVER THE INPUT: true; the input reads as it did. -/
def fsmPlaysSpec : ChangeSpec := { name := "fsmPlays", fn := fun _ => fun
  | [d] => { results := [.lit (.bool true)], args := [d] }
  | _ => none }
def fsmPlaysRow : OpenClaim := { program := "yteenbobblbehoaa", sum := "e1abfda9838128c39cff1ed188f3d69796a24a9bab7118f213ee17099e6017ea", func := "garner/garnerlaw18.FsmPlays", spec := "fsmPlays", unfollowed := true, recurses := true, apart := false }
def FsmPlaysSaid : Prop := fsmPlaysRow.holds Try.pinned (OpenSpec.ofChange fsmPlaysSpec)

/-- ITS FALSE NEIGHBOUR: 'it returns false'. Refute it at one input. -/
def fsmPlaysWrong : ChangeSpec := { name := "fsmPlays", fn := fun _ => fun
  | [d] => { results := [.lit (.bool false)], args := [d] }
  | _ => none }
def FsmPlaysWrongFalsely : Prop := fsmPlaysRow.holds Try.pinned (OpenSpec.ofChange fsmPlaysWrong)

/- THE SECOND FORM. 'bulk': how many values and letters a reading holds, each counted each time it is reached (what is shared counts as often as it is met; a slice's spare places count too). A statement '..UptoSaid' is the law's where the arguments, and the package variables that the reading takes, are together of bulk at most 1048576: NARROWER than '..Said'. Prove '..Said' where nothing that the law and all that it calls make is longer than what came in: it says more and counts as full. Else prove '..UptoSaid'. A law counts once. -/
mutual
def uptoBulk {H : Type} : DataW H → Nat
  | .lit (.string bytes) => bytes.length + 1
  | .lit _ => 1
  | .nil => 1
  | .ptr d => uptoBulk d + 1
  | .slice elems spare => uptoBulkAll elems + uptoBulkAll spare + 1
  | .agg parts => uptoBulkAll parts + 1
  | .iface _ d => uptoBulk d + 1
  | .map entries => uptoBulkEntries entries + 1
  | .held _ => 1
def uptoBulkAll {H : Type} : List (DataW H) → Nat
  | [] => 0
  | d :: r => uptoBulk d + uptoBulkAll r
def uptoBulkEntries {H : Type} : List (Lit × DataW H) → Nat
  | [] => 0
  | x :: r => uptoBulkEntry x + uptoBulkEntries r
def uptoBulkEntry {H : Type} : Lit × DataW H → Nat
  | (.string bytes, d) => bytes.length + uptoBulk d + 1
  | (_, d) => uptoBulk d + 1
 end
def uptoSmall : (H : Type) → List (DataW H) → Bool := fun _ ds => decide (uptoBulkAll ds ≤ 1048576)
def OpenSpec.upto (s : _root_.Go.ChangeSpec) : _root_.Go.OpenSpec := { _root_.Go.OpenSpec.ofChange s with cond := some uptoSmall }

/-- 'garnerlaw18.FsmTwins', WHERE WHAT IT READS IS OF BULK AT MOST 1048576: true; the input reads as it did. -/
def fsmTwinsUptoRow : OpenClaim := { program := "yteenbobblbehoaa", sum := "e1abfda9838128c39cff1ed188f3d69796a24a9bab7118f213ee17099e6017ea", func := "garner/garnerlaw18.FsmTwins", spec := "fsmTwins", unfollowed := true, recurses := true, apart := false, narrowed := true }
def FsmTwinsUptoSaid : Prop := fsmTwinsUptoRow.holds Try.pinned (OpenSpec.upto fsmTwinsSpec)

/-- 'garnerlaw18.FsmOfNothing', WHERE WHAT IT READS IS OF BULK AT MOST 1048576: true; the input reads as it did. -/
def fsmOfNothingUptoRow : OpenClaim := { program := "yteenbobblbehoaa", sum := "e1abfda9838128c39cff1ed188f3d69796a24a9bab7118f213ee17099e6017ea", func := "garner/garnerlaw18.FsmOfNothing", spec := "fsmOfNothing", unfollowed := true, recurses := true, apart := false, narrowed := true }
def FsmOfNothingUptoSaid : Prop := fsmOfNothingUptoRow.holds Try.pinned (OpenSpec.upto fsmOfNothingSpec)

/-- 'garnerlaw18.FsmOnce', WHERE WHAT IT READS IS OF BULK AT MOST 1048576: true; the input reads as it did. -/
def fsmOnceUptoRow : OpenClaim := { program := "yteenbobblbehoaa", sum := "e1abfda9838128c39cff1ed188f3d69796a24a9bab7118f213ee17099e6017ea", func := "garner/garnerlaw18.FsmOnce", spec := "fsmOnce", unfollowed := true, recurses := true, apart := false, narrowed := true }
def FsmOnceUptoSaid : Prop := fsmOnceUptoRow.holds Try.pinned (OpenSpec.upto fsmOnceSpec)

/-- 'garnerlaw18.FsmGrows', WHERE WHAT IT READS IS OF BULK AT MOST 1048576: true; the input reads as it did. -/
def fsmGrowsUptoRow : OpenClaim := { program := "yteenbobblbehoaa", sum := "e1abfda9838128c39cff1ed188f3d69796a24a9bab7118f213ee17099e6017ea", func := "garner/garnerlaw18.FsmGrows", spec := "fsmGrows", unfollowed := true, recurses := true, apart := false, narrowed := true }
def FsmGrowsUptoSaid : Prop := fsmGrowsUptoRow.holds Try.pinned (OpenSpec.upto fsmGrowsSpec)

/-- 'garnerlaw18.FsmPlays', WHERE WHAT IT READS IS OF BULK AT MOST 1048576: true; the input reads as it did. -/
def fsmPlaysUptoRow : OpenClaim := { program := "yteenbobblbehoaa", sum := "e1abfda9838128c39cff1ed188f3d69796a24a9bab7118f213ee17099e6017ea", func := "garner/garnerlaw18.FsmPlays", spec := "fsmPlays", unfollowed := true, recurses := true, apart := false, narrowed := true }
def FsmPlaysUptoSaid : Prop := fsmPlaysUptoRow.holds Try.pinned (OpenSpec.upto fsmPlaysSpec)

end Rows
end Go.Proofs.Yteenbobblbehoaa
