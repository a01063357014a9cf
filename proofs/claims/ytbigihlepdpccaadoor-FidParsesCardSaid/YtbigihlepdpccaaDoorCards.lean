/-
  DERIVED. GIVEN WITH THE SEED: THE CARDS: each row of YtbigihlepdpccaaDoorRows.lean that lists a variable, with what it lists TIED to the program's text (the seventh form; the later family's looks); each row that meets fmt, with fmt's text TOLD by the authors' own Lean function (tested against real Go, not proved from fmt's source: count such statements apart). THE CARD IS WHAT COUNTS. Prove the row's statement (the work); the ties are given (YtbigihlepdpccaaDoorTie.lean); close each card by the builder's one call (the guide's Derived/Test/ToyasCard.lean, 'card_holds'). Laid BY PROGRAM, IN A SANDBOX (cutbox-door.mjs). By AI agents, Wed Nov 11 2026. No macro, syntax, notation, axiom, sorry.
-/
import Derived.Test.YtbigihlepdpccaaDoorRows
import GoSem.ClaimSeven
namespace Go.Proofs.YtbigihlepdpccaaDoor
namespace Rows

/-- THE TIED CARD OF 'garnerlaw15.FidTexts'. -/
def fidTextsCard : Claim7 := { stood := { row := fidTextsRow, standIns := [], harness := (true, "1b6073d0e7a0d8b57105af23d329bca94afede6a73925a569388f20e5b71a4c9"), looks := false }, kinds := [], alts := [], laidByText := true, laidKinds := [.data, .pinned], laidTests := true, laidLooks := .later }
def FidTextsCardSaid : Prop := Claim7.holds Tryd.pinned (.plain (OpenSpec.ofChange fidTextsSpec)) fidTextsCard

/-- THE TIED CARD OF 'garnerlaw15.FidParses'. -/
def fidParsesCard : Claim7 := { stood := { row := fidParsesRow, standIns := [], harness := (true, "1b6073d0e7a0d8b57105af23d329bca94afede6a73925a569388f20e5b71a4c9"), looks := false }, kinds := [], alts := [], laidByText := true, laidKinds := [.data, .pinned], laidTests := true, laidLooks := .later }
def FidParsesCardSaid : Prop := Claim7.holds Tryd.pinned (.plain (OpenSpec.ofChange fidParsesSpec)) fidParsesCard

/-- THE TIED CARD OF 'garnerlaw15.FidTurned'. -/
def fidTurnedCard : Claim7 := { stood := { row := fidTurnedRow, standIns := [], harness := (true, "1b6073d0e7a0d8b57105af23d329bca94afede6a73925a569388f20e5b71a4c9"), looks := false }, kinds := [], alts := [], laidByText := true, laidKinds := [.data, .pinned], laidTests := true, laidLooks := .later }
def FidTurnedCardSaid : Prop := Claim7.holds Tryd.pinned (.plain (OpenSpec.ofChange fidTurnedSpec)) fidTurnedCard

/-- THE SECOND FORM's CARD OF 'garnerlaw15.FidTexts'. -/
def fidTextsUptoCard : Claim7 := { stood := { row := fidTextsUptoRow, standIns := [], harness := (true, "1b6073d0e7a0d8b57105af23d329bca94afede6a73925a569388f20e5b71a4c9"), looks := false }, kinds := [], alts := [], laidByText := true, laidKinds := [.data, .pinned], laidTests := true, laidLooks := .later }
def FidTextsUptoCardSaid : Prop := Claim7.holds Tryd.pinned (.plain (OpenSpec.upto fidTextsSpec)) fidTextsUptoCard

/-- THE SECOND FORM's CARD OF 'garnerlaw15.FidParses'. -/
def fidParsesUptoCard : Claim7 := { stood := { row := fidParsesUptoRow, standIns := [], harness := (true, "1b6073d0e7a0d8b57105af23d329bca94afede6a73925a569388f20e5b71a4c9"), looks := false }, kinds := [], alts := [], laidByText := true, laidKinds := [.data, .pinned], laidTests := true, laidLooks := .later }
def FidParsesUptoCardSaid : Prop := Claim7.holds Tryd.pinned (.plain (OpenSpec.upto fidParsesSpec)) fidParsesUptoCard

/-- THE SECOND FORM's CARD OF 'garnerlaw15.FidTurned'. -/
def fidTurnedUptoCard : Claim7 := { stood := { row := fidTurnedUptoRow, standIns := [], harness := (true, "1b6073d0e7a0d8b57105af23d329bca94afede6a73925a569388f20e5b71a4c9"), looks := false }, kinds := [], alts := [], laidByText := true, laidKinds := [.data, .pinned], laidTests := true, laidLooks := .later }
def FidTurnedUptoCardSaid : Prop := Claim7.holds Tryd.pinned (.plain (OpenSpec.upto fidTurnedSpec)) fidTurnedUptoCard
end Rows
end Go.Proofs.YtbigihlepdpccaaDoor
