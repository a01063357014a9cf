/-
  DERIVED. GIVEN WITH THE SEED: THE CARDS: each row of YtngabeeeahidlaaDoorRows.lean that lists a variable, with what it lists TIED to the program's text (the seventh form; the later family's looks); each row that meets fmt, with fmt's text TOLD by the authors' own Lean function (tested against real Go, not proved from fmt's source: count such statements apart). THE CARD IS WHAT COUNTS. Prove the row's statement (the work); the ties are given (YtngabeeeahidlaaDoorTie.lean); close each card by the builder's one call (the guide's Derived/Test/ToyasCard.lean, 'card_holds'). Laid BY PROGRAM, IN A SANDBOX (cutbox-door.mjs). By AI agents, Wed Nov 11 2026. No macro, syntax, notation, axiom, sorry.
-/
import Derived.Test.YtngabeeeahidlaaDoorRows
import GoSem.ClaimSeven
namespace Go.Proofs.YtngabeeeahidlaaDoor
namespace Rows

/-- THE TIED CARD OF 'garnerlaw7.MatrixCodes'. -/
def matrixCodesCard : Claim7 := { stood := { row := matrixCodesRow, standIns := [], harness := (true, "3ae8c4afbd82cfecca5a7da959bf8bbbd32e7560c4cd19d1185657e864f30fec"), looks := false }, kinds := [], alts := [], laidByText := true, laidKinds := [.data], laidTests := true, laidLooks := .later }
def MatrixCodesCardSaid : Prop := Claim7.holds Tryd.pinned (.plain (OpenSpec.ofChange matrixCodesSpec)) matrixCodesCard

/-- THE TIED CARD OF 'garnerlaw7.MatrixInverts'. -/
def matrixInvertsCard : Claim7 := { stood := { row := matrixInvertsRow, standIns := [], harness := (true, "3ae8c4afbd82cfecca5a7da959bf8bbbd32e7560c4cd19d1185657e864f30fec"), looks := false }, kinds := [], alts := [], laidByText := true, laidKinds := [.data], laidTests := true, laidLooks := .later }
def MatrixInvertsCardSaid : Prop := Claim7.holds Tryd.pinned (.plain (OpenSpec.ofChange matrixInvertsSpec)) matrixInvertsCard

/-- THE SECOND FORM's CARD OF 'garnerlaw7.MatrixCodes'. -/
def matrixCodesUptoCard : Claim7 := { stood := { row := matrixCodesUptoRow, standIns := [], harness := (true, "3ae8c4afbd82cfecca5a7da959bf8bbbd32e7560c4cd19d1185657e864f30fec"), looks := false }, kinds := [], alts := [], laidByText := true, laidKinds := [.data], laidTests := true, laidLooks := .later }
def MatrixCodesUptoCardSaid : Prop := Claim7.holds Tryd.pinned (.plain (OpenSpec.upto matrixCodesSpec)) matrixCodesUptoCard

/-- THE SECOND FORM's CARD OF 'garnerlaw7.MatrixInverts'. -/
def matrixInvertsUptoCard : Claim7 := { stood := { row := matrixInvertsUptoRow, standIns := [], harness := (true, "3ae8c4afbd82cfecca5a7da959bf8bbbd32e7560c4cd19d1185657e864f30fec"), looks := false }, kinds := [], alts := [], laidByText := true, laidKinds := [.data], laidTests := true, laidLooks := .later }
def MatrixInvertsUptoCardSaid : Prop := Claim7.holds Tryd.pinned (.plain (OpenSpec.upto matrixInvertsSpec)) matrixInvertsUptoCard
end Rows
end Go.Proofs.YtngabeeeahidlaaDoor
