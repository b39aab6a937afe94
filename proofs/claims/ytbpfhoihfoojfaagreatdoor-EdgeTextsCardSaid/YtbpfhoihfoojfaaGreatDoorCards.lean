/-
  DERIVED. GIVEN WITH THE SEED: THE CARDS: each row of YtbpfhoihfoojfaaGreatDoorRows.lean that lists a variable, with what it lists TIED to the program's text (the seventh form; the later family's looks); each row that meets fmt, with fmt's text TOLD by the authors' own Lean function (tested against real Go, not proved from fmt's source: count such statements apart). THE CARD IS WHAT COUNTS. Prove the row's statement (the work); the ties are given (YtbpfhoihfoojfaaGreatDoorTie.lean); close each card by the builder's one call (the guide's Derived/Test/ToyasCard.lean, 'card_holds'). Laid BY PROGRAM, IN A SANDBOX (cutbox-door.mjs). By AI agents, Wed Nov 11 2026. No macro, syntax, notation, axiom, sorry.
-/
import Derived.Test.YtbpfhoihfoojfaaGreatDoorRows
import GoSem.ClaimSeven
namespace Go.Proofs.YtbpfhoihfoojfaaGreatDoor
namespace Rows

/-- THE TIED CARD OF 'mestalaw06.EdgeTexts'. -/
def edgeTextsCard : Claim7 := { stood := { row := edgeTextsRow, standIns := [], harness := (true, "8ccc14dc800aac6ebce75369c2816f76e2def6231881489bfe45f61d53a2073c"), looks := true }, kinds := [], alts := [], laidByText := true, laidKinds := [.data, .data, .data, .data, .handle, .sentinel, .sentinel, .pinned], laidTests := true, laidLooks := .later }
def EdgeTextsCardSaid : Prop := Claim7.holds Tryz.pinned (.plain (OpenSpec.ofChange edgeTextsSpec)) edgeTextsCard

/-- THE TIED CARD OF 'mestalaw06.EdgeRead'. -/
def edgeReadCard : Claim7 := { stood := { row := edgeReadRow, standIns := [], harness := (true, "8ccc14dc800aac6ebce75369c2816f76e2def6231881489bfe45f61d53a2073c"), looks := true }, kinds := [], alts := [], laidByText := true, laidKinds := [.data, .data, .data, .data, .handle, .sentinel, .sentinel, .pinned], laidTests := true, laidLooks := .later }
def EdgeReadCardSaid : Prop := Claim7.holds Tryz.pinned (.plain (OpenSpec.ofChange edgeReadSpec)) edgeReadCard

/-- THE SECOND FORM's CARD OF 'mestalaw06.EdgeTexts'. -/
def edgeTextsUptoCard : Claim7 := { stood := { row := edgeTextsUptoRow, standIns := [], harness := (true, "8ccc14dc800aac6ebce75369c2816f76e2def6231881489bfe45f61d53a2073c"), looks := true }, kinds := [], alts := [], laidByText := true, laidKinds := [.data, .data, .data, .data, .handle, .sentinel, .sentinel, .pinned], laidTests := true, laidLooks := .later }
def EdgeTextsUptoCardSaid : Prop := Claim7.holds Tryz.pinned (.plain (OpenSpec.upto edgeTextsSpec)) edgeTextsUptoCard

/-- THE SECOND FORM's CARD OF 'mestalaw06.EdgeRead'. -/
def edgeReadUptoCard : Claim7 := { stood := { row := edgeReadUptoRow, standIns := [], harness := (true, "8ccc14dc800aac6ebce75369c2816f76e2def6231881489bfe45f61d53a2073c"), looks := true }, kinds := [], alts := [], laidByText := true, laidKinds := [.data, .data, .data, .data, .handle, .sentinel, .sentinel, .pinned], laidTests := true, laidLooks := .later }
def EdgeReadUptoCardSaid : Prop := Claim7.holds Tryz.pinned (.plain (OpenSpec.upto edgeReadSpec)) edgeReadUptoCard
end Rows
end Go.Proofs.YtbpfhoihfoojfaaGreatDoor
