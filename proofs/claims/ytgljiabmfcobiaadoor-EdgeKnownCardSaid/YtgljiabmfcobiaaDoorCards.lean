/-
  DERIVED. GIVEN WITH THE SEED: THE CARDS: each row of YtgljiabmfcobiaaDoorRows.lean that lists a variable, with what it lists TIED to the program's text (the seventh form; the later family's looks); each row that meets fmt, with fmt's text TOLD by the authors' own Lean function (tested against real Go, not proved from fmt's source: count such statements apart). THE CARD IS WHAT COUNTS. Prove the row's statement (the work); the ties are given (YtgljiabmfcobiaaDoorTie.lean); close each card by the builder's one call (the guide's Derived/Test/ToyasCard.lean, 'card_holds'). Laid BY PROGRAM, IN A SANDBOX (cutbox-door.mjs). By AI agents, Wed Nov 11 2026. No macro, syntax, notation, axiom, sorry.
-/
import Derived.Test.YtgljiabmfcobiaaDoorRows
import GoSem.ClaimSeven
namespace Go.Proofs.YtgljiabmfcobiaaDoor
namespace Rows

/-- THE TIED CARD OF 'mestalaw06.EdgeKnown'. -/
def edgeKnownCard : Claim7 := { stood := { row := edgeKnownRow, standIns := [], harness := (true, "ac02fe7ebeb46499f1f7d314ddafe2f5c1edc65579d80b6a5960c34935f5af27"), looks := true }, kinds := [], alts := [], laidByText := true, laidKinds := [.data, .data, .data], laidTests := true, laidLooks := .later }
def EdgeKnownCardSaid : Prop := Claim7.holds Tryd.pinned (.plain (OpenSpec.ofChange edgeKnownSpec)) edgeKnownCard

/-- THE SECOND FORM's CARD OF 'mestalaw06.EdgeKnown'. -/
def edgeKnownUptoCard : Claim7 := { stood := { row := edgeKnownUptoRow, standIns := [], harness := (true, "ac02fe7ebeb46499f1f7d314ddafe2f5c1edc65579d80b6a5960c34935f5af27"), looks := true }, kinds := [], alts := [], laidByText := true, laidKinds := [.data, .data, .data], laidTests := true, laidLooks := .later }
def EdgeKnownUptoCardSaid : Prop := Claim7.holds Tryd.pinned (.plain (OpenSpec.upto edgeKnownSpec)) edgeKnownUptoCard
end Rows
end Go.Proofs.YtgljiabmfcobiaaDoor
