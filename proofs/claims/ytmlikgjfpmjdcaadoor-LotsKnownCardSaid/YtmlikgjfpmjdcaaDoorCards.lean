/-
  DERIVED. GIVEN WITH THE SEED: THE CARDS: each row of YtmlikgjfpmjdcaaDoorRows.lean that lists a variable, with what it lists TIED to the program's text (the seventh form; the later family's looks); each row that meets fmt, with fmt's text TOLD by the authors' own Lean function (tested against real Go, not proved from fmt's source: count such statements apart). THE CARD IS WHAT COUNTS. Prove the row's statement (the work); the ties are given (YtmlikgjfpmjdcaaDoorTie.lean); close each card by the builder's one call (the guide's Derived/Test/ToyasCard.lean, 'card_holds'). Laid BY PROGRAM, IN A SANDBOX (cutbox-door.mjs). By AI agents, Wed Nov 11 2026. No macro, syntax, notation, axiom, sorry.
-/
import Derived.Test.YtmlikgjfpmjdcaaDoorRows
import GoSem.ClaimSeven
namespace Go.Proofs.YtmlikgjfpmjdcaaDoor
namespace Rows

/-- THE TIED CARD OF 'mestalaw08.LotsKnown'. -/
def lotsKnownCard : Claim7 := { stood := { row := lotsKnownRow, standIns := [], harness := (true, "9080d00bafa7c4949da32fb884a26d94a86cc33ba0581ebb261906861724437b"), looks := false }, kinds := [], alts := [], laidByText := true, laidKinds := [.data, .data, .data], laidTests := true, laidLooks := .later }
def LotsKnownCardSaid : Prop := Claim7.holds Tryd.pinned (.plain (OpenSpec.ofChange lotsKnownSpec)) lotsKnownCard

/-- THE SECOND FORM's CARD OF 'mestalaw08.LotsKnown'. -/
def lotsKnownUptoCard : Claim7 := { stood := { row := lotsKnownUptoRow, standIns := [], harness := (true, "9080d00bafa7c4949da32fb884a26d94a86cc33ba0581ebb261906861724437b"), looks := false }, kinds := [], alts := [], laidByText := true, laidKinds := [.data, .data, .data], laidTests := true, laidLooks := .later }
def LotsKnownUptoCardSaid : Prop := Claim7.holds Tryd.pinned (.plain (OpenSpec.upto lotsKnownSpec)) lotsKnownUptoCard
end Rows
end Go.Proofs.YtmlikgjfpmjdcaaDoor
