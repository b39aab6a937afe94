/-
  DERIVED. GIVEN WITH THE SEED: THE CARDS: each row of YtmlikgjfpmjdcaaGreatDoorRows.lean that lists a variable, with what it lists TIED to the program's text (the seventh form; the later family's looks); each row that meets fmt, with fmt's text TOLD by the authors' own Lean function (tested against real Go, not proved from fmt's source: count such statements apart). THE CARD IS WHAT COUNTS. Prove the row's statement (the work); the ties are given (YtmlikgjfpmjdcaaGreatDoorTie.lean); close each card by the builder's one call (the guide's Derived/Test/ToyasCard.lean, 'card_holds'). Laid BY PROGRAM, IN A SANDBOX (cutbox-door.mjs). By AI agents, Wed Nov 11 2026. No macro, syntax, notation, axiom, sorry.
-/
import Derived.Test.YtmlikgjfpmjdcaaGreatDoorRows
import GoSem.ClaimSeven
namespace Go.Proofs.YtmlikgjfpmjdcaaGreatDoor
namespace Rows

/-- THE TIED CARD OF 'mestalaw08.LotsTexts'. -/
def lotsTextsCard : Claim7 := { stood := { row := lotsTextsRow, standIns := [], harness := (true, "26c63950bc663b5ea065e2dcef99e75acfca32a582e45bf83f506afe149ca4d6"), looks := true }, kinds := [], alts := [], laidByText := true, laidKinds := [.data, .data, .data, .data, .sentinel, .sentinel, .pinned], laidTests := true, laidLooks := .later }
def LotsTextsCardSaid : Prop := Claim7.holds Tryz.pinned (.plain (OpenSpec.ofChange lotsTextsSpec)) lotsTextsCard

/-- THE TIED CARD OF 'mestalaw08.LotsRead'. -/
def lotsReadCard : Claim7 := { stood := { row := lotsReadRow, standIns := [], harness := (true, "26c63950bc663b5ea065e2dcef99e75acfca32a582e45bf83f506afe149ca4d6"), looks := true }, kinds := [], alts := [], laidByText := true, laidKinds := [.data, .data, .data, .data, .sentinel, .sentinel, .pinned], laidTests := true, laidLooks := .later }
def LotsReadCardSaid : Prop := Claim7.holds Tryz.pinned (.plain (OpenSpec.ofChange lotsReadSpec)) lotsReadCard

/-- THE SECOND FORM's CARD OF 'mestalaw08.LotsTexts'. -/
def lotsTextsUptoCard : Claim7 := { stood := { row := lotsTextsUptoRow, standIns := [], harness := (true, "26c63950bc663b5ea065e2dcef99e75acfca32a582e45bf83f506afe149ca4d6"), looks := true }, kinds := [], alts := [], laidByText := true, laidKinds := [.data, .data, .data, .data, .sentinel, .sentinel, .pinned], laidTests := true, laidLooks := .later }
def LotsTextsUptoCardSaid : Prop := Claim7.holds Tryz.pinned (.plain (OpenSpec.upto lotsTextsSpec)) lotsTextsUptoCard

/-- THE SECOND FORM's CARD OF 'mestalaw08.LotsRead'. -/
def lotsReadUptoCard : Claim7 := { stood := { row := lotsReadUptoRow, standIns := [], harness := (true, "26c63950bc663b5ea065e2dcef99e75acfca32a582e45bf83f506afe149ca4d6"), looks := true }, kinds := [], alts := [], laidByText := true, laidKinds := [.data, .data, .data, .data, .sentinel, .sentinel, .pinned], laidTests := true, laidLooks := .later }
def LotsReadUptoCardSaid : Prop := Claim7.holds Tryz.pinned (.plain (OpenSpec.upto lotsReadSpec)) lotsReadUptoCard
end Rows
end Go.Proofs.YtmlikgjfpmjdcaaGreatDoor
