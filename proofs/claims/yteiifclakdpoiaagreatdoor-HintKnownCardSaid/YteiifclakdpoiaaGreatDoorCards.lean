/-
  DERIVED. GIVEN WITH THE SEED: THE CARDS: each row of YteiifclakdpoiaaGreatDoorRows.lean that lists a variable, with what it lists TIED to the program's text (the seventh form; the later family's looks); each row that meets fmt, with fmt's text TOLD by the authors' own Lean function (tested against real Go, not proved from fmt's source: count such statements apart). THE CARD IS WHAT COUNTS. Prove the row's statement (the work); the ties are given (YteiifclakdpoiaaGreatDoorTie.lean); close each card by the builder's one call (the guide's Derived/Test/ToyasCard.lean, 'card_holds'). Laid BY PROGRAM, IN A SANDBOX (cutbox-door.mjs). By AI agents, Wed Nov 11 2026. No macro, syntax, notation, axiom, sorry.
-/
import Derived.Test.YteiifclakdpoiaaGreatDoorRows
import GoSem.ClaimSeven
namespace Go.Proofs.YteiifclakdpoiaaGreatDoor
namespace Rows

/-- THE TIED CARD OF 'chartularylaw23.HintKnown'. -/
def hintKnownCard : Claim7 := { stood := { row := hintKnownRow, standIns := [], harness := (true, "fab2c06ba57d9febf33f369172ffd436f6de0c84feb21ebead875fceeeced1b6"), looks := true }, kinds := [], alts := [], laidByText := true, laidKinds := [.listed, .data], laidTests := true, laidLooks := .later }
def HintKnownCardSaid : Prop := Claim7.holds Tryz.pinned (.plain (OpenSpec.ofChange hintKnownSpec)) hintKnownCard

/-- THE SECOND FORM's CARD OF 'chartularylaw23.HintKnown'. -/
def hintKnownUptoCard : Claim7 := { stood := { row := hintKnownUptoRow, standIns := [], harness := (true, "fab2c06ba57d9febf33f369172ffd436f6de0c84feb21ebead875fceeeced1b6"), looks := true }, kinds := [], alts := [], laidByText := true, laidKinds := [.listed, .data], laidTests := true, laidLooks := .later }
def HintKnownUptoCardSaid : Prop := Claim7.holds Tryz.pinned (.plain (OpenSpec.upto hintKnownSpec)) hintKnownUptoCard
end Rows
end Go.Proofs.YteiifclakdpoiaaGreatDoor
