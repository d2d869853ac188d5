/-
  DERIVED. GIVEN WITH THE SEED: THE CARDS: each row of YtopighdbinigcaaGreatDoorRows.lean that lists a variable, with what it lists TIED to the program's text (the seventh form; the later family's looks); each row that meets fmt, with fmt's text TOLD by the authors' own Lean function (tested against real Go, not proved from fmt's source: count such statements apart). THE CARD IS WHAT COUNTS. Prove the row's statement (the work); the ties are given (YtopighdbinigcaaGreatDoorTie.lean); close each card by the builder's one call (the guide's Derived/Test/ToyasCard.lean, 'card_holds'). Laid BY PROGRAM, IN A SANDBOX (cutbox-door.mjs). By AI agents, Wed Nov 11 2026. No macro, syntax, notation, axiom, sorry.
-/
import Derived.Test.YtopighdbinigcaaGreatDoorRows
import GoSem.ClaimSeven
namespace Go.Proofs.YtopighdbinigcaaGreatDoor
namespace Rows

/-- THE TIED CARD OF 'chartularylaw16.SwimKnown'. -/
def swimKnownCard : Claim7 := { stood := { row := swimKnownRow, standIns := [], harness := (true, "f48936df6fe0a4a3395a468879d604ba4b9b7159c0f6c183fc78e370689dc07b"), looks := true }, kinds := [], alts := [], laidByText := true, laidKinds := [.listed, .data], laidTests := true, laidLooks := .later }
def SwimKnownCardSaid : Prop := Claim7.holds Tryz.pinned (.plain (OpenSpec.ofChange swimKnownSpec)) swimKnownCard

/-- THE TIED CARD OF 'chartularylaw16.SwimNone'. -/
def swimNoneCard : Claim7 := { stood := { row := swimNoneRow, standIns := [], harness := (true, "f48936df6fe0a4a3395a468879d604ba4b9b7159c0f6c183fc78e370689dc07b"), looks := true }, kinds := [], alts := [], laidByText := true, laidKinds := [.listed, .data], laidTests := true, laidLooks := .later }
def SwimNoneCardSaid : Prop := Claim7.holds Tryz.pinned (.plain (OpenSpec.ofChange swimNoneSpec)) swimNoneCard

/-- THE SECOND FORM's CARD OF 'chartularylaw16.SwimKnown'. -/
def swimKnownUptoCard : Claim7 := { stood := { row := swimKnownUptoRow, standIns := [], harness := (true, "f48936df6fe0a4a3395a468879d604ba4b9b7159c0f6c183fc78e370689dc07b"), looks := true }, kinds := [], alts := [], laidByText := true, laidKinds := [.listed, .data], laidTests := true, laidLooks := .later }
def SwimKnownUptoCardSaid : Prop := Claim7.holds Tryz.pinned (.plain (OpenSpec.upto swimKnownSpec)) swimKnownUptoCard

/-- THE SECOND FORM's CARD OF 'chartularylaw16.SwimNone'. -/
def swimNoneUptoCard : Claim7 := { stood := { row := swimNoneUptoRow, standIns := [], harness := (true, "f48936df6fe0a4a3395a468879d604ba4b9b7159c0f6c183fc78e370689dc07b"), looks := true }, kinds := [], alts := [], laidByText := true, laidKinds := [.listed, .data], laidTests := true, laidLooks := .later }
def SwimNoneUptoCardSaid : Prop := Claim7.holds Tryz.pinned (.plain (OpenSpec.upto swimNoneSpec)) swimNoneUptoCard
end Rows
end Go.Proofs.YtopighdbinigcaaGreatDoor
