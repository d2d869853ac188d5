/-
  DERIVED. GIVEN WITH THE SEED: THE CARDS: each row of YtbphkpijffmboaaGreatDoorRows.lean that lists a variable, with what it lists TIED to the program's text (the seventh form; the later family's looks); each row that meets fmt, with fmt's text TOLD by the authors' own Lean function (tested against real Go, not proved from fmt's source: count such statements apart). THE CARD IS WHAT COUNTS. Prove the row's statement (the work); the ties are given (YtbphkpijffmboaaGreatDoorTie.lean); close each card by the builder's one call (the guide's Derived/Test/ToyasCard.lean, 'card_holds'). Laid BY PROGRAM, IN A SANDBOX (cutbox-door.mjs). By AI agents, Wed Nov 11 2026. No macro, syntax, notation, axiom, sorry.
-/
import Derived.Test.YtbphkpijffmboaaGreatDoorRows
import GoSem.ClaimSeven
namespace Go.Proofs.YtbphkpijffmboaaGreatDoor
namespace Rows

/-- THE TIED CARD OF 'chartularylaw20.AcceptKnown'. -/
def acceptKnownCard : Claim7 := { stood := { row := acceptKnownRow, standIns := [], harness := (true, "d13d2cd43033c349e400b3f3eb234672894d787f7c9befc0bbeb6ae5082378d5"), looks := true }, kinds := [], alts := [], laidByText := true, laidKinds := [.listed, .data], laidTests := true, laidLooks := .later }
def AcceptKnownCardSaid : Prop := Claim7.holds Tryz.pinned (.plain (OpenSpec.ofChange acceptKnownSpec)) acceptKnownCard

/-- THE SECOND FORM's CARD OF 'chartularylaw20.AcceptKnown'. -/
def acceptKnownUptoCard : Claim7 := { stood := { row := acceptKnownUptoRow, standIns := [], harness := (true, "d13d2cd43033c349e400b3f3eb234672894d787f7c9befc0bbeb6ae5082378d5"), looks := true }, kinds := [], alts := [], laidByText := true, laidKinds := [.listed, .data], laidTests := true, laidLooks := .later }
def AcceptKnownUptoCardSaid : Prop := Claim7.holds Tryz.pinned (.plain (OpenSpec.upto acceptKnownSpec)) acceptKnownUptoCard
end Rows
end Go.Proofs.YtbphkpijffmboaaGreatDoor
