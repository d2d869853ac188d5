/-
  DERIVED. GIVEN WITH THE SEED: THE CARDS: each row of YtggacajlndpgjaaGreatDoorRows.lean that lists a variable, with what it lists TIED to the program's text (the seventh form; the later family's looks); each row that meets fmt, with fmt's text TOLD by the authors' own Lean function (tested against real Go, not proved from fmt's source: count such statements apart). THE CARD IS WHAT COUNTS. Prove the row's statement (the work); the ties are given (YtggacajlndpgjaaGreatDoorTie.lean); close each card by the builder's one call (the guide's Derived/Test/ToyasCard.lean, 'card_holds'). Laid BY PROGRAM, IN A SANDBOX (cutbox-door.mjs). By AI agents, Wed Nov 11 2026. No macro, syntax, notation, axiom, sorry.
-/
import Derived.Test.YtggacajlndpgjaaGreatDoorRows
import GoSem.ClaimSeven
namespace Go.Proofs.YtggacajlndpgjaaGreatDoor
namespace Rows

/-- THE TIED CARD OF 'chartularylaw28.BackupNone'. -/
def backupNoneCard : Claim7 := { stood := { row := backupNoneRow, standIns := [], harness := (true, "0fb1df565ddcc95d450a079bdfae4761eec3e48fbcdd7ec7cc5d2a27a97f0a7f"), looks := true }, kinds := [], alts := [], laidByText := true, laidKinds := [.listed, .data], laidTests := true, laidLooks := .later }
def BackupNoneCardSaid : Prop := Claim7.holds Tryz.pinned (.plain (OpenSpec.ofChange backupNoneSpec)) backupNoneCard

/-- THE SECOND FORM's CARD OF 'chartularylaw28.BackupNone'. -/
def backupNoneUptoCard : Claim7 := { stood := { row := backupNoneUptoRow, standIns := [], harness := (true, "0fb1df565ddcc95d450a079bdfae4761eec3e48fbcdd7ec7cc5d2a27a97f0a7f"), looks := true }, kinds := [], alts := [], laidByText := true, laidKinds := [.listed, .data], laidTests := true, laidLooks := .later }
def BackupNoneUptoCardSaid : Prop := Claim7.holds Tryz.pinned (.plain (OpenSpec.upto backupNoneSpec)) backupNoneUptoCard
end Rows
end Go.Proofs.YtggacajlndpgjaaGreatDoor
