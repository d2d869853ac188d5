/-
  DERIVED. GIVEN WITH THE SEED: THE CARDS: each row of YtaelhkmimgpclaaGreatDoorRows.lean that lists a variable, with what it lists TIED to the program's text (the seventh form; the later family's looks); each row that meets fmt, with fmt's text TOLD by the authors' own Lean function (tested against real Go, not proved from fmt's source: count such statements apart). THE CARD IS WHAT COUNTS. Prove the row's statement (the work); the ties are given (YtaelhkmimgpclaaGreatDoorTie.lean); close each card by the builder's one call (the guide's Derived/Test/ToyasCard.lean, 'card_holds'). Laid BY PROGRAM, IN A SANDBOX (cutbox-door.mjs). By AI agents, Wed Nov 11 2026. No macro, syntax, notation, axiom, sorry.
-/
import Derived.Test.YtaelhkmimgpclaaGreatDoorRows
import GoSem.ClaimSeven
namespace Go.Proofs.YtaelhkmimgpclaaGreatDoor
namespace Rows

/-- THE TIED CARD OF 'chartularylaw24.WritesKnown'. -/
def writesKnownCard : Claim7 := { stood := { row := writesKnownRow, standIns := [], harness := (true, "0b8934529ea15837e101b009cd9505c6eb6f8c7dec017ae459cd14af442bc670"), looks := true }, kinds := [], alts := [], laidByText := true, laidKinds := [.listed, .data], laidTests := true, laidLooks := .later }
def WritesKnownCardSaid : Prop := Claim7.holds Tryz.pinned (.plain (OpenSpec.ofChange writesKnownSpec)) writesKnownCard

/-- THE TIED CARD OF 'chartularylaw24.WritesNone'. -/
def writesNoneCard : Claim7 := { stood := { row := writesNoneRow, standIns := [], harness := (true, "0b8934529ea15837e101b009cd9505c6eb6f8c7dec017ae459cd14af442bc670"), looks := true }, kinds := [], alts := [], laidByText := true, laidKinds := [.listed, .data], laidTests := true, laidLooks := .later }
def WritesNoneCardSaid : Prop := Claim7.holds Tryz.pinned (.plain (OpenSpec.ofChange writesNoneSpec)) writesNoneCard

/-- THE SECOND FORM's CARD OF 'chartularylaw24.WritesKnown'. -/
def writesKnownUptoCard : Claim7 := { stood := { row := writesKnownUptoRow, standIns := [], harness := (true, "0b8934529ea15837e101b009cd9505c6eb6f8c7dec017ae459cd14af442bc670"), looks := true }, kinds := [], alts := [], laidByText := true, laidKinds := [.listed, .data], laidTests := true, laidLooks := .later }
def WritesKnownUptoCardSaid : Prop := Claim7.holds Tryz.pinned (.plain (OpenSpec.upto writesKnownSpec)) writesKnownUptoCard

/-- THE SECOND FORM's CARD OF 'chartularylaw24.WritesNone'. -/
def writesNoneUptoCard : Claim7 := { stood := { row := writesNoneUptoRow, standIns := [], harness := (true, "0b8934529ea15837e101b009cd9505c6eb6f8c7dec017ae459cd14af442bc670"), looks := true }, kinds := [], alts := [], laidByText := true, laidKinds := [.listed, .data], laidTests := true, laidLooks := .later }
def WritesNoneUptoCardSaid : Prop := Claim7.holds Tryz.pinned (.plain (OpenSpec.upto writesNoneSpec)) writesNoneUptoCard
end Rows
end Go.Proofs.YtaelhkmimgpclaaGreatDoor
