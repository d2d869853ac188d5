/-
  No cell of these rows narrows 'for every input' (looked for: loops, veiled, ifaces, maps, wideKeys, modest, calm, conditions, laid).
  DERIVED. THE GIVEN ROWS OF THIS SEAT. 8 by the template 'for every input the law returns true; each argument reads behind the call as it read before'; 0 by the template 'total and deterministic' (their statements: YtdoihmjffpbcdaaTotals.lean).
  GIVEN WITH THE SEED: the statements are not yours to turn. If you find one false, say at which input.
  Laid BY PROGRAM, IN A SANDBOX (cutbox-rows.mjs): the forced cells as the released guide's own fill.sh prints them over the translation e6f1ca7b8323fd70… (all of the seat's roots in one cut). By AI agents, Wed Nov 11 2026. No macro, syntax, notation, axiom, sorry.
-/
import Derived.Test.YtdoihmjffpbcdaaChecked
import GoSem.Claim
import GoSem.ClaimJoined
import GoSem.ClaimMapViews
import Derived.JoinedTies
import Derived.KernelRfl
namespace Go.Proofs.Ytdoihmjffpbcdaa
/- THE CELL 'sum', in the pinned program and in every row, IS THE sha256 OF THE DUMP (.gsa) THAT YtdoihmjffpbcdaaProg.lean LOADS. Nothing in Lean hashes anything: it is a label: what it is worth is what the hold of that sum in a sandbox is worth. -/
noncomputable def Try.pinned : Pinned := { name := "ytdoihmjffpbcdaa", sum := "e6f1ca7b8323fd70548f1b5aec807b1dd4575b1416cca6bd1952b5a9cc3d108d", checked := Try.checked }
namespace Rows
def none {H : Type} : Left H := { results := [], args := [] }

/-- 'chartularylaw06.BagKnown': WHATEVER THE INPUT: true; the input reads as it did. -/
def bagKnownSpec : ChangeSpec := { name := "bagKnown", fn := fun _ => fun
  | [] => { results := [.lit (.bool true)], args := [] }
  | _ => none }
def bagKnownRow : OpenClaim := { program := "ytdoihmjffpbcdaa", sum := "e6f1ca7b8323fd70548f1b5aec807b1dd4575b1416cca6bd1952b5a9cc3d108d", func := "chartulary/chartularylaw06.BagKnown", spec := "bagKnown", unfollowed := true, recurses := true, apart := false }
def BagKnownSaid : Prop := bagKnownRow.holds Try.pinned (OpenSpec.ofChange bagKnownSpec)

/-- ITS FALSE NEIGHBOUR: 'it returns false'. Refute it at one input. -/
def bagKnownWrong : ChangeSpec := { name := "bagKnown", fn := fun _ => fun
  | [] => { results := [.lit (.bool false)], args := [] }
  | _ => none }
def BagKnownWrongFalsely : Prop := bagKnownRow.holds Try.pinned (OpenSpec.ofChange bagKnownWrong)

/-- 'chartularylaw06.BagOnce': WHATEVER THE INPUT: true; the input reads as it did. -/
def bagOnceSpec : ChangeSpec := { name := "bagOnce", fn := fun _ => fun
  | [d1, d2, d3] => { results := [.lit (.bool true)], args := [d1, d2, d3] }
  | _ => none }
def bagOnceRow : OpenClaim := { program := "ytdoihmjffpbcdaa", sum := "e6f1ca7b8323fd70548f1b5aec807b1dd4575b1416cca6bd1952b5a9cc3d108d", func := "chartulary/chartularylaw06.BagOnce", spec := "bagOnce", unfollowed := true, recurses := true, apart := false }
def BagOnceSaid : Prop := bagOnceRow.holds Try.pinned (OpenSpec.ofChange bagOnceSpec)

/-- ITS FALSE NEIGHBOUR: 'it returns false'. Refute it at one input. -/
def bagOnceWrong : ChangeSpec := { name := "bagOnce", fn := fun _ => fun
  | [d1, d2, d3] => { results := [.lit (.bool false)], args := [d1, d2, d3] }
  | _ => none }
def BagOnceWrongFalsely : Prop := bagOnceRow.holds Try.pinned (OpenSpec.ofChange bagOnceWrong)

/-- 'chartularylaw06.BagOrder': WHATEVER THE INPUT: true; the input reads as it did. -/
def bagOrderSpec : ChangeSpec := { name := "bagOrder", fn := fun _ => fun
  | [d1, d2] => { results := [.lit (.bool true)], args := [d1, d2] }
  | _ => none }
def bagOrderRow : OpenClaim := { program := "ytdoihmjffpbcdaa", sum := "e6f1ca7b8323fd70548f1b5aec807b1dd4575b1416cca6bd1952b5a9cc3d108d", func := "chartulary/chartularylaw06.BagOrder", spec := "bagOrder", unfollowed := true, recurses := true, apart := false }
def BagOrderSaid : Prop := bagOrderRow.holds Try.pinned (OpenSpec.ofChange bagOrderSpec)

/-- ITS FALSE NEIGHBOUR: 'it returns false'. Refute it at one input. -/
def bagOrderWrong : ChangeSpec := { name := "bagOrder", fn := fun _ => fun
  | [d1, d2] => { results := [.lit (.bool false)], args := [d1, d2] }
  | _ => none }
def BagOrderWrongFalsely : Prop := bagOrderRow.holds Try.pinned (OpenSpec.ofChange bagOrderWrong)

/-- 'chartularylaw06.BagScript': WHATEVER THE INPUT: true; the input reads as it did. -/
def bagScriptSpec : ChangeSpec := { name := "bagScript", fn := fun _ => fun
  | [d1, d2] => { results := [.lit (.bool true)], args := [d1, d2] }
  | _ => none }
def bagScriptRow : OpenClaim := { program := "ytdoihmjffpbcdaa", sum := "e6f1ca7b8323fd70548f1b5aec807b1dd4575b1416cca6bd1952b5a9cc3d108d", func := "chartulary/chartularylaw06.BagScript", spec := "bagScript", unfollowed := true, recurses := true, apart := false }
def BagScriptSaid : Prop := bagScriptRow.holds Try.pinned (OpenSpec.ofChange bagScriptSpec)

/-- ITS FALSE NEIGHBOUR: 'it returns false'. Refute it at one input. -/
def bagScriptWrong : ChangeSpec := { name := "bagScript", fn := fun _ => fun
  | [d1, d2] => { results := [.lit (.bool false)], args := [d1, d2] }
  | _ => none }
def BagScriptWrongFalsely : Prop := bagScriptRow.holds Try.pinned (OpenSpec.ofChange bagScriptWrong)

/-- 'chartularylaw06.BagNone': WHATEVER THE INPUT: true; the input reads as it did. -/
def bagNoneSpec : ChangeSpec := { name := "bagNone", fn := fun _ => fun
  | [d1, d2] => { results := [.lit (.bool true)], args := [d1, d2] }
  | _ => none }
def bagNoneRow : OpenClaim := { program := "ytdoihmjffpbcdaa", sum := "e6f1ca7b8323fd70548f1b5aec807b1dd4575b1416cca6bd1952b5a9cc3d108d", func := "chartulary/chartularylaw06.BagNone", spec := "bagNone", unfollowed := true, recurses := true, apart := false }
def BagNoneSaid : Prop := bagNoneRow.holds Try.pinned (OpenSpec.ofChange bagNoneSpec)

/-- ITS FALSE NEIGHBOUR: 'it returns false'. Refute it at one input. -/
def bagNoneWrong : ChangeSpec := { name := "bagNone", fn := fun _ => fun
  | [d1, d2] => { results := [.lit (.bool false)], args := [d1, d2] }
  | _ => none }
def BagNoneWrongFalsely : Prop := bagNoneRow.holds Try.pinned (OpenSpec.ofChange bagNoneWrong)

/-- 'chartularylaw21.ProposeKnown': WHATEVER THE INPUT: true; the input reads as it did. -/
def proposeKnownSpec : ChangeSpec := { name := "proposeKnown", fn := fun _ => fun
  | [] => { results := [.lit (.bool true)], args := [] }
  | _ => none }
def proposeKnownRow : OpenClaim := { program := "ytdoihmjffpbcdaa", sum := "e6f1ca7b8323fd70548f1b5aec807b1dd4575b1416cca6bd1952b5a9cc3d108d", func := "chartulary/chartularylaw21.ProposeKnown", spec := "proposeKnown", unfollowed := true, recurses := true, apart := false }
def ProposeKnownSaid : Prop := proposeKnownRow.holds Try.pinned (OpenSpec.ofChange proposeKnownSpec)

/-- ITS FALSE NEIGHBOUR: 'it returns false'. Refute it at one input. -/
def proposeKnownWrong : ChangeSpec := { name := "proposeKnown", fn := fun _ => fun
  | [] => { results := [.lit (.bool false)], args := [] }
  | _ => none }
def ProposeKnownWrongFalsely : Prop := proposeKnownRow.holds Try.pinned (OpenSpec.ofChange proposeKnownWrong)

/-- 'chartularylaw21.ProposeNone': WHATEVER THE INPUT: true; the input reads as it did. -/
def proposeNoneSpec : ChangeSpec := { name := "proposeNone", fn := fun _ => fun
  | [d1, d2] => { results := [.lit (.bool true)], args := [d1, d2] }
  | _ => none }
def proposeNoneRow : OpenClaim := { program := "ytdoihmjffpbcdaa", sum := "e6f1ca7b8323fd70548f1b5aec807b1dd4575b1416cca6bd1952b5a9cc3d108d", func := "chartulary/chartularylaw21.ProposeNone", spec := "proposeNone", unfollowed := true, recurses := true, apart := false }
def ProposeNoneSaid : Prop := proposeNoneRow.holds Try.pinned (OpenSpec.ofChange proposeNoneSpec)

/-- ITS FALSE NEIGHBOUR: 'it returns false'. Refute it at one input. -/
def proposeNoneWrong : ChangeSpec := { name := "proposeNone", fn := fun _ => fun
  | [d1, d2] => { results := [.lit (.bool false)], args := [d1, d2] }
  | _ => none }
def ProposeNoneWrongFalsely : Prop := proposeNoneRow.holds Try.pinned (OpenSpec.ofChange proposeNoneWrong)

/-- 'chartularylaw21.ProposeOne': WHATEVER THE INPUT: true; the input reads as it did. -/
def proposeOneSpec : ChangeSpec := { name := "proposeOne", fn := fun _ => fun
  | [d1, d2] => { results := [.lit (.bool true)], args := [d1, d2] }
  | _ => none }
def proposeOneRow : OpenClaim := { program := "ytdoihmjffpbcdaa", sum := "e6f1ca7b8323fd70548f1b5aec807b1dd4575b1416cca6bd1952b5a9cc3d108d", func := "chartulary/chartularylaw21.ProposeOne", spec := "proposeOne", unfollowed := true, recurses := true, apart := false }
def ProposeOneSaid : Prop := proposeOneRow.holds Try.pinned (OpenSpec.ofChange proposeOneSpec)

/-- ITS FALSE NEIGHBOUR: 'it returns false'. Refute it at one input. -/
def proposeOneWrong : ChangeSpec := { name := "proposeOne", fn := fun _ => fun
  | [d1, d2] => { results := [.lit (.bool false)], args := [d1, d2] }
  | _ => none }
def ProposeOneWrongFalsely : Prop := proposeOneRow.holds Try.pinned (OpenSpec.ofChange proposeOneWrong)

/- THE SECOND FORM. 'bulk': how many values and letters a reading holds, each counted each time it is reached (what is shared counts as often as it is met; a slice's spare places count too). A statement '..UptoSaid' is the law's where the arguments, and the package variables that the reading takes, are together of bulk at most 1048576: NARROWER than '..Said'. Prove '..Said' where nothing that the law and all that it calls make is longer than what came in: it says more and counts as full. Else prove '..UptoSaid'. A law counts once. -/
mutual
def uptoBulk {H : Type} : DataW H → Nat
  | .lit (.string bytes) => bytes.length + 1
  | .lit _ => 1
  | .nil => 1
  | .ptr d => uptoBulk d + 1
  | .slice elems spare => uptoBulkAll elems + uptoBulkAll spare + 1
  | .agg parts => uptoBulkAll parts + 1
  | .iface _ d => uptoBulk d + 1
  | .map entries => uptoBulkEntries entries + 1
  | .held _ => 1
def uptoBulkAll {H : Type} : List (DataW H) → Nat
  | [] => 0
  | d :: r => uptoBulk d + uptoBulkAll r
def uptoBulkEntries {H : Type} : List (Lit × DataW H) → Nat
  | [] => 0
  | x :: r => uptoBulkEntry x + uptoBulkEntries r
def uptoBulkEntry {H : Type} : Lit × DataW H → Nat
  | (.string bytes, d) => bytes.length + uptoBulk d + 1
  | (_, d) => uptoBulk d + 1
 end
def uptoSmall : (H : Type) → List (DataW H) → Bool := fun _ ds => decide (uptoBulkAll ds ≤ 1048576)
def OpenSpec.upto (s : _root_.Go.ChangeSpec) : _root_.Go.OpenSpec := { _root_.Go.OpenSpec.ofChange s with cond := some uptoSmall }

/-- 'chartularylaw06.BagKnown', WHERE WHAT IT READS IS OF BULK AT MOST 1048576: true; the input reads as it did. -/
def bagKnownUptoRow : OpenClaim := { program := "ytdoihmjffpbcdaa", sum := "e6f1ca7b8323fd70548f1b5aec807b1dd4575b1416cca6bd1952b5a9cc3d108d", func := "chartulary/chartularylaw06.BagKnown", spec := "bagKnown", unfollowed := true, recurses := true, apart := false, narrowed := true }
def BagKnownUptoSaid : Prop := bagKnownUptoRow.holds Try.pinned (OpenSpec.upto bagKnownSpec)

/-- 'chartularylaw06.BagOnce', WHERE WHAT IT READS IS OF BULK AT MOST 1048576: true; the input reads as it did. -/
def bagOnceUptoRow : OpenClaim := { program := "ytdoihmjffpbcdaa", sum := "e6f1ca7b8323fd70548f1b5aec807b1dd4575b1416cca6bd1952b5a9cc3d108d", func := "chartulary/chartularylaw06.BagOnce", spec := "bagOnce", unfollowed := true, recurses := true, apart := false, narrowed := true }
def BagOnceUptoSaid : Prop := bagOnceUptoRow.holds Try.pinned (OpenSpec.upto bagOnceSpec)

/-- 'chartularylaw06.BagOrder', WHERE WHAT IT READS IS OF BULK AT MOST 1048576: true; the input reads as it did. -/
def bagOrderUptoRow : OpenClaim := { program := "ytdoihmjffpbcdaa", sum := "e6f1ca7b8323fd70548f1b5aec807b1dd4575b1416cca6bd1952b5a9cc3d108d", func := "chartulary/chartularylaw06.BagOrder", spec := "bagOrder", unfollowed := true, recurses := true, apart := false, narrowed := true }
def BagOrderUptoSaid : Prop := bagOrderUptoRow.holds Try.pinned (OpenSpec.upto bagOrderSpec)

/-- 'chartularylaw06.BagScript', WHERE WHAT IT READS IS OF BULK AT MOST 1048576: true; the input reads as it did. -/
def bagScriptUptoRow : OpenClaim := { program := "ytdoihmjffpbcdaa", sum := "e6f1ca7b8323fd70548f1b5aec807b1dd4575b1416cca6bd1952b5a9cc3d108d", func := "chartulary/chartularylaw06.BagScript", spec := "bagScript", unfollowed := true, recurses := true, apart := false, narrowed := true }
def BagScriptUptoSaid : Prop := bagScriptUptoRow.holds Try.pinned (OpenSpec.upto bagScriptSpec)

/-- 'chartularylaw06.BagNone', WHERE WHAT IT READS IS OF BULK AT MOST 1048576: true; the input reads as it did. -/
def bagNoneUptoRow : OpenClaim := { program := "ytdoihmjffpbcdaa", sum := "e6f1ca7b8323fd70548f1b5aec807b1dd4575b1416cca6bd1952b5a9cc3d108d", func := "chartulary/chartularylaw06.BagNone", spec := "bagNone", unfollowed := true, recurses := true, apart := false, narrowed := true }
def BagNoneUptoSaid : Prop := bagNoneUptoRow.holds Try.pinned (OpenSpec.upto bagNoneSpec)

/-- 'chartularylaw21.ProposeKnown', WHERE WHAT IT READS IS OF BULK AT MOST 1048576: true; the input reads as it did. -/
def proposeKnownUptoRow : OpenClaim := { program := "ytdoihmjffpbcdaa", sum := "e6f1ca7b8323fd70548f1b5aec807b1dd4575b1416cca6bd1952b5a9cc3d108d", func := "chartulary/chartularylaw21.ProposeKnown", spec := "proposeKnown", unfollowed := true, recurses := true, apart := false, narrowed := true }
def ProposeKnownUptoSaid : Prop := proposeKnownUptoRow.holds Try.pinned (OpenSpec.upto proposeKnownSpec)

/-- 'chartularylaw21.ProposeNone', WHERE WHAT IT READS IS OF BULK AT MOST 1048576: true; the input reads as it did. -/
def proposeNoneUptoRow : OpenClaim := { program := "ytdoihmjffpbcdaa", sum := "e6f1ca7b8323fd70548f1b5aec807b1dd4575b1416cca6bd1952b5a9cc3d108d", func := "chartulary/chartularylaw21.ProposeNone", spec := "proposeNone", unfollowed := true, recurses := true, apart := false, narrowed := true }
def ProposeNoneUptoSaid : Prop := proposeNoneUptoRow.holds Try.pinned (OpenSpec.upto proposeNoneSpec)

/-- 'chartularylaw21.ProposeOne', WHERE WHAT IT READS IS OF BULK AT MOST 1048576: true; the input reads as it did. -/
def proposeOneUptoRow : OpenClaim := { program := "ytdoihmjffpbcdaa", sum := "e6f1ca7b8323fd70548f1b5aec807b1dd4575b1416cca6bd1952b5a9cc3d108d", func := "chartulary/chartularylaw21.ProposeOne", spec := "proposeOne", unfollowed := true, recurses := true, apart := false, narrowed := true }
def ProposeOneUptoSaid : Prop := proposeOneUptoRow.holds Try.pinned (OpenSpec.upto proposeOneSpec)

end Rows
end Go.Proofs.Ytdoihmjffpbcdaa
