/-
  'BackupNone' returns true, the closed facts of its row: the machine 'AM' runs the program's form to true; it looks into no argument.
-/
import Derived.Test.YtggacajlndpgjaaGreatDoorRows
import Derived.WalkKit
import Derived.ProofKit
import Derived.Test.YtggacajlndpgjaaGreatDoorAmRow2
import Derived.Test.YtggacajlndpgjaaGreatDoorAmOrc2
import Derived.Test.YtggacajlndpgjaaGreatDoorAmFast4
import Derived.Test.YtggacajlndpgjaaGreatDoorAmIns
import Derived.Test.YtggacajlndpgjaaGreatDoorAmMemo
import Derived.Test.YtggacajlndpgjaaGreatDoorAmRow3
import Derived.Test.YtggacajlndpgjaaGreatDoorCards
import Derived.Test.YtggacajlndpgjaaGreatDoorTie
import Derived.Test.YtggacajlndpgjaaGreatDoorBackupNoneA
import Derived.Test.YtggacajlndpgjaaGreatDoorBackupNoneB
import Derived.Test.YtggacajlndpgjaaGreatDoorBackupNoneC
namespace Go.Proofs.YtggacajlndpgjaaGreatDoor.backupNone
open Go.ChangeShapes Go.WideShapes Go.ChangeAt Go.RowKit Go.AM
theorem jf1 : (Rows.backupNoneRow.wf (OpenSpec.ofChange Rows.backupNoneSpec)) = true := by kernel_rfl
theorem jf2 : (laidOutB Tryz.prog) = true := by kernel_rfl
theorem jf3 : (mapsRowed Tryz.prog) = true := by kernel_rfl
theorem jf4 : (Tryz.f3.params.all (Tryz.prog.readableRec ·)) = true := by kernel_rfl
theorem jf5 : (namedTie Tryz.prog Rows.backupNoneRow.named Rows.backupNoneSpec.vars) = true := by kernel_rfl
theorem jf6 : ((Rows.backupNoneRow.stops == [])) = true := by kernel_rfl
theorem jf7 : ((Tryz.prog.stops == [])) = true := by kernel_rfl
theorem jf8 : ((Rows.backupNoneRow.knobs == [])) = true := by kernel_rfl
theorem jf9 : ((Tryz.prog.stopKnobs == [])) = true := by kernel_rfl
theorem jf10 : ((Rows.backupNoneRow.inPlace == Tryz.prog.inPlace 3)) = true := by kernel_rfl
theorem jf11 : ((Rows.backupNoneRow.unfollowed == Tryz.prog.unfollowed 3)) = true := by kernel_rfl
theorem jf12 : ((Rows.backupNoneRow.recurses == Tryz.prog.recurses 3)) = true := by kernel_rfl
theorem jf13 : ((Rows.backupNoneRow.named == Tryz.prog.varsNamed 3)) = true := by kernel_rfl
theorem jf14 : ((Rows.backupNoneRow.maps == (Tryz.f3.params.toList ++ Rows.backupNoneSpec.plain.varTypes Tryz.prog).any (Tryz.prog.mapsRec ·))) = true := by kernel_rfl
theorem jf15 : ((Rows.backupNoneRow.ifaces == (Tryz.f3.params.toList ++ Rows.backupNoneSpec.plain.varTypes Tryz.prog).any (Tryz.prog.ifacesRec ·))) = true := by kernel_rfl
theorem jf16 : ((Rows.backupNoneRow.mapsOut == Tryz.prog.mapsAmong Tryz.f3.resultTypes.toList)) = true := by kernel_rfl
theorem jf17 : ((Rows.backupNoneRow.loops == (Tryz.f3.params.toList ++ Rows.backupNoneSpec.plain.varTypes Tryz.prog).any (Tryz.prog.loopsFrom ·))) = true := by kernel_rfl
theorem jf18 : ((Rows.backupNoneRow.wideKeys == (Tryz.f3.params.toList ++ Rows.backupNoneSpec.plain.varTypes Tryz.prog ++ Tryz.f3.resultTypes.toList).any (Tryz.prog.wideKeysFrom ·))) = true := by kernel_rfl
theorem jf19 : (Rows.backupNoneSpec.vars.all (Tryz.prog.varReadable ·)) = true := by kernel_rfl
theorem jf20 : (Tryz.f3.resultTypes.all (fun t => Tryz.prog.readableRec t && decide (t < Tryz.prog.types.size))) = true := by kernel_rfl
theorem jf21 : ((Rows.backupNoneRow.ifacesOut == Tryz.f3.resultTypes.toList.any (Tryz.prog.ifacesRec ·))) = true := by kernel_rfl
theorem jf22 : ((Rows.backupNoneRow.loopsOut == Tryz.f3.resultTypes.toList.any (Tryz.prog.loopsFrom ·))) = true := by kernel_rfl
theorem jf23 : ((Rows.backupNoneRow.plainKeys == Tryz.prog.plainKeys)) = true := by kernel_rfl
theorem jf24 : (Rows.backupNoneRow.shortTexts.isNone) = true := by kernel_rfl
theorem jf25 : (Tryz.prog.stopsHeard) = true := by kernel_rfl
theorem jf26 : (Tryz.prog.mayEnter) = true := by kernel_rfl
theorem jf27 : ((Rows.backupNoneRow.lifted == Tryz.prog.liftsFinal)) = true := by kernel_rfl
theorem jf28 : ((Tryz.prog.make == some Rows.backupNoneRow.make)) = true := by kernel_rfl
theorem jf29 : ((Rows.backupNoneRow.kinds == (if Rows.backupNoneRow.domain.isEmpty then [] else Tryz.f3.params.toList.map fun t => match Tryz.prog.underlying t with | some (.int k) => some k | _ => none))) = true := by kernel_rfl
theorem jf30 : ((Rows.backupNoneRow.pinned == Rows.backupNoneRow.pinnedBy)) = true := by kernel_rfl
theorem jf31 : ((Rows.backupNoneRow.veiled == (Tryz.f3.params.toList ++ Rows.backupNoneSpec.plain.varTypes Tryz.prog ++ Tryz.f3.resultTypes.toList).any (Tryz.prog.veiledRec ·))) = true := by kernel_rfl
theorem jf32 : (Rows.backupNoneRow.veiledFits Tryz.prog Tryz.f3.params.toList (Tryz.f3.params.toList ++ Rows.backupNoneSpec.plain.varTypes Tryz.prog ++ Tryz.f3.resultTypes.toList)) = true := by kernel_rfl

end Go.Proofs.YtggacajlndpgjaaGreatDoor.backupNone
