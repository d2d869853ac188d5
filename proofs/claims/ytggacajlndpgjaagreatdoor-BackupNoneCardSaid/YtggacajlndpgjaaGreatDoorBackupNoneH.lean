/-
  'BackupNone' returns true, facts of its card: the machine 'AM' runs the program's form to true; it looks into no argument.
-/
import Derived.Test.YtggacajlndpgjaaGreatDoorRows
import Derived.WalkKit
import Derived.ProofKit
import Derived.Test.YtggacajlndpgjaaGreatDoorAmRow2
import Derived.Test.YtggacajlndpgjaaGreatDoorAmOrc2
import Derived.Test.YtggacajlndpgjaaGreatDoorAmFast4
import Derived.Test.YtggacajlndpgjaaGreatDoorAmIns
import Derived.Test.YtggacajlndpgjaaGreatDoorAmMemo
import Derived.Test.YtggacajlndpgjaaGreatDoorAmRow3
import Derived.Test.YtggacajlndpgjaaGreatDoorCards
import Derived.Test.YtggacajlndpgjaaGreatDoorTie
import Derived.Test.YtggacajlndpgjaaGreatDoorBackupNoneA
import Derived.Test.YtggacajlndpgjaaGreatDoorBackupNoneB
import Derived.Test.YtggacajlndpgjaaGreatDoorBackupNoneC
import Derived.Test.YtggacajlndpgjaaGreatDoorBackupNoneG
namespace Go.Proofs.YtggacajlndpgjaaGreatDoor.backupNone
open Go.ChangeShapes Go.WideShapes Go.ChangeAt Go.RowKit Go.AM
theorem pw : Rows.backupNoneRow.wfByText (OpenSpec.ofChange Rows.backupNoneSpec) = true := by kernel_rfl
theorem pm : Tryz.prog.mainIs = some (true, "0fb1df565ddcc95d450a079bdfae4761eec3e48fbcdd7ec7cc5d2a27a97f0a7f".toList) := by kernel_rfl
theorem pl : true = Tryz.prog.looks [] := by kernel_rfl
theorem pg : false = Rows.backupNoneRow.goesBy Tryz.prog := by kernel_rfl
theorem pall : Tryz.f3.params.toList.all (fun t => !Tryz.prog.wantsStandIn t) = true := by kernel_rfl
theorem pn : Tryz.prog.funcNamed "chartulary/chartularylaw28.BackupNone" = some 3 := by kernel_rfl

end Go.Proofs.YtggacajlndpgjaaGreatDoor.backupNone
