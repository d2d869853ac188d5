/-
  'BackupNone' returns true, a part: the machine 'AM' runs the program's form to true; it looks into no argument.
-/
import Derived.Test.YtggacajlndpgjaaGreatDoorRows
import Derived.WalkKit
import Derived.ProofKit
import Derived.Test.YtggacajlndpgjaaGreatDoorAmRow2
import Derived.Test.YtggacajlndpgjaaGreatDoorAmOrc2
import Derived.Test.YtggacajlndpgjaaGreatDoorAmFast4
import Derived.Test.YtggacajlndpgjaaGreatDoorAmIns
import Derived.Test.YtggacajlndpgjaaGreatDoorAmMemo
import Derived.Test.YtggacajlndpgjaaGreatDoorAmRow3
import Derived.Test.YtggacajlndpgjaaGreatDoorCards
import Derived.Test.YtggacajlndpgjaaGreatDoorTie
import Derived.Test.YtggacajlndpgjaaGreatDoorBackupNoneA
namespace Go.Proofs.YtggacajlndpgjaaGreatDoor.backupNone
open Go.ChangeShapes Go.WideShapes Go.ChangeAt Go.RowKit Go.AM
noncomputable def cells5 : List ACell := (((((List.replicate 56 ACell.q).set 5 (.s 0 (some 1100))).set 7 (.s 0 (some 70))).set 53 (.s 0 (some 4100))).set 54 (.s 0 (some 100))).set 55 (.s 0 (some 100))
set_option maxRecDepth 1000000 in
theorem ranF5 : runLawF Tryz.prog orcs (Pos.ofNat 3) (acArgs cells5 ((Tryz.f3.params.toList.drop 1).map (shpT Tryz.prog))) (heapOf 1 gvs) = .ok := by kernel_rfl
theorem ran5 : runLaw Tryz.prog orcs (Pos.ofNat 3) (acArgs cells5 ((Tryz.f3.params.toList.drop 1).map (shpT Tryz.prog))) (heapOf 1 gvs) = .ok := (runLawF_eq _ _ _ _ _).symm.trans ranF5

end Go.Proofs.YtggacajlndpgjaaGreatDoor.backupNone
