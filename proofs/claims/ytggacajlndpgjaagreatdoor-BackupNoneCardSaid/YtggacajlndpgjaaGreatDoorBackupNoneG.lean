/-
  'BackupNone' returns true, the closed facts of its row, together: the machine 'AM' runs the program's form to true; it looks into no argument.
-/
import Derived.Test.YtggacajlndpgjaaGreatDoorRows
import Derived.WalkKit
import Derived.ProofKit
import Derived.Test.YtggacajlndpgjaaGreatDoorAmRow2
import Derived.Test.YtggacajlndpgjaaGreatDoorAmOrc2
import Derived.Test.YtggacajlndpgjaaGreatDoorAmFast4
import Derived.Test.YtggacajlndpgjaaGreatDoorAmIns
import Derived.Test.YtggacajlndpgjaaGreatDoorAmMemo
import Derived.Test.YtggacajlndpgjaaGreatDoorAmRow3
import Derived.Test.YtggacajlndpgjaaGreatDoorCards
import Derived.Test.YtggacajlndpgjaaGreatDoorTie
import Derived.Test.YtggacajlndpgjaaGreatDoorBackupNoneA
import Derived.Test.YtggacajlndpgjaaGreatDoorBackupNoneB
import Derived.Test.YtggacajlndpgjaaGreatDoorBackupNoneC
import Derived.Test.YtggacajlndpgjaaGreatDoorBackupNoneF
namespace Go.Proofs.YtggacajlndpgjaaGreatDoor.backupNone
open Go.ChangeShapes Go.WideShapes Go.ChangeAt Go.RowKit Go.AM
set_option maxRecDepth 1000000 in
theorem closed : joinedFacts Tryz.prog 3 Tryz.f3 Rows.backupNoneSpec Rows.backupNoneRow = true := by
  unfold joinedFacts
  simp only [Bool.and_eq_true]
  exact ⟨⟨⟨⟨⟨⟨⟨⟨⟨⟨⟨⟨⟨⟨⟨⟨⟨⟨⟨⟨⟨⟨⟨⟨⟨⟨⟨⟨⟨⟨⟨jf1, jf2⟩, jf3⟩, jf4⟩, jf5⟩, jf6⟩, jf7⟩, jf8⟩, jf9⟩, jf10⟩, jf11⟩, jf12⟩, jf13⟩, jf14⟩, jf15⟩, jf16⟩, jf17⟩, jf18⟩, jf19⟩, jf20⟩, jf21⟩, jf22⟩, jf23⟩, jf24⟩, jf25⟩, jf26⟩, jf27⟩, jf28⟩, jf29⟩, jf30⟩, jf31⟩, jf32⟩

end Go.Proofs.YtggacajlndpgjaaGreatDoor.backupNone
