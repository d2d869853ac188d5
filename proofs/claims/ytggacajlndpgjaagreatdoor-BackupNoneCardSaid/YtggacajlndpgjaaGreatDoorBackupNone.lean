/-
  'BackupNone' returns true: the machine 'AM' runs the program's form to true; it looks into no argument.
-/
import Derived.Test.YtggacajlndpgjaaGreatDoorRows
import Derived.WalkKit
import Derived.ProofKit
import Derived.Test.YtggacajlndpgjaaGreatDoorAmRow2
import Derived.Test.YtggacajlndpgjaaGreatDoorAmOrc2
import Derived.Test.YtggacajlndpgjaaGreatDoorAmFast4
import Derived.Test.YtggacajlndpgjaaGreatDoorAmIns
import Derived.Test.YtggacajlndpgjaaGreatDoorAmMemo
import Derived.Test.YtggacajlndpgjaaGreatDoorAmRow3
import Derived.Test.YtggacajlndpgjaaGreatDoorCards
import Derived.Test.YtggacajlndpgjaaGreatDoorTie
import Derived.Test.YtggacajlndpgjaaGreatDoorBackupNoneA
import Derived.Test.YtggacajlndpgjaaGreatDoorBackupNoneB
import Derived.Test.YtggacajlndpgjaaGreatDoorBackupNoneC
import Derived.Test.YtggacajlndpgjaaGreatDoorBackupNoneG
import Derived.Test.YtggacajlndpgjaaGreatDoorBackupNoneH
namespace Go.Proofs.YtggacajlndpgjaaGreatDoor.backupNone
open Go.ChangeShapes Go.WideShapes Go.ChangeAt Go.RowKit Go.AM
theorem over : Rows.backupNoneRow.holds Tryz.pinned (OpenSpec.ofChange Rows.backupNoneSpec) :=
  OpenClaim.holds_of_wide 3 Tryz.f3 rfl rfl rfl rfl rfl rfl rfl ⟨rfl, rfl, rfl, rfl, rfl⟩ rfl rfl rfl rfl rfl (by kernel_rfl) Tryz.func3 closed
    (of_decide_eq_true (by kernel_rfl)) (by unfold Func.isWrapper; first | (rw [if_pos (by decide +kernel)]; kernel_rfl) | (rw [if_neg (by decide +kernel)]; exact ⟨rfl, rfl⟩))
    (fun os started H enc _ => lifted os started H enc)

/-- The statement. -/
theorem proved : Rows.BackupNoneCardSaid :=
  Claim7.holds_tied_plain_at .later [] [.listed, .data] true (true, "0fb1df565ddcc95d450a079bdfae4761eec3e48fbcdd7ec7cc5d2a27a97f0a7f") true
    over (fun _ h => by cases h) pw (fun _ h => by cases h) backupNone_row_tie rfl ⟨rfl, rfl⟩ pm rfl
    (fun f fn hf hfn => by
      obtain rfl : f = 3 := Option.some.inj (pn.symm.trans hf) |>.symm
      obtain rfl : fn = Tryz.f3 := (Option.some.inj (Tryz.func3.symm.trans hfn)).symm
      exact ⟨pl, fun j t ht => by
        have hall := pall
        have := List.all_eq_true.1 hall t (List.mem_of_getElem? (by rw [Array.getElem?_toList]; exact ht))
        exact (show Tryz.prog.wantsStandIn t = false by simpa using this)⟩)
    pg

#print axioms proved
end Go.Proofs.YtggacajlndpgjaaGreatDoor.backupNone
