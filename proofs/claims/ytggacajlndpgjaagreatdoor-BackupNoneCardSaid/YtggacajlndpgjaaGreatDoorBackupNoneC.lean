/-
  'BackupNone' returns true, a part: the machine 'AM' runs the program's form to true; it looks into no argument.
-/
import Derived.Test.YtggacajlndpgjaaGreatDoorRows
import Derived.WalkKit
import Derived.ProofKit
import Derived.Test.YtggacajlndpgjaaGreatDoorAmRow2
import Derived.Test.YtggacajlndpgjaaGreatDoorAmOrc2
import Derived.Test.YtggacajlndpgjaaGreatDoorAmFast4
import Derived.Test.YtggacajlndpgjaaGreatDoorAmIns
import Derived.Test.YtggacajlndpgjaaGreatDoorAmMemo
import Derived.Test.YtggacajlndpgjaaGreatDoorAmRow3
import Derived.Test.YtggacajlndpgjaaGreatDoorCards
import Derived.Test.YtggacajlndpgjaaGreatDoorTie
import Derived.Test.YtggacajlndpgjaaGreatDoorBackupNoneA
import Derived.Test.YtggacajlndpgjaaGreatDoorBackupNoneB
namespace Go.Proofs.YtggacajlndpgjaaGreatDoor.backupNone
open Go.ChangeShapes Go.WideShapes Go.ChangeAt Go.RowKit Go.AM
noncomputable def cellTys : List TypeId := ((Tryz.prog.cellTypes Tryz.prog.depth 37).getD [])
theorem door_met (os : Os) (args : Array Value) : laidMetH Tryz.prog Rows.backupNoneRow.laid ((World.doorLaid Tryz.prog 400 os).forCall (fun _ _ => 0) ⟨#[], args, []⟩).memory :=
  laidMetH_of_parts3 (fuel := 8) (laidMet_of_run' 8 (by kernel_rfl) (by kernel_rfl)) (by kernel_rfl) (by kernel_rfl)

set_option maxRecDepth 100000 in
theorem lifted (os : Os) (started : os.Started) (H : Type) (enc : TypeId × Value → H) :
    ReturnsInHanded {} Tryz.checked os 3 .any (fun w args => (Rows.backupNoneSpec.pre enc Tryz.prog Tryz.f3 [] false w args ∧ laidMetH Tryz.prog Rows.backupNoneRow.laid w) ∧ sizedMet enc Tryz.prog Tryz.f3 (OpenSpec.ofChange Rows.backupNoneSpec) false w args)
      (Rows.backupNoneSpec.post enc Tryz.prog Tryz.f3 false true false false) := by
  refine returnsInHanded_of_change_and (C := Tryz.checked) (X := fun w _ => laidMetH Tryz.prog Rows.backupNoneRow.laid w) (fun _ _ _ hh h => h.of_heap hh) own started (by kernel_rfl) Tryz.func3
    (ChangeSpec.witness_shaped (enc := enc) (C := Tryz.checked) (os := os) (X := fun w _ => laidMetH Tryz.prog Rows.backupNoneRow.laid w) false (World.doorLaid Tryz.prog 400 os) #[(((Tryz.prog.info? 37).bind (·.zero)).getD .nilIface)] 8 rfl (World.shaped_of_RefB (by kernel_rfl) (by kernel_rfl)) (by kernel_rfl) (by kernel_rfl) (by kernel_rfl) (door_met os _)) ?_
  intro W base args ds gs before hval0 hW _ _ hL _
  have hW' := hW
  obtain ⟨p, q, hA0, hV, _, _, _⟩ := hW
  have hA : DataW.TrodAll enc Tryz.prog W 0 (fun _ => true) true Tryz.f3.params.toList args.toList ds p := hA0
  obtain ⟨hlen, hdl⟩ := trodAll_len hA
  obtain ⟨rfl, rfl⟩ := trodVars_none hV
  have hsh := ShpsOf.of_okWide (P := Tryz.prog) hlen (fun j t v a b => hval0 j t v (by rw [← Array.getElem?_toList]; exact a) (by rw [← Array.getElem?_toList]; exact b))
  have hfin : Calls Tryz.prog 3 args W fun e w' => e = .returned (.bool true) ∧ (∀ r, r < W.heap.size → w'.heap[r]? = W.heap[r]?) ∧ ∀ may, W.keptBut w' may := by
    have hGV : GVs 1 gvs W := known hL
    have hpar : Tryz.f3.params.toList = 37 :: Tryz.f3.params.toList.drop 1 := by rw [Tryz.params3]; rfl
    have h0 : ∃ v0 rest, args.toList = v0 :: rest := by
      cases hl : args.toList with
      | nil => rw [hl, Tryz.params3] at hlen; simp at hlen
      | cons v0 rest => exact ⟨v0, rest, rfl⟩
    obtain ⟨v0, rest, hargs⟩ := h0
    have hok0 : Value.okWide Tryz.prog W .any base 37 v0 := hval0 0 37 v0 (by rw [Tryz.params3]; rfl) (by rw [← Array.getElem?_toList, hargs]; rfl)
    have hrest : ShpsOf ((Tryz.f3.params.toList.drop 1).map (shpT Tryz.prog)) rest := by
      rw [hargs, hpar] at hsh
      cases hsh with
      | cons _ h => exact h
    have hshp0 : ShpOf (shpT Tryz.prog 37) v0 := ShpOf.of_okWide hok0
    have hs0 : shpT Tryz.prog 37 = .agg 56 := by kernel_rfl
    rw [hs0] at hshp0
    obtain ⟨cs, rfl, hcsz, hcone⟩ := hshp0
    have hrow : Row.okWide Tryz.prog W .any base 37 cs := by
      unfold Value.okWide at hok0
      rw [Tryz.underlying37] at hok0
      obtain ⟨cs', e, _, h⟩ := hok0
      cases e; exact h
    have hts : (Tryz.prog.cellTypes Tryz.prog.depth 37) = some cellTys := by kernel_rfl
    have htl : cs.size = cellTys.length := by rw [hcsz]; kernel_rfl
    obtain ⟨a0, n0, c0, hc0⟩ := row_slice hts hrow htl (i := 5) (u := 22) (e := 5) (by kernel_rfl) Tryz.underlying22
    obtain ⟨a1, n1, c1, hc1⟩ := row_slice hts hrow htl (i := 7) (u := 25) (e := 3) (by kernel_rfl) Tryz.underlying25
    obtain ⟨a2, n2, c2, hc2⟩ := row_slice hts hrow htl (i := 53) (u := 22) (e := 5) (by kernel_rfl) Tryz.underlying22
    obtain ⟨a3, n3, c3, hc3⟩ := row_slice hts hrow htl (i := 54) (u := 32) (e := 31) (by kernel_rfl) Tryz.underlying32
    obtain ⟨a4, n4, c4, hc4⟩ := row_slice hts hrow htl (i := 55) (u := 33) (e := 183) (by kernel_rfl) Tryz.underlying33
    by_cases hb0 : 1100 < n0
    · exact law_first mixes orcsOK ran0 hargs (by rw [hcsz]; kernel_rfl) hcone ((((((Fits.none 56 cs).set hc0 (by omega) (fun h e => by cases e)).set hc1 (Nat.zero_le _) (fun h e => by cases e)).set hc2 (Nat.zero_le _) (fun h e => by cases e)).set hc3 (Nat.zero_le _) (fun h e => by cases e)).set hc4 (Nat.zero_le _) (fun h e => by cases e)) hrest W hGV
    by_cases hb1 : 70 < n1
    · exact law_first mixes orcsOK ran1 hargs (by rw [hcsz]; kernel_rfl) hcone ((((((Fits.none 56 cs).set hc0 (Nat.zero_le _) (fun h e => by cases e; omega)).set hc1 (by omega) (fun h e => by cases e)).set hc2 (Nat.zero_le _) (fun h e => by cases e)).set hc3 (Nat.zero_le _) (fun h e => by cases e)).set hc4 (Nat.zero_le _) (fun h e => by cases e)) hrest W hGV
    by_cases hb2 : 4100 < n2
    · exact law_first mixes orcsOK ran2 hargs (by rw [hcsz]; kernel_rfl) hcone ((((((Fits.none 56 cs).set hc0 (Nat.zero_le _) (fun h e => by cases e; omega)).set hc1 (Nat.zero_le _) (fun h e => by cases e; omega)).set hc2 (by omega) (fun h e => by cases e)).set hc3 (Nat.zero_le _) (fun h e => by cases e)).set hc4 (Nat.zero_le _) (fun h e => by cases e)) hrest W hGV
    by_cases hb3 : 100 < n3
    · exact law_first mixes orcsOK ran3 hargs (by rw [hcsz]; kernel_rfl) hcone ((((((Fits.none 56 cs).set hc0 (Nat.zero_le _) (fun h e => by cases e; omega)).set hc1 (Nat.zero_le _) (fun h e => by cases e; omega)).set hc2 (Nat.zero_le _) (fun h e => by cases e; omega)).set hc3 (by omega) (fun h e => by cases e)).set hc4 (Nat.zero_le _) (fun h e => by cases e)) hrest W hGV
    by_cases hb4 : 100 < n4
    · exact law_first mixes orcsOK ran4 hargs (by rw [hcsz]; kernel_rfl) hcone ((((((Fits.none 56 cs).set hc0 (Nat.zero_le _) (fun h e => by cases e; omega)).set hc1 (Nat.zero_le _) (fun h e => by cases e; omega)).set hc2 (Nat.zero_le _) (fun h e => by cases e; omega)).set hc3 (Nat.zero_le _) (fun h e => by cases e; omega)).set hc4 (by omega) (fun h e => by cases e)) hrest W hGV
    exact law_first mixes orcsOK ran5 hargs (by rw [hcsz]; kernel_rfl) hcone ((((((Fits.none 56 cs).set hc0 (Nat.zero_le _) (fun h e => by cases e; omega)).set hc1 (Nat.zero_le _) (fun h e => by cases e; omega)).set hc2 (Nat.zero_le _) (fun h e => by cases e; omega)).set hc3 (Nat.zero_le _) (fun h e => by cases e; omega)).set hc4 (Nat.zero_le _) (fun h e => by cases e; omega)) hrest W hGV
  refine (hfin).mono fun e W' ⟨he, hs, hk⟩ => ?_
  subst he
  refine ⟨_, rfl, post_true laid reads rfl (tb := 4) rfl Tryz.underlying4 hW' ?_ hs hk⟩
  have hn : ds.length = 1 := by rw [hdl, Tryz.params3]; rfl
  match ds, hn with
  | [d0], _ => exact ⟨rfl, rfl, rfl⟩


end Go.Proofs.YtggacajlndpgjaaGreatDoor.backupNone
