/-
  'BackupNone' returns true, a part: the machine 'AM' runs the program's form to true; it looks into no argument.
-/
import Derived.Test.YtggacajlndpgjaaGreatDoorRows
import Derived.WalkKit
import Derived.ProofKit
import Derived.Test.YtggacajlndpgjaaGreatDoorAmRow2
import Derived.Test.YtggacajlndpgjaaGreatDoorAmOrc2
import Derived.Test.YtggacajlndpgjaaGreatDoorAmFast4
import Derived.Test.YtggacajlndpgjaaGreatDoorAmIns
import Derived.Test.YtggacajlndpgjaaGreatDoorAmMemo
import Derived.Test.YtggacajlndpgjaaGreatDoorAmRow3
import Derived.Test.YtggacajlndpgjaaGreatDoorCards
import Derived.Test.YtggacajlndpgjaaGreatDoorTie
namespace Go.Proofs.YtggacajlndpgjaaGreatDoor.backupNone
open Go.ChangeShapes Go.WideShapes Go.ChangeAt Go.RowKit Go.AM

theorem own : ownKnob Tryz.prog.godebug = none := by kernel_rfl
theorem mixes : Tryz.prog.follows .mixedOrders = true := by kernel_rfl
theorem laid : laidOutB Tryz.prog = true := by kernel_rfl
theorem reads : Tryz.f3.params.toList.all (fun t => Tryz.prog.readableRec t && Nat.blt t Tryz.prog.types.size) = true := by kernel_rfl
noncomputable def orcs0 : PT Orc := mkO [(242, orcIndexByte), (442, orcCount), (430, orcId), (270, orcNil), (272, orcNil), (273, orcMark), (275, orcMark), (253, orcLoad .u32), (266, orcStore), (271, orcCas .i32), (276, orcAdd .i32), (97, orcApart), (222, orcApart), (225, orcApart), (227, orcApart), (232, orcApart), (234, orcApart)]
theorem orcs0OK : OrOK Tryz.prog orcs0 := (OrOK.cons (good_indexByte (Ext.of Tryz.func242 (by kernel_rfl) (by kernel_rfl) (by kernel_rfl) (by kernel_rfl))) (OrOK.cons (good_count (Ext.of Tryz.func442 (by kernel_rfl) (by kernel_rfl) (by kernel_rfl) (by kernel_rfl))) (OrOK.cons (good_same (Ext.of Tryz.func430 (by kernel_rfl) (by kernel_rfl) (by kernel_rfl) (by kernel_rfl))) (OrOK.cons (good_mark0 (m := .disable) (Ext.of Tryz.func270 (by kernel_rfl) (by kernel_rfl) (by kernel_rfl) (by kernel_rfl))) (OrOK.cons (good_mark0 (m := .enable) (Ext.of Tryz.func272 (by kernel_rfl) (by kernel_rfl) (by kernel_rfl) (by kernel_rfl))) (OrOK.cons (good_marked (m := .acquire) (Ext.of Tryz.func273 (by kernel_rfl) (by kernel_rfl) (by kernel_rfl) (by kernel_rfl))) (OrOK.cons (good_marked (m := .releaseMerge) (Ext.of Tryz.func275 (by kernel_rfl) (by kernel_rfl) (by kernel_rfl) (by kernel_rfl))) (OrOK.cons (good_load (i := .u32) (Ext.of Tryz.func253 (by kernel_rfl) (by kernel_rfl) (by kernel_rfl) (by kernel_rfl))) (OrOK.cons (good_store (Ext.of Tryz.func266 (by kernel_rfl) (by kernel_rfl) (by kernel_rfl) (by kernel_rfl))) (OrOK.cons (good_cas (i := .i32) (Ext.of Tryz.func271 (by kernel_rfl) (by kernel_rfl) (by kernel_rfl) (by kernel_rfl))) (OrOK.cons (good_add (i := .i32) (Ext.of Tryz.func276 (by kernel_rfl) (by kernel_rfl) (by kernel_rfl) (by kernel_rfl))) (OrOK.cons (good_apart (tS := 44) (tR := 4) (e := 140) (size := 2) Tryz.underlying44 (by kernel_rfl) (Ext.of Tryz.func97 (by kernel_rfl) (by kernel_rfl) (by kernel_rfl) (by kernel_rfl))) (OrOK.cons (good_apart (tS := 57) (tR := 4) (e := 274) (size := 33) Tryz.underlying57 (by kernel_rfl) (Ext.of Tryz.func222 (by kernel_rfl) (by kernel_rfl) (by kernel_rfl) (by kernel_rfl))) (OrOK.cons (good_apart (tS := 58) (tR := 4) (e := 270) (size := 33) Tryz.underlying58 (by kernel_rfl) (Ext.of Tryz.func225 (by kernel_rfl) (by kernel_rfl) (by kernel_rfl) (by kernel_rfl))) (OrOK.cons (good_apart (tS := 59) (tR := 4) (e := 282) (size := 34) Tryz.underlying59 (by kernel_rfl) (Ext.of Tryz.func227 (by kernel_rfl) (by kernel_rfl) (by kernel_rfl) (by kernel_rfl))) (OrOK.cons (good_apart (tS := 61) (tR := 4) (e := 162) (size := 2) Tryz.underlying61 (by kernel_rfl) (Ext.of Tryz.func232 (by kernel_rfl) (by kernel_rfl) (by kernel_rfl) (by kernel_rfl))) (OrOK.cons (good_apart (tS := 60) (tR := 4) (e := 359) (size := 6) Tryz.underlying60 (by kernel_rfl) (Ext.of Tryz.func234 (by kernel_rfl) (by kernel_rfl) (by kernel_rfl) (by kernel_rfl))) OrOK.nil)))))))))))))))))
def memo78_0 : Memo := ⟨[.sl [.int .u8 97]], .agg [.int .u8 202, .int .u8 151, .int .u8 129, .int .u8 18, .int .u8 202, .int .u8 27, .int .u8 189, .int .u8 202, .int .u8 250, .int .u8 194, .int .u8 49, .int .u8 179, .int .u8 154, .int .u8 35, .int .u8 220, .int .u8 77, .int .u8 167, .int .u8 134, .int .u8 239, .int .u8 248, .int .u8 20, .int .u8 124, .int .u8 78, .int .u8 114, .int .u8 185, .int .u8 128, .int .u8 119, .int .u8 133, .int .u8 175, .int .u8 238, .int .u8 72, .int .u8 187]⟩
set_option maxRecDepth 1000000 in
theorem memo78_0_run : memo78_0.run Tryz.prog orcs0 (Pos.ofNat 78) = .ok := by kernel_rfl
def memo78_1 : Memo := ⟨[.sl [.int .u8 202, .int .u8 151, .int .u8 129, .int .u8 18, .int .u8 202, .int .u8 27, .int .u8 189, .int .u8 202, .int .u8 250, .int .u8 194, .int .u8 49, .int .u8 179, .int .u8 154, .int .u8 35, .int .u8 220, .int .u8 77, .int .u8 167, .int .u8 134, .int .u8 239, .int .u8 248, .int .u8 20, .int .u8 124, .int .u8 78, .int .u8 114, .int .u8 185, .int .u8 128, .int .u8 119, .int .u8 133, .int .u8 175, .int .u8 238, .int .u8 72, .int .u8 187, .int .u8 1]], .agg [.int .u8 98, .int .u8 221, .int .u8 88, .int .u8 223, .int .u8 241, .int .u8 81, .int .u8 230, .int .u8 99, .int .u8 113, .int .u8 128, .int .u8 210, .int .u8 14, .int .u8 249, .int .u8 94, .int .u8 78, .int .u8 196, .int .u8 21, .int .u8 50, .int .u8 140, .int .u8 190, .int .u8 77, .int .u8 116, .int .u8 206, .int .u8 116, .int .u8 23, .int .u8 106, .int .u8 185, .int .u8 189, .int .u8 180, .int .u8 228, .int .u8 251, .int .u8 107]⟩
set_option maxRecDepth 1000000 in
theorem memo78_1_run : memo78_1.run Tryz.prog orcs0 (Pos.ofNat 78) = .ok := by kernel_rfl
noncomputable def memo78 : List Memo := [memo78_0, memo78_1]
theorem memo78_ok : ∀ m ∈ memo78, m.wf = true ∧ m.run Tryz.prog orcs0 (Pos.ofNat 78) = .ok := by
  intro m hm
  simp only [memo78, List.mem_cons, List.not_mem_nil, or_false] at hm
  rcases hm with rfl | rfl
  · exact ⟨by kernel_rfl, memo78_0_run⟩
  · exact ⟨by kernel_rfl, memo78_1_run⟩
def memo111_0 : Memo := ⟨[.val (.str [99, 115, 100, 104, 120])], .str [110, 110, 110, 110, 110, 110, 110, 100, 110, 98]⟩
set_option maxRecDepth 1000000 in
theorem memo111_0_run : memo111_0.run Tryz.prog orcs0 (Pos.ofNat 111) = .ok := by kernel_rfl
noncomputable def memo111 : List Memo := [memo111_0]
theorem memo111_ok : ∀ m ∈ memo111, m.wf = true ∧ m.run Tryz.prog orcs0 (Pos.ofNat 111) = .ok := by
  intro m hm
  simp only [memo111, List.mem_cons, List.not_mem_nil, or_false] at hm
  subst hm
  exact ⟨by kernel_rfl, memo111_0_run⟩
noncomputable def orcs : PT Orc := mkO [(57, orcInsert Tryz.prog orcs0 (Pos.ofNat 57)), (174, orcInsert Tryz.prog orcs0 (Pos.ofNat 174)), (180, orcInsert Tryz.prog orcs0 (Pos.ofNat 180)), (184, orcInsert Tryz.prog orcs0 (Pos.ofNat 184)), (193, orcInsert Tryz.prog orcs0 (Pos.ofNat 193)), (199, orcInsert Tryz.prog orcs0 (Pos.ofNat 199)), (78, orcMemo memo78), (111, orcMemo memo111), (242, orcIndexByte), (442, orcCount), (430, orcId), (270, orcNil), (272, orcNil), (273, orcMark), (275, orcMark), (253, orcLoad .u32), (266, orcStore), (271, orcCas .i32), (276, orcAdd .i32), (97, orcApart), (222, orcApart), (225, orcApart), (227, orcApart), (232, orcApart), (234, orcApart)]
theorem orcsOK : OrOK Tryz.prog orcs := (OrOK.cons (good_insertN mixes orcs0OK 57) (OrOK.cons (good_insertN mixes orcs0OK 174) (OrOK.cons (good_insertN mixes orcs0OK 180) (OrOK.cons (good_insertN mixes orcs0OK 184) (OrOK.cons (good_insertN mixes orcs0OK 193) (OrOK.cons (good_insertN mixes orcs0OK 199) (OrOK.cons (good_memo mixes orcs0OK 78 memo78 memo78_ok) (OrOK.cons (good_memo mixes orcs0OK 111 memo111 memo111_ok) orcs0OK))))))))
def ns0 : List Int := [0, 0, 0, 0, 0, 0, 0, 0, 0, 1, 1, 1, 1, 1, 0, 0, 0, 0, 0, 0, 0, 0, 0, 0, 0, 0, 0, 0, 0, 0, 0, 0, 1, 0, 0, 0, 0, 0, 0, 0, 0, 0, 0, 0, 0, 0, 0, 0, 0, 0, 0, 0, 0, 0, 0, 0, 0, 0, 0, 0, 0, 0, 0, 0, 0, 0, 0, 0, 0, 0, 0, 0, 0, 0, 0, 0, 0, 0, 0, 0, 0, 0, 0, 0, 0, 0, 0, 0, 0, 0, 0, 0, 0, 0, 0, 0, 0, 0, 0, 0, 0, 0, 0, 0, 0, 0, 0, 0, 0, 0, 0, 0, 0, 0, 0, 0, 0, 0, 0, 0, 0, 0, 0, 0, 0, 0, 0, 0, 0, 0, 0, 0, 0, 0, 0, 0, 0, 0, 0, 0, 0, 0, 0, 0, 0, 0, 0, 0, 0, 0, 0, 0, 0, 0, 0, 0, 0, 0, 0, 0, 0, 0, 0, 0, 0, 0, 0, 0, 0, 0, 0, 0, 0, 0, 0, 0, 0, 0, 0, 0, 0, 0, 0, 0, 0, 0, 0, 0, 0, 0, 0, 0, 0, 0, 0, 0, 0, 0, 0, 0, 0, 0, 0, 0, 0, 0, 0, 0, 0, 0, 0, 0, 0, 0, 0, 0, 0, 0, 0, 0, 0, 0, 0, 0, 0, 0, 0, 0, 0, 0, 0, 0, 0, 0, 0, 0, 0, 0, 0, 0, 0, 0, 0, 0, 0, 0, 0, 0, 0, 0, 0, 0, 0, 0, 0, 0]
def gvs : List GV := [⟨0, .u8, ns0⟩]
set_option maxRecDepth 100000 in
theorem known {w : World} (h : laidMetH Tryz.prog Rows.backupNoneRow.laid w) : GVs 1 gvs w := by
  rw [MakeChecks.laidMetH_plain _ _ _ (by kernel_rfl)] at h
  have h0 := laid_ints (k := .u8) (ns := ns0) (n := 256) h (name := "strings.asciiSpace") (List.mem_cons_of_mem _ (List.mem_cons_self ..)) (g := 0) (by kernel_rfl) (t := 298) (by kernel_rfl) (e := 5) (by kernel_rfl) (by kernel_rfl) (by kernel_rfl) (by kernel_rfl)
  refine ⟨?_, fun x hx => ?_⟩
  · obtain ⟨c, t, fz, hb, _⟩ := h0; exact (Array.getElem?_eq_some_iff.1 hb).1
  · simp only [gvs, List.mem_cons, List.not_mem_nil, or_false] at hx
    subst hx
    exact ⟨by decide, h0⟩
noncomputable def cells0 : List ACell := (((((List.replicate 56 ACell.q).set 5 (.s 1101 none)).set 7 (.s 0 none)).set 53 (.s 0 none)).set 54 (.s 0 none)).set 55 (.s 0 none)
set_option maxRecDepth 1000000 in
theorem ranF0 : runLawF Tryz.prog orcs (Pos.ofNat 3) (acArgs cells0 ((Tryz.f3.params.toList.drop 1).map (shpT Tryz.prog))) (heapOf 1 gvs) = .ok := by kernel_rfl
theorem ran0 : runLaw Tryz.prog orcs (Pos.ofNat 3) (acArgs cells0 ((Tryz.f3.params.toList.drop 1).map (shpT Tryz.prog))) (heapOf 1 gvs) = .ok := (runLawF_eq _ _ _ _ _).symm.trans ranF0
noncomputable def cells1 : List ACell := (((((List.replicate 56 ACell.q).set 5 (.s 0 (some 1100))).set 7 (.s 71 none)).set 53 (.s 0 none)).set 54 (.s 0 none)).set 55 (.s 0 none)
set_option maxRecDepth 1000000 in
theorem ranF1 : runLawF Tryz.prog orcs (Pos.ofNat 3) (acArgs cells1 ((Tryz.f3.params.toList.drop 1).map (shpT Tryz.prog))) (heapOf 1 gvs) = .ok := by kernel_rfl
theorem ran1 : runLaw Tryz.prog orcs (Pos.ofNat 3) (acArgs cells1 ((Tryz.f3.params.toList.drop 1).map (shpT Tryz.prog))) (heapOf 1 gvs) = .ok := (runLawF_eq _ _ _ _ _).symm.trans ranF1
noncomputable def cells2 : List ACell := (((((List.replicate 56 ACell.q).set 5 (.s 0 (some 1100))).set 7 (.s 0 (some 70))).set 53 (.s 4101 none)).set 54 (.s 0 none)).set 55 (.s 0 none)
set_option maxRecDepth 1000000 in
theorem ranF2 : runLawF Tryz.prog orcs (Pos.ofNat 3) (acArgs cells2 ((Tryz.f3.params.toList.drop 1).map (shpT Tryz.prog))) (heapOf 1 gvs) = .ok := by kernel_rfl
theorem ran2 : runLaw Tryz.prog orcs (Pos.ofNat 3) (acArgs cells2 ((Tryz.f3.params.toList.drop 1).map (shpT Tryz.prog))) (heapOf 1 gvs) = .ok := (runLawF_eq _ _ _ _ _).symm.trans ranF2
noncomputable def cells3 : List ACell := (((((List.replicate 56 ACell.q).set 5 (.s 0 (some 1100))).set 7 (.s 0 (some 70))).set 53 (.s 0 (some 4100))).set 54 (.s 101 none)).set 55 (.s 0 none)
set_option maxRecDepth 1000000 in
theorem ranF3 : runLawF Tryz.prog orcs (Pos.ofNat 3) (acArgs cells3 ((Tryz.f3.params.toList.drop 1).map (shpT Tryz.prog))) (heapOf 1 gvs) = .ok := by kernel_rfl
theorem ran3 : runLaw Tryz.prog orcs (Pos.ofNat 3) (acArgs cells3 ((Tryz.f3.params.toList.drop 1).map (shpT Tryz.prog))) (heapOf 1 gvs) = .ok := (runLawF_eq _ _ _ _ _).symm.trans ranF3
noncomputable def cells4 : List ACell := (((((List.replicate 56 ACell.q).set 5 (.s 0 (some 1100))).set 7 (.s 0 (some 70))).set 53 (.s 0 (some 4100))).set 54 (.s 0 (some 100))).set 55 (.s 101 none)
set_option maxRecDepth 1000000 in
theorem ranF4 : runLawF Tryz.prog orcs (Pos.ofNat 3) (acArgs cells4 ((Tryz.f3.params.toList.drop 1).map (shpT Tryz.prog))) (heapOf 1 gvs) = .ok := by kernel_rfl
theorem ran4 : runLaw Tryz.prog orcs (Pos.ofNat 3) (acArgs cells4 ((Tryz.f3.params.toList.drop 1).map (shpT Tryz.prog))) (heapOf 1 gvs) = .ok := (runLawF_eq _ _ _ _ _).symm.trans ranF4

end Go.Proofs.YtggacajlndpgjaaGreatDoor.backupNone
