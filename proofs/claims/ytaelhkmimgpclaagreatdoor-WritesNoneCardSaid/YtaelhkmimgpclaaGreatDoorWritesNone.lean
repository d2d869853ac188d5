/-
  'WritesNone' returns true: the machine 'AM' runs the program's form to true; it looks into no argument.
-/
import Derived.Test.YtaelhkmimgpclaaGreatDoorRows
import Derived.WalkKit
import Derived.ProofKit
import Derived.Test.YtaelhkmimgpclaaGreatDoorAmRow2
import Derived.Test.YtaelhkmimgpclaaGreatDoorAmOrc2
import Derived.Test.YtaelhkmimgpclaaGreatDoorAmFast4
import Derived.Test.YtaelhkmimgpclaaGreatDoorAmIns
import Derived.Test.YtaelhkmimgpclaaGreatDoorAmMemo
import Derived.Test.YtaelhkmimgpclaaGreatDoorAmRow3
import Derived.Test.YtaelhkmimgpclaaGreatDoorCards
import Derived.Test.YtaelhkmimgpclaaGreatDoorTie
namespace Go.Proofs.YtaelhkmimgpclaaGreatDoor.writesNone
open Go.ChangeShapes Go.WideShapes Go.ChangeAt Go.RowKit Go.AM

theorem own : ownKnob Tryz.prog.godebug = none := by kernel_rfl
theorem mixes : Tryz.prog.follows .mixedOrders = true := by kernel_rfl
theorem laid : laidOutB Tryz.prog = true := by kernel_rfl
theorem reads : Tryz.f4.params.toList.all (fun t => Tryz.prog.readableRec t && Nat.blt t Tryz.prog.types.size) = true := by kernel_rfl
noncomputable def orcs0 : PT Orc := mkO [(133, orcIndexByte), (207, orcCount), (195, orcId), (151, orcNil), (153, orcNil), (154, orcMark), (156, orcMark), (139, orcLoad .u32), (147, orcStore), (152, orcCas .i32), (157, orcAdd .i32)]
theorem orcs0OK : OrOK Tryz.prog orcs0 := (OrOK.cons (good_indexByte (Ext.of Tryz.func133 (by kernel_rfl) (by kernel_rfl) (by kernel_rfl) (by kernel_rfl))) (OrOK.cons (good_count (Ext.of Tryz.func207 (by kernel_rfl) (by kernel_rfl) (by kernel_rfl) (by kernel_rfl))) (OrOK.cons (good_same (Ext.of Tryz.func195 (by kernel_rfl) (by kernel_rfl) (by kernel_rfl) (by kernel_rfl))) (OrOK.cons (good_mark0 (m := .disable) (Ext.of Tryz.func151 (by kernel_rfl) (by kernel_rfl) (by kernel_rfl) (by kernel_rfl))) (OrOK.cons (good_mark0 (m := .enable) (Ext.of Tryz.func153 (by kernel_rfl) (by kernel_rfl) (by kernel_rfl) (by kernel_rfl))) (OrOK.cons (good_marked (m := .acquire) (Ext.of Tryz.func154 (by kernel_rfl) (by kernel_rfl) (by kernel_rfl) (by kernel_rfl))) (OrOK.cons (good_marked (m := .releaseMerge) (Ext.of Tryz.func156 (by kernel_rfl) (by kernel_rfl) (by kernel_rfl) (by kernel_rfl))) (OrOK.cons (good_load (i := .u32) (Ext.of Tryz.func139 (by kernel_rfl) (by kernel_rfl) (by kernel_rfl) (by kernel_rfl))) (OrOK.cons (good_store (Ext.of Tryz.func147 (by kernel_rfl) (by kernel_rfl) (by kernel_rfl) (by kernel_rfl))) (OrOK.cons (good_cas (i := .i32) (Ext.of Tryz.func152 (by kernel_rfl) (by kernel_rfl) (by kernel_rfl) (by kernel_rfl))) (OrOK.cons (good_add (i := .i32) (Ext.of Tryz.func157 (by kernel_rfl) (by kernel_rfl) (by kernel_rfl) (by kernel_rfl))) OrOK.nil)))))))))))
def memo26_0 : Memo := ⟨[.sl [.int .u8 97]], .agg [.int .u8 202, .int .u8 151, .int .u8 129, .int .u8 18, .int .u8 202, .int .u8 27, .int .u8 189, .int .u8 202, .int .u8 250, .int .u8 194, .int .u8 49, .int .u8 179, .int .u8 154, .int .u8 35, .int .u8 220, .int .u8 77, .int .u8 167, .int .u8 134, .int .u8 239, .int .u8 248, .int .u8 20, .int .u8 124, .int .u8 78, .int .u8 114, .int .u8 185, .int .u8 128, .int .u8 119, .int .u8 133, .int .u8 175, .int .u8 238, .int .u8 72, .int .u8 187]⟩
set_option maxRecDepth 1000000 in
theorem memo26_0_run : memo26_0.run Tryz.prog orcs0 (Pos.ofNat 26) = .ok := by kernel_rfl
def memo26_1 : Memo := ⟨[.sl [.int .u8 202, .int .u8 151, .int .u8 129, .int .u8 18, .int .u8 202, .int .u8 27, .int .u8 189, .int .u8 202, .int .u8 250, .int .u8 194, .int .u8 49, .int .u8 179, .int .u8 154, .int .u8 35, .int .u8 220, .int .u8 77, .int .u8 167, .int .u8 134, .int .u8 239, .int .u8 248, .int .u8 20, .int .u8 124, .int .u8 78, .int .u8 114, .int .u8 185, .int .u8 128, .int .u8 119, .int .u8 133, .int .u8 175, .int .u8 238, .int .u8 72, .int .u8 187, .int .u8 1]], .agg [.int .u8 98, .int .u8 221, .int .u8 88, .int .u8 223, .int .u8 241, .int .u8 81, .int .u8 230, .int .u8 99, .int .u8 113, .int .u8 128, .int .u8 210, .int .u8 14, .int .u8 249, .int .u8 94, .int .u8 78, .int .u8 196, .int .u8 21, .int .u8 50, .int .u8 140, .int .u8 190, .int .u8 77, .int .u8 116, .int .u8 206, .int .u8 116, .int .u8 23, .int .u8 106, .int .u8 185, .int .u8 189, .int .u8 180, .int .u8 228, .int .u8 251, .int .u8 107]⟩
set_option maxRecDepth 1000000 in
theorem memo26_1_run : memo26_1.run Tryz.prog orcs0 (Pos.ofNat 26) = .ok := by kernel_rfl
def memo26_2 : Memo := ⟨[.sl [.int .u8 202, .int .u8 151, .int .u8 129, .int .u8 18, .int .u8 202, .int .u8 27, .int .u8 189, .int .u8 202, .int .u8 250, .int .u8 194, .int .u8 49, .int .u8 179, .int .u8 154, .int .u8 35, .int .u8 220, .int .u8 77, .int .u8 167, .int .u8 134, .int .u8 239, .int .u8 248, .int .u8 20, .int .u8 124, .int .u8 78, .int .u8 114, .int .u8 185, .int .u8 128, .int .u8 119, .int .u8 133, .int .u8 175, .int .u8 238, .int .u8 72, .int .u8 187, .int .u8 2]], .agg [.int .u8 5, .int .u8 34, .int .u8 211, .int .u8 126, .int .u8 101, .int .u8 181, .int .u8 118, .int .u8 210, .int .u8 206, .int .u8 89, .int .u8 121, .int .u8 196, .int .u8 146, .int .u8 73, .int .u8 170, .int .u8 166, .int .u8 161, .int .u8 165, .int .u8 181, .int .u8 198, .int .u8 173, .int .u8 2, .int .u8 157, .int .u8 129, .int .u8 122, .int .u8 11, .int .u8 113, .int .u8 44, .int .u8 127, .int .u8 24, .int .u8 78, .int .u8 39]⟩
set_option maxRecDepth 1000000 in
theorem memo26_2_run : memo26_2.run Tryz.prog orcs0 (Pos.ofNat 26) = .ok := by kernel_rfl
def memo26_3 : Memo := ⟨[.sl [.int .u8 202, .int .u8 151, .int .u8 129, .int .u8 18, .int .u8 202, .int .u8 27, .int .u8 189, .int .u8 202, .int .u8 250, .int .u8 194, .int .u8 49, .int .u8 179, .int .u8 154, .int .u8 35, .int .u8 220, .int .u8 77, .int .u8 167, .int .u8 134, .int .u8 239, .int .u8 248, .int .u8 20, .int .u8 124, .int .u8 78, .int .u8 114, .int .u8 185, .int .u8 128, .int .u8 119, .int .u8 133, .int .u8 175, .int .u8 238, .int .u8 72, .int .u8 187, .int .u8 3]], .agg [.int .u8 239, .int .u8 146, .int .u8 133, .int .u8 185, .int .u8 244, .int .u8 170, .int .u8 243, .int .u8 227, .int .u8 141, .int .u8 193, .int .u8 114, .int .u8 51, .int .u8 84, .int .u8 93, .int .u8 167, .int .u8 234, .int .u8 71, .int .u8 144, .int .u8 56, .int .u8 168, .int .u8 225, .int .u8 78, .int .u8 176, .int .u8 84, .int .u8 61, .int .u8 141, .int .u8 92, .int .u8 64, .int .u8 22, .int .u8 251, .int .u8 107, .int .u8 131]⟩
set_option maxRecDepth 1000000 in
theorem memo26_3_run : memo26_3.run Tryz.prog orcs0 (Pos.ofNat 26) = .ok := by kernel_rfl
noncomputable def memo26 : List Memo := [memo26_0, memo26_1, memo26_2, memo26_3]
theorem memo26_ok : ∀ m ∈ memo26, m.wf = true ∧ m.run Tryz.prog orcs0 (Pos.ofNat 26) = .ok := by
  intro m hm
  simp only [memo26, List.mem_cons, List.not_mem_nil, or_false] at hm
  rcases hm with rfl | rfl | rfl | rfl
  · exact ⟨by kernel_rfl, memo26_0_run⟩
  · exact ⟨by kernel_rfl, memo26_1_run⟩
  · exact ⟨by kernel_rfl, memo26_2_run⟩
  · exact ⟨by kernel_rfl, memo26_3_run⟩
def memo79_0 : Memo := ⟨[.val (.str [99, 115, 100, 104, 120])], .str [110, 110, 110, 110, 110, 110, 110, 100, 110, 98]⟩
set_option maxRecDepth 1000000 in
theorem memo79_0_run : memo79_0.run Tryz.prog orcs0 (Pos.ofNat 79) = .ok := by kernel_rfl
noncomputable def memo79 : List Memo := [memo79_0]
theorem memo79_ok : ∀ m ∈ memo79, m.wf = true ∧ m.run Tryz.prog orcs0 (Pos.ofNat 79) = .ok := by
  intro m hm
  simp only [memo79, List.mem_cons, List.not_mem_nil, or_false] at hm
  subst hm
  exact ⟨by kernel_rfl, memo79_0_run⟩
noncomputable def orcs : PT Orc := mkO [(26, orcMemo memo26), (79, orcMemo memo79), (133, orcIndexByte), (207, orcCount), (195, orcId), (151, orcNil), (153, orcNil), (154, orcMark), (156, orcMark), (139, orcLoad .u32), (147, orcStore), (152, orcCas .i32), (157, orcAdd .i32)]
theorem orcsOK : OrOK Tryz.prog orcs := (OrOK.cons (good_memo mixes orcs0OK 26 memo26 memo26_ok) (OrOK.cons (good_memo mixes orcs0OK 79 memo79 memo79_ok) orcs0OK))
def ns0 : List Int := [0, 0, 0, 0, 0, 0, 0, 0, 0, 1, 1, 1, 1, 1, 0, 0, 0, 0, 0, 0, 0, 0, 0, 0, 0, 0, 0, 0, 0, 0, 0, 0, 1, 0, 0, 0, 0, 0, 0, 0, 0, 0, 0, 0, 0, 0, 0, 0, 0, 0, 0, 0, 0, 0, 0, 0, 0, 0, 0, 0, 0, 0, 0, 0, 0, 0, 0, 0, 0, 0, 0, 0, 0, 0, 0, 0, 0, 0, 0, 0, 0, 0, 0, 0, 0, 0, 0, 0, 0, 0, 0, 0, 0, 0, 0, 0, 0, 0, 0, 0, 0, 0, 0, 0, 0, 0, 0, 0, 0, 0, 0, 0, 0, 0, 0, 0, 0, 0, 0, 0, 0, 0, 0, 0, 0, 0, 0, 0, 0, 0, 0, 0, 0, 0, 0, 0, 0, 0, 0, 0, 0, 0, 0, 0, 0, 0, 0, 0, 0, 0, 0, 0, 0, 0, 0, 0, 0, 0, 0, 0, 0, 0, 0, 0, 0, 0, 0, 0, 0, 0, 0, 0, 0, 0, 0, 0, 0, 0, 0, 0, 0, 0, 0, 0, 0, 0, 0, 0, 0, 0, 0, 0, 0, 0, 0, 0, 0, 0, 0, 0, 0, 0, 0, 0, 0, 0, 0, 0, 0, 0, 0, 0, 0, 0, 0, 0, 0, 0, 0, 0, 0, 0, 0, 0, 0, 0, 0, 0, 0, 0, 0, 0, 0, 0, 0, 0, 0, 0, 0, 0, 0, 0, 0, 0, 0, 0, 0, 0, 0, 0, 0, 0, 0, 0, 0, 0]
def gvs : List GV := [⟨0, .u8, ns0⟩]
set_option maxRecDepth 100000 in
theorem known {w : World} (h : laidMetH Tryz.prog Rows.writesNoneRow.laid w) : GVs 1 gvs w := by
  rw [MakeChecks.laidMetH_plain _ _ _ (by kernel_rfl)] at h
  have h0 := laid_ints (k := .u8) (ns := ns0) (n := 256) h (name := "strings.asciiSpace") (List.mem_cons_of_mem _ (List.mem_cons_self ..)) (g := 0) (by kernel_rfl) (t := 166) (by kernel_rfl) (e := 5) (by kernel_rfl) (by kernel_rfl) (by kernel_rfl) (by kernel_rfl)
  refine ⟨?_, fun x hx => ?_⟩
  · obtain ⟨c, t, fz, hb, _⟩ := h0; exact (Array.getElem?_eq_some_iff.1 hb).1
  · simp only [gvs, List.mem_cons, List.not_mem_nil, or_false] at hx
    subst hx
    exact ⟨by decide, h0⟩
noncomputable def cells0 : List ACell := ((((List.replicate 53 ACell.q).set 4 (.s 71 none)).set 50 (.s 0 none)).set 51 (.s 0 none)).set 52 (.s 0 none)
set_option maxRecDepth 1000000 in
theorem ranF0 : runLawF Tryz.prog orcs (Pos.ofNat 4) (acArgs cells0 ((Tryz.f4.params.toList.drop 1).map (shpT Tryz.prog))) (heapOf 1 gvs) = .ok := by kernel_rfl
theorem ran0 : runLaw Tryz.prog orcs (Pos.ofNat 4) (acArgs cells0 ((Tryz.f4.params.toList.drop 1).map (shpT Tryz.prog))) (heapOf 1 gvs) = .ok := (runLawF_eq _ _ _ _ _).symm.trans ranF0
noncomputable def cells1 : List ACell := ((((List.replicate 53 ACell.q).set 4 (.s 0 (some 70))).set 50 (.s 4101 none)).set 51 (.s 0 none)).set 52 (.s 0 none)
set_option maxRecDepth 1000000 in
theorem ranF1 : runLawF Tryz.prog orcs (Pos.ofNat 4) (acArgs cells1 ((Tryz.f4.params.toList.drop 1).map (shpT Tryz.prog))) (heapOf 1 gvs) = .ok := by kernel_rfl
theorem ran1 : runLaw Tryz.prog orcs (Pos.ofNat 4) (acArgs cells1 ((Tryz.f4.params.toList.drop 1).map (shpT Tryz.prog))) (heapOf 1 gvs) = .ok := (runLawF_eq _ _ _ _ _).symm.trans ranF1
noncomputable def cells2 : List ACell := ((((List.replicate 53 ACell.q).set 4 (.s 0 (some 70))).set 50 (.s 0 (some 4100))).set 51 (.s 101 none)).set 52 (.s 0 none)
set_option maxRecDepth 1000000 in
theorem ranF2 : runLawF Tryz.prog orcs (Pos.ofNat 4) (acArgs cells2 ((Tryz.f4.params.toList.drop 1).map (shpT Tryz.prog))) (heapOf 1 gvs) = .ok := by kernel_rfl
theorem ran2 : runLaw Tryz.prog orcs (Pos.ofNat 4) (acArgs cells2 ((Tryz.f4.params.toList.drop 1).map (shpT Tryz.prog))) (heapOf 1 gvs) = .ok := (runLawF_eq _ _ _ _ _).symm.trans ranF2
noncomputable def cells3 : List ACell := ((((List.replicate 53 ACell.q).set 4 (.s 0 (some 70))).set 50 (.s 0 (some 4100))).set 51 (.s 0 (some 100))).set 52 (.s 101 none)
set_option maxRecDepth 1000000 in
theorem ranF3 : runLawF Tryz.prog orcs (Pos.ofNat 4) (acArgs cells3 ((Tryz.f4.params.toList.drop 1).map (shpT Tryz.prog))) (heapOf 1 gvs) = .ok := by kernel_rfl
theorem ran3 : runLaw Tryz.prog orcs (Pos.ofNat 4) (acArgs cells3 ((Tryz.f4.params.toList.drop 1).map (shpT Tryz.prog))) (heapOf 1 gvs) = .ok := (runLawF_eq _ _ _ _ _).symm.trans ranF3
noncomputable def cells4 : List ACell := ((((List.replicate 53 ACell.q).set 4 (.s 0 (some 70))).set 50 (.s 0 (some 4100))).set 51 (.s 0 (some 100))).set 52 (.s 0 (some 100))
set_option maxRecDepth 1000000 in
theorem ranF4 : runLawF Tryz.prog orcs (Pos.ofNat 4) (acArgs cells4 ((Tryz.f4.params.toList.drop 1).map (shpT Tryz.prog))) (heapOf 1 gvs) = .ok := by kernel_rfl
theorem ran4 : runLaw Tryz.prog orcs (Pos.ofNat 4) (acArgs cells4 ((Tryz.f4.params.toList.drop 1).map (shpT Tryz.prog))) (heapOf 1 gvs) = .ok := (runLawF_eq _ _ _ _ _).symm.trans ranF4
noncomputable def cellTys : List TypeId := ((Tryz.prog.cellTypes Tryz.prog.depth 50).getD [])
theorem door_met (os : Os) (args : Array Value) : laidMetH Tryz.prog Rows.writesNoneRow.laid ((World.doorLaid Tryz.prog 400 os).forCall (fun _ _ => 0) ⟨#[], args, []⟩).memory :=
  laidMetH_of_parts3 (fuel := 8) (laidMet_of_run' 8 (by kernel_rfl) (by kernel_rfl)) (by kernel_rfl) (by kernel_rfl)

set_option maxRecDepth 100000 in
theorem lifted (os : Os) (started : os.Started) (H : Type) (enc : TypeId × Value → H) :
    ReturnsInHanded {} Tryz.checked os 4 .any (fun w args => (Rows.writesNoneSpec.pre enc Tryz.prog Tryz.f4 [] false w args ∧ laidMetH Tryz.prog Rows.writesNoneRow.laid w) ∧ sizedMet enc Tryz.prog Tryz.f4 (OpenSpec.ofChange Rows.writesNoneSpec) false w args)
      (Rows.writesNoneSpec.post enc Tryz.prog Tryz.f4 false true false false) := by
  refine returnsInHanded_of_change_and (C := Tryz.checked) (X := fun w _ => laidMetH Tryz.prog Rows.writesNoneRow.laid w) (fun _ _ _ hh h => h.of_heap hh) own started (by kernel_rfl) Tryz.func4
    (ChangeSpec.witness_shaped (enc := enc) (C := Tryz.checked) (os := os) (X := fun w _ => laidMetH Tryz.prog Rows.writesNoneRow.laid w) false (World.doorLaid Tryz.prog 400 os) #[(((Tryz.prog.info? 50).bind (·.zero)).getD .nilIface)] 8 rfl (World.shaped_of_RefB (by kernel_rfl) (by kernel_rfl)) (by kernel_rfl) (by kernel_rfl) (by kernel_rfl) (door_met os _)) ?_
  intro W base args ds gs before hval0 hW _ _ hL _
  have hW' := hW
  obtain ⟨p, q, hA0, hV, _, _, _⟩ := hW
  have hA : DataW.TrodAll enc Tryz.prog W 0 (fun _ => true) true Tryz.f4.params.toList args.toList ds p := hA0
  obtain ⟨hlen, hdl⟩ := trodAll_len hA
  obtain ⟨rfl, rfl⟩ := trodVars_none hV
  have hsh := ShpsOf.of_okWide (P := Tryz.prog) hlen (fun j t v a b => hval0 j t v (by rw [← Array.getElem?_toList]; exact a) (by rw [← Array.getElem?_toList]; exact b))
  have hfin : Calls Tryz.prog 4 args W fun e w' => e = .returned (.bool true) ∧ (∀ r, r < W.heap.size → w'.heap[r]? = W.heap[r]?) ∧ ∀ may, W.keptBut w' may := by
    have hGV : GVs 1 gvs W := known hL
    have hpar : Tryz.f4.params.toList = 50 :: Tryz.f4.params.toList.drop 1 := by rw [Tryz.params4]; rfl
    have h0 : ∃ v0 rest, args.toList = v0 :: rest := by
      cases hl : args.toList with
      | nil => rw [hl, Tryz.params4] at hlen; simp at hlen
      | cons v0 rest => exact ⟨v0, rest, rfl⟩
    obtain ⟨v0, rest, hargs⟩ := h0
    have hok0 : Value.okWide Tryz.prog W .any base 50 v0 := hval0 0 50 v0 (by rw [Tryz.params4]; rfl) (by rw [← Array.getElem?_toList, hargs]; rfl)
    have hrest : ShpsOf ((Tryz.f4.params.toList.drop 1).map (shpT Tryz.prog)) rest := by
      rw [hargs, hpar] at hsh
      cases hsh with
      | cons _ h => exact h
    have hshp0 : ShpOf (shpT Tryz.prog 50) v0 := ShpOf.of_okWide hok0
    have hs0 : shpT Tryz.prog 50 = .agg 53 := by kernel_rfl
    rw [hs0] at hshp0
    obtain ⟨cs, rfl, hcsz, hcone⟩ := hshp0
    have hrow : Row.okWide Tryz.prog W .any base 50 cs := by
      unfold Value.okWide at hok0
      rw [Tryz.underlying50] at hok0
      obtain ⟨cs', e, _, h⟩ := hok0
      cases e; exact h
    have hts : (Tryz.prog.cellTypes Tryz.prog.depth 50) = some cellTys := by kernel_rfl
    have htl : cs.size = cellTys.length := by rw [hcsz]; kernel_rfl
    obtain ⟨a0, n0, c0, hc0⟩ := row_slice hts hrow htl (i := 4) (u := 23) (e := 3) (by kernel_rfl) Tryz.underlying23
    obtain ⟨a1, n1, c1, hc1⟩ := row_slice hts hrow htl (i := 50) (u := 34) (e := 5) (by kernel_rfl) Tryz.underlying34
    obtain ⟨a2, n2, c2, hc2⟩ := row_slice hts hrow htl (i := 51) (u := 35) (e := 33) (by kernel_rfl) Tryz.underlying35
    obtain ⟨a3, n3, c3, hc3⟩ := row_slice hts hrow htl (i := 52) (u := 36) (e := 91) (by kernel_rfl) Tryz.underlying36
    by_cases hb0 : 70 < n0
    · exact law_first mixes orcsOK ran0 hargs (by rw [hcsz]; kernel_rfl) hcone (((((Fits.none 53 cs).set hc0 (by omega) (fun h e => by cases e)).set hc1 (Nat.zero_le _) (fun h e => by cases e)).set hc2 (Nat.zero_le _) (fun h e => by cases e)).set hc3 (Nat.zero_le _) (fun h e => by cases e)) hrest W hGV
    by_cases hb1 : 4100 < n1
    · exact law_first mixes orcsOK ran1 hargs (by rw [hcsz]; kernel_rfl) hcone (((((Fits.none 53 cs).set hc0 (Nat.zero_le _) (fun h e => by cases e; omega)).set hc1 (by omega) (fun h e => by cases e)).set hc2 (Nat.zero_le _) (fun h e => by cases e)).set hc3 (Nat.zero_le _) (fun h e => by cases e)) hrest W hGV
    by_cases hb2 : 100 < n2
    · exact law_first mixes orcsOK ran2 hargs (by rw [hcsz]; kernel_rfl) hcone (((((Fits.none 53 cs).set hc0 (Nat.zero_le _) (fun h e => by cases e; omega)).set hc1 (Nat.zero_le _) (fun h e => by cases e; omega)).set hc2 (by omega) (fun h e => by cases e)).set hc3 (Nat.zero_le _) (fun h e => by cases e)) hrest W hGV
    by_cases hb3 : 100 < n3
    · exact law_first mixes orcsOK ran3 hargs (by rw [hcsz]; kernel_rfl) hcone (((((Fits.none 53 cs).set hc0 (Nat.zero_le _) (fun h e => by cases e; omega)).set hc1 (Nat.zero_le _) (fun h e => by cases e; omega)).set hc2 (Nat.zero_le _) (fun h e => by cases e; omega)).set hc3 (by omega) (fun h e => by cases e)) hrest W hGV
    exact law_first mixes orcsOK ran4 hargs (by rw [hcsz]; kernel_rfl) hcone (((((Fits.none 53 cs).set hc0 (Nat.zero_le _) (fun h e => by cases e; omega)).set hc1 (Nat.zero_le _) (fun h e => by cases e; omega)).set hc2 (Nat.zero_le _) (fun h e => by cases e; omega)).set hc3 (Nat.zero_le _) (fun h e => by cases e; omega)) hrest W hGV
  refine (hfin).mono fun e W' ⟨he, hs, hk⟩ => ?_
  subst he
  refine ⟨_, rfl, post_true laid reads rfl (tb := 4) rfl Tryz.underlying4 hW' ?_ hs hk⟩
  have hn : ds.length = 1 := by rw [hdl, Tryz.params4]; rfl
  match ds, hn with
  | [d0], _ => exact ⟨rfl, rfl, rfl⟩

theorem over : Rows.writesNoneRow.holds Tryz.pinned (OpenSpec.ofChange Rows.writesNoneSpec) :=
  OpenClaim.holds_of_wide 4 Tryz.f4 rfl rfl rfl rfl rfl rfl rfl ⟨rfl, rfl, rfl, rfl, rfl⟩ rfl rfl rfl rfl rfl (by kernel_rfl) Tryz.func4 (by kernel_rfl)
    (of_decide_eq_true (by kernel_rfl)) (by unfold Func.isWrapper; first | (rw [if_pos (by decide +kernel)]; kernel_rfl) | (rw [if_neg (by decide +kernel)]; exact ⟨rfl, rfl⟩))
    (fun os started H enc _ => lifted os started H enc)

/-- The statement. -/
theorem proved : Rows.WritesNoneCardSaid :=
  Claim7.holds_tied_plain_at .later [] [.listed, .data] true (true, "0b8934529ea15837e101b009cd9505c6eb6f8c7dec017ae459cd14af442bc670") true
    over (fun _ h => by cases h) (by kernel_rfl) (fun _ h => by cases h) writesNone_row_tie rfl ⟨rfl, rfl⟩ (by kernel_rfl) rfl
    (fun f fn hf hfn => by
      obtain rfl : f = 4 := Option.some.inj ((show Tryz.prog.funcNamed "chartulary/chartularylaw24.WritesNone" = some 4 by kernel_rfl).symm.trans hf) |>.symm
      obtain rfl : fn = Tryz.f4 := (Option.some.inj (Tryz.func4.symm.trans hfn)).symm
      exact ⟨by kernel_rfl, fun j t ht => by
        have hall : Tryz.f4.params.toList.all (fun t => !Tryz.prog.wantsStandIn t) = true := by kernel_rfl
        have := List.all_eq_true.1 hall t (List.mem_of_getElem? (by rw [Array.getElem?_toList]; exact ht))
        exact (show Tryz.prog.wantsStandIn t = false by simpa using this)⟩)
    (by kernel_rfl)

#print axioms proved
end Go.Proofs.YtaelhkmimgpclaaGreatDoor.writesNone
