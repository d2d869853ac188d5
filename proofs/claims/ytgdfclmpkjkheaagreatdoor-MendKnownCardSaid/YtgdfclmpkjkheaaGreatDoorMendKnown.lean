/-
  'MendKnown' returns true: the machine 'AM' runs the program's form to true; it looks into no argument.
-/
import Derived.Test.YtgdfclmpkjkheaaGreatDoorRows
import Derived.WalkKit
import Derived.ProofKit
import Derived.Test.YtgdfclmpkjkheaaGreatDoorAmRow2
import Derived.Test.YtgdfclmpkjkheaaGreatDoorAmOrc2
import Derived.Test.YtgdfclmpkjkheaaGreatDoorAmFast4
import Derived.Test.YtgdfclmpkjkheaaGreatDoorAmIns
import Derived.Test.YtgdfclmpkjkheaaGreatDoorAmMemo
import Derived.Test.YtgdfclmpkjkheaaGreatDoorAmRow3
import Derived.Test.YtgdfclmpkjkheaaGreatDoorCards
import Derived.Test.YtgdfclmpkjkheaaGreatDoorTie
namespace Go.Proofs.YtgdfclmpkjkheaaGreatDoor.mendKnown
open Go.ChangeShapes Go.WideShapes Go.ChangeAt Go.RowKit Go.AM

theorem own : ownKnob Tryz.prog.godebug = none := by kernel_rfl
theorem mixes : Tryz.prog.follows .mixedOrders = true := by kernel_rfl
theorem laid : laidOutB Tryz.prog = true := by kernel_rfl
theorem reads : Tryz.f3.params.toList.all (fun t => Tryz.prog.readableRec t && Nat.blt t Tryz.prog.types.size) = true := by kernel_rfl
noncomputable def orcs0 : PT Orc := mkO [(190, orcIndexByte), (268, orcCount), (256, orcId), (213, orcNil), (215, orcNil), (216, orcMark), (218, orcMark), (201, orcLoad .u32), (209, orcStore), (214, orcCas .i32), (219, orcAdd .i32), (144, orcApart), (146, orcApart), (148, orcApart), (153, orcApart), (155, orcApart)]
theorem orcs0OK : OrOK Tryz.prog orcs0 := (OrOK.cons (good_indexByte (Ext.of Tryz.func190 (by kernel_rfl) (by kernel_rfl) (by kernel_rfl) (by kernel_rfl))) (OrOK.cons (good_count (Ext.of Tryz.func268 (by kernel_rfl) (by kernel_rfl) (by kernel_rfl) (by kernel_rfl))) (OrOK.cons (good_same (Ext.of Tryz.func256 (by kernel_rfl) (by kernel_rfl) (by kernel_rfl) (by kernel_rfl))) (OrOK.cons (good_mark0 (m := .disable) (Ext.of Tryz.func213 (by kernel_rfl) (by kernel_rfl) (by kernel_rfl) (by kernel_rfl))) (OrOK.cons (good_mark0 (m := .enable) (Ext.of Tryz.func215 (by kernel_rfl) (by kernel_rfl) (by kernel_rfl) (by kernel_rfl))) (OrOK.cons (good_marked (m := .acquire) (Ext.of Tryz.func216 (by kernel_rfl) (by kernel_rfl) (by kernel_rfl) (by kernel_rfl))) (OrOK.cons (good_marked (m := .releaseMerge) (Ext.of Tryz.func218 (by kernel_rfl) (by kernel_rfl) (by kernel_rfl) (by kernel_rfl))) (OrOK.cons (good_load (i := .u32) (Ext.of Tryz.func201 (by kernel_rfl) (by kernel_rfl) (by kernel_rfl) (by kernel_rfl))) (OrOK.cons (good_store (Ext.of Tryz.func209 (by kernel_rfl) (by kernel_rfl) (by kernel_rfl) (by kernel_rfl))) (OrOK.cons (good_cas (i := .i32) (Ext.of Tryz.func214 (by kernel_rfl) (by kernel_rfl) (by kernel_rfl) (by kernel_rfl))) (OrOK.cons (good_add (i := .i32) (Ext.of Tryz.func219 (by kernel_rfl) (by kernel_rfl) (by kernel_rfl) (by kernel_rfl))) (OrOK.cons (good_apart (tS := 22) (tR := 4) (e := 71) (size := 33) Tryz.underlying22 (by kernel_rfl) (Ext.of Tryz.func144 (by kernel_rfl) (by kernel_rfl) (by kernel_rfl) (by kernel_rfl))) (OrOK.cons (good_apart (tS := 23) (tR := 4) (e := 84) (size := 33) Tryz.underlying23 (by kernel_rfl) (Ext.of Tryz.func146 (by kernel_rfl) (by kernel_rfl) (by kernel_rfl) (by kernel_rfl))) (OrOK.cons (good_apart (tS := 24) (tR := 4) (e := 157) (size := 34) Tryz.underlying24 (by kernel_rfl) (Ext.of Tryz.func148 (by kernel_rfl) (by kernel_rfl) (by kernel_rfl) (by kernel_rfl))) (OrOK.cons (good_apart (tS := 26) (tR := 4) (e := 163) (size := 2) Tryz.underlying26 (by kernel_rfl) (Ext.of Tryz.func153 (by kernel_rfl) (by kernel_rfl) (by kernel_rfl) (by kernel_rfl))) (OrOK.cons (good_apart (tS := 25) (tR := 4) (e := 217) (size := 6) Tryz.underlying25 (by kernel_rfl) (Ext.of Tryz.func155 (by kernel_rfl) (by kernel_rfl) (by kernel_rfl) (by kernel_rfl))) OrOK.nil))))))))))))))))
def memo30_0 : Memo := ⟨[.sl [.int .u8 62, .int .u8 35, .int .u8 232, .int .u8 22, .int .u8 0, .int .u8 57, .int .u8 89, .int .u8 74, .int .u8 51, .int .u8 137, .int .u8 79, .int .u8 101, .int .u8 100, .int .u8 225, .int .u8 177, .int .u8 52, .int .u8 139, .int .u8 189, .int .u8 122, .int .u8 0, .int .u8 136, .int .u8 212, .int .u8 44, .int .u8 74, .int .u8 203, .int .u8 115, .int .u8 238, .int .u8 174, .int .u8 213, .int .u8 156, .int .u8 0, .int .u8 157, .int .u8 1]], .agg [.int .u8 94, .int .u8 33, .int .u8 142, .int .u8 190, .int .u8 44, .int .u8 179, .int .u8 188, .int .u8 176, .int .u8 165, .int .u8 90, .int .u8 197, .int .u8 238, .int .u8 186, .int .u8 137, .int .u8 92, .int .u8 182, .int .u8 13, .int .u8 94, .int .u8 176, .int .u8 98, .int .u8 173, .int .u8 8, .int .u8 135, .int .u8 232, .int .u8 172, .int .u8 145, .int .u8 179, .int .u8 173, .int .u8 195, .int .u8 81, .int .u8 63, .int .u8 198]⟩
set_option maxRecDepth 1000000 in
theorem memo30_0_run : memo30_0.run Tryz.prog orcs0 (Pos.ofNat 30) = .ok := by kernel_rfl
def memo30_1 : Memo := ⟨[.sl [.int .u8 62, .int .u8 35, .int .u8 232, .int .u8 22, .int .u8 0, .int .u8 57, .int .u8 89, .int .u8 74, .int .u8 51, .int .u8 137, .int .u8 79, .int .u8 101, .int .u8 100, .int .u8 225, .int .u8 177, .int .u8 52, .int .u8 139, .int .u8 189, .int .u8 122, .int .u8 0, .int .u8 136, .int .u8 212, .int .u8 44, .int .u8 74, .int .u8 203, .int .u8 115, .int .u8 238, .int .u8 174, .int .u8 213, .int .u8 156, .int .u8 0, .int .u8 157, .int .u8 2]], .agg [.int .u8 20, .int .u8 111, .int .u8 169, .int .u8 97, .int .u8 221, .int .u8 149, .int .u8 9, .int .u8 156, .int .u8 44, .int .u8 181, .int .u8 174, .int .u8 156, .int .u8 130, .int .u8 129, .int .u8 29, .int .u8 46, .int .u8 25, .int .u8 151, .int .u8 163, .int .u8 40, .int .u8 174, .int .u8 124, .int .u8 83, .int .u8 140, .int .u8 48, .int .u8 241, .int .u8 121, .int .u8 0, .int .u8 214, .int .u8 147, .int .u8 195, .int .u8 231]⟩
set_option maxRecDepth 1000000 in
theorem memo30_1_run : memo30_1.run Tryz.prog orcs0 (Pos.ofNat 30) = .ok := by kernel_rfl
def memo30_2 : Memo := ⟨[.sl [.int .u8 97]], .agg [.int .u8 202, .int .u8 151, .int .u8 129, .int .u8 18, .int .u8 202, .int .u8 27, .int .u8 189, .int .u8 202, .int .u8 250, .int .u8 194, .int .u8 49, .int .u8 179, .int .u8 154, .int .u8 35, .int .u8 220, .int .u8 77, .int .u8 167, .int .u8 134, .int .u8 239, .int .u8 248, .int .u8 20, .int .u8 124, .int .u8 78, .int .u8 114, .int .u8 185, .int .u8 128, .int .u8 119, .int .u8 133, .int .u8 175, .int .u8 238, .int .u8 72, .int .u8 187]⟩
set_option maxRecDepth 1000000 in
theorem memo30_2_run : memo30_2.run Tryz.prog orcs0 (Pos.ofNat 30) = .ok := by kernel_rfl
def memo30_3 : Memo := ⟨[.sl [.int .u8 98]], .agg [.int .u8 62, .int .u8 35, .int .u8 232, .int .u8 22, .int .u8 0, .int .u8 57, .int .u8 89, .int .u8 74, .int .u8 51, .int .u8 137, .int .u8 79, .int .u8 101, .int .u8 100, .int .u8 225, .int .u8 177, .int .u8 52, .int .u8 139, .int .u8 189, .int .u8 122, .int .u8 0, .int .u8 136, .int .u8 212, .int .u8 44, .int .u8 74, .int .u8 203, .int .u8 115, .int .u8 238, .int .u8 174, .int .u8 213, .int .u8 156, .int .u8 0, .int .u8 157]⟩
set_option maxRecDepth 1000000 in
theorem memo30_3_run : memo30_3.run Tryz.prog orcs0 (Pos.ofNat 30) = .ok := by kernel_rfl
def memo30_4 : Memo := ⟨[.sl [.int .u8 202, .int .u8 151, .int .u8 129, .int .u8 18, .int .u8 202, .int .u8 27, .int .u8 189, .int .u8 202, .int .u8 250, .int .u8 194, .int .u8 49, .int .u8 179, .int .u8 154, .int .u8 35, .int .u8 220, .int .u8 77, .int .u8 167, .int .u8 134, .int .u8 239, .int .u8 248, .int .u8 20, .int .u8 124, .int .u8 78, .int .u8 114, .int .u8 185, .int .u8 128, .int .u8 119, .int .u8 133, .int .u8 175, .int .u8 238, .int .u8 72, .int .u8 187, .int .u8 1]], .agg [.int .u8 98, .int .u8 221, .int .u8 88, .int .u8 223, .int .u8 241, .int .u8 81, .int .u8 230, .int .u8 99, .int .u8 113, .int .u8 128, .int .u8 210, .int .u8 14, .int .u8 249, .int .u8 94, .int .u8 78, .int .u8 196, .int .u8 21, .int .u8 50, .int .u8 140, .int .u8 190, .int .u8 77, .int .u8 116, .int .u8 206, .int .u8 116, .int .u8 23, .int .u8 106, .int .u8 185, .int .u8 189, .int .u8 180, .int .u8 228, .int .u8 251, .int .u8 107]⟩
set_option maxRecDepth 1000000 in
theorem memo30_4_run : memo30_4.run Tryz.prog orcs0 (Pos.ofNat 30) = .ok := by kernel_rfl
def memo30_5 : Memo := ⟨[.sl [.int .u8 202, .int .u8 151, .int .u8 129, .int .u8 18, .int .u8 202, .int .u8 27, .int .u8 189, .int .u8 202, .int .u8 250, .int .u8 194, .int .u8 49, .int .u8 179, .int .u8 154, .int .u8 35, .int .u8 220, .int .u8 77, .int .u8 167, .int .u8 134, .int .u8 239, .int .u8 248, .int .u8 20, .int .u8 124, .int .u8 78, .int .u8 114, .int .u8 185, .int .u8 128, .int .u8 119, .int .u8 133, .int .u8 175, .int .u8 238, .int .u8 72, .int .u8 187, .int .u8 2]], .agg [.int .u8 5, .int .u8 34, .int .u8 211, .int .u8 126, .int .u8 101, .int .u8 181, .int .u8 118, .int .u8 210, .int .u8 206, .int .u8 89, .int .u8 121, .int .u8 196, .int .u8 146, .int .u8 73, .int .u8 170, .int .u8 166, .int .u8 161, .int .u8 165, .int .u8 181, .int .u8 198, .int .u8 173, .int .u8 2, .int .u8 157, .int .u8 129, .int .u8 122, .int .u8 11, .int .u8 113, .int .u8 44, .int .u8 127, .int .u8 24, .int .u8 78, .int .u8 39]⟩
set_option maxRecDepth 1000000 in
theorem memo30_5_run : memo30_5.run Tryz.prog orcs0 (Pos.ofNat 30) = .ok := by kernel_rfl
noncomputable def memo30 : List Memo := [memo30_0, memo30_1, memo30_2, memo30_3, memo30_4, memo30_5]
theorem memo30_ok : ∀ m ∈ memo30, m.wf = true ∧ m.run Tryz.prog orcs0 (Pos.ofNat 30) = .ok := by
  intro m hm
  simp only [memo30, List.mem_cons, List.not_mem_nil, or_false] at hm
  rcases hm with rfl | rfl | rfl | rfl | rfl | rfl
  · exact ⟨by kernel_rfl, memo30_0_run⟩
  · exact ⟨by kernel_rfl, memo30_1_run⟩
  · exact ⟨by kernel_rfl, memo30_2_run⟩
  · exact ⟨by kernel_rfl, memo30_3_run⟩
  · exact ⟨by kernel_rfl, memo30_4_run⟩
  · exact ⟨by kernel_rfl, memo30_5_run⟩
def memo98_0 : Memo := ⟨[.val (.str [99, 115])], .str [110, 110, 110, 110, 110, 110, 110]⟩
set_option maxRecDepth 1000000 in
theorem memo98_0_run : memo98_0.run Tryz.prog orcs0 (Pos.ofNat 98) = .ok := by kernel_rfl
def memo98_1 : Memo := ⟨[.val (.str [115, 105])], .str [110, 110, 110, 110, 40, 100, 41]⟩
set_option maxRecDepth 1000000 in
theorem memo98_1_run : memo98_1.run Tryz.prog orcs0 (Pos.ofNat 98) = .ok := by kernel_rfl
noncomputable def memo98 : List Memo := [memo98_0, memo98_1]
theorem memo98_ok : ∀ m ∈ memo98, m.wf = true ∧ m.run Tryz.prog orcs0 (Pos.ofNat 98) = .ok := by
  intro m hm
  simp only [memo98, List.mem_cons, List.not_mem_nil, or_false] at hm
  rcases hm with rfl | rfl
  · exact ⟨by kernel_rfl, memo98_0_run⟩
  · exact ⟨by kernel_rfl, memo98_1_run⟩
noncomputable def orcs : PT Orc := mkO [(105, orcInsert Tryz.prog orcs0 (Pos.ofNat 105)), (109, orcInsert Tryz.prog orcs0 (Pos.ofNat 109)), (112, orcInsert Tryz.prog orcs0 (Pos.ofNat 112)), (121, orcInsert Tryz.prog orcs0 (Pos.ofNat 121)), (126, orcInsert Tryz.prog orcs0 (Pos.ofNat 126)), (30, orcMemo memo30), (98, orcMemo memo98), (190, orcIndexByte), (268, orcCount), (256, orcId), (213, orcNil), (215, orcNil), (216, orcMark), (218, orcMark), (201, orcLoad .u32), (209, orcStore), (214, orcCas .i32), (219, orcAdd .i32), (144, orcApart), (146, orcApart), (148, orcApart), (153, orcApart), (155, orcApart)]
theorem orcsOK : OrOK Tryz.prog orcs := (OrOK.cons (good_insertN mixes orcs0OK 105) (OrOK.cons (good_insertN mixes orcs0OK 109) (OrOK.cons (good_insertN mixes orcs0OK 112) (OrOK.cons (good_insertN mixes orcs0OK 121) (OrOK.cons (good_insertN mixes orcs0OK 126) (OrOK.cons (good_memo mixes orcs0OK 30 memo30 memo30_ok) (OrOK.cons (good_memo mixes orcs0OK 98 memo98 memo98_ok) orcs0OK)))))))
def ns0 : List Int := [0, 0, 0, 0, 0, 0, 0, 0, 0, 1, 1, 1, 1, 1, 0, 0, 0, 0, 0, 0, 0, 0, 0, 0, 0, 0, 0, 0, 0, 0, 0, 0, 1, 0, 0, 0, 0, 0, 0, 0, 0, 0, 0, 0, 0, 0, 0, 0, 0, 0, 0, 0, 0, 0, 0, 0, 0, 0, 0, 0, 0, 0, 0, 0, 0, 0, 0, 0, 0, 0, 0, 0, 0, 0, 0, 0, 0, 0, 0, 0, 0, 0, 0, 0, 0, 0, 0, 0, 0, 0, 0, 0, 0, 0, 0, 0, 0, 0, 0, 0, 0, 0, 0, 0, 0, 0, 0, 0, 0, 0, 0, 0, 0, 0, 0, 0, 0, 0, 0, 0, 0, 0, 0, 0, 0, 0, 0, 0, 0, 0, 0, 0, 0, 0, 0, 0, 0, 0, 0, 0, 0, 0, 0, 0, 0, 0, 0, 0, 0, 0, 0, 0, 0, 0, 0, 0, 0, 0, 0, 0, 0, 0, 0, 0, 0, 0, 0, 0, 0, 0, 0, 0, 0, 0, 0, 0, 0, 0, 0, 0, 0, 0, 0, 0, 0, 0, 0, 0, 0, 0, 0, 0, 0, 0, 0, 0, 0, 0, 0, 0, 0, 0, 0, 0, 0, 0, 0, 0, 0, 0, 0, 0, 0, 0, 0, 0, 0, 0, 0, 0, 0, 0, 0, 0, 0, 0, 0, 0, 0, 0, 0, 0, 0, 0, 0, 0, 0, 0, 0, 0, 0, 0, 0, 0, 0, 0, 0, 0, 0, 0, 0, 0, 0, 0, 0, 0]
def gvs : List GV := [⟨0, .u8, ns0⟩]
set_option maxRecDepth 100000 in
theorem known {w : World} (h : laidMetH Tryz.prog Rows.mendKnownRow.laid w) : GVs 1 gvs w := by
  rw [MakeChecks.laidMetH_plain _ _ _ (by kernel_rfl)] at h
  have h0 := laid_ints (k := .u8) (ns := ns0) (n := 256) h (name := "strings.asciiSpace") (List.mem_cons_of_mem _ (List.mem_cons_self ..)) (g := 0) (by kernel_rfl) (t := 225) (by kernel_rfl) (e := 5) (by kernel_rfl) (by kernel_rfl) (by kernel_rfl) (by kernel_rfl)
  refine ⟨?_, fun x hx => ?_⟩
  · obtain ⟨c, t, fz, hb, _⟩ := h0; exact (Array.getElem?_eq_some_iff.1 hb).1
  · simp only [gvs, List.mem_cons, List.not_mem_nil, or_false] at hx
    subst hx
    exact ⟨by decide, h0⟩
set_option maxRecDepth 1000000 in
theorem ranF : runLawF Tryz.prog orcs (Pos.ofNat 3) (shpArgs (Tryz.f3.params.toList.map (shpT Tryz.prog)) 0) (heapOf 1 gvs) = .ok := by kernel_rfl
theorem ran : runLaw Tryz.prog orcs (Pos.ofNat 3) (shpArgs (Tryz.f3.params.toList.map (shpT Tryz.prog)) 0) (heapOf 1 gvs) = .ok := (runLawF_eq _ _ _ _ _).symm.trans ranF

theorem door_met (os : Os) (args : Array Value) : laidMetH Tryz.prog Rows.mendKnownRow.laid ((World.doorLaid Tryz.prog 400 os).forCall (fun _ _ => 0) ⟨#[], args, []⟩).memory :=
  laidMetH_of_parts3 (fuel := 8) (laidMet_of_run' 8 (by kernel_rfl) (by kernel_rfl)) (by kernel_rfl) (by kernel_rfl)

set_option maxRecDepth 100000 in
theorem lifted (os : Os) (started : os.Started) (H : Type) (enc : TypeId × Value → H) :
    ReturnsInHanded {} Tryz.checked os 3 .any (fun w args => (Rows.mendKnownSpec.pre enc Tryz.prog Tryz.f3 [] false w args ∧ laidMetH Tryz.prog Rows.mendKnownRow.laid w) ∧ sizedMet enc Tryz.prog Tryz.f3 (OpenSpec.ofChange Rows.mendKnownSpec) false w args)
      (Rows.mendKnownSpec.post enc Tryz.prog Tryz.f3 false true false false) := by
  refine returnsInHanded_of_change_and (C := Tryz.checked) (X := fun w _ => laidMetH Tryz.prog Rows.mendKnownRow.laid w) (fun _ _ _ hh h => h.of_heap hh) own started (by kernel_rfl) Tryz.func3
    (ChangeSpec.witness_shaped (enc := enc) (C := Tryz.checked) (os := os) (X := fun w _ => laidMetH Tryz.prog Rows.mendKnownRow.laid w) false (World.doorLaid Tryz.prog 400 os) #[] 8 rfl (World.shaped_of_RefB (by kernel_rfl) (by kernel_rfl)) (by kernel_rfl) (by kernel_rfl) (by kernel_rfl) (door_met os _)) ?_
  intro W base args ds gs before hval0 hW _ _ hL _
  have hW' := hW
  obtain ⟨p, q, hA0, hV, _, _, _⟩ := hW
  have hA : DataW.TrodAll enc Tryz.prog W 0 (fun _ => true) true Tryz.f3.params.toList args.toList ds p := hA0
  obtain ⟨hlen, hdl⟩ := trodAll_len hA
  obtain ⟨rfl, rfl⟩ := trodVars_none hV
  have hsh := ShpsOf.of_okWide (P := Tryz.prog) hlen (fun j t v a b => hval0 j t v (by rw [← Array.getElem?_toList]; exact a) (by rw [← Array.getElem?_toList]; exact b))
  refine (law_glob mixes orcsOK ran args hsh W (known hL)).mono fun e W' ⟨he, hs, hk⟩ => ?_
  subst he
  refine ⟨_, rfl, post_true laid reads rfl (tb := 4) rfl Tryz.underlying4 hW' ?_ hs hk⟩
  have hn : ds.length = 0 := by rw [hdl, Tryz.params3]; rfl
  match ds, hn with
  | [], _ => exact ⟨rfl, rfl, rfl⟩

theorem over : Rows.mendKnownRow.holds Tryz.pinned (OpenSpec.ofChange Rows.mendKnownSpec) :=
  OpenClaim.holds_of_wide 3 Tryz.f3 rfl rfl rfl rfl rfl rfl rfl ⟨rfl, rfl, rfl, rfl, rfl⟩ rfl rfl rfl rfl rfl (by kernel_rfl) Tryz.func3 (by kernel_rfl)
    (of_decide_eq_true (by kernel_rfl)) (by unfold Func.isWrapper; first | (rw [if_pos (by decide +kernel)]; kernel_rfl) | (rw [if_neg (by decide +kernel)]; exact ⟨rfl, rfl⟩))
    (fun os started H enc _ => lifted os started H enc)

/-- The statement. -/
theorem proved : Rows.MendKnownCardSaid :=
  Claim7.holds_tied_plain_at .later [] [.listed, .data] true (true, "23d7af7ce2d66722433c0433823ba83e497c2324fefc4d0bfed8a8f3be71cf69") true
    over (fun _ h => by cases h) (by kernel_rfl) (fun _ h => by cases h) mendKnown_row_tie rfl ⟨rfl, rfl⟩ (by kernel_rfl) rfl
    (fun f fn hf hfn => by
      obtain rfl : f = 3 := Option.some.inj ((show Tryz.prog.funcNamed "chartulary/chartularylaw26.MendKnown" = some 3 by kernel_rfl).symm.trans hf) |>.symm
      obtain rfl : fn = Tryz.f3 := (Option.some.inj (Tryz.func3.symm.trans hfn)).symm
      exact ⟨by kernel_rfl, fun j t ht => by
        have hall : Tryz.f3.params.toList.all (fun t => !Tryz.prog.wantsStandIn t) = true := by kernel_rfl
        have := List.all_eq_true.1 hall t (List.mem_of_getElem? (by rw [Array.getElem?_toList]; exact ht))
        exact (show Tryz.prog.wantsStandIn t = false by simpa using this)⟩)
    (by kernel_rfl)

#print axioms proved
end Go.Proofs.YtgdfclmpkjkheaaGreatDoor.mendKnown
