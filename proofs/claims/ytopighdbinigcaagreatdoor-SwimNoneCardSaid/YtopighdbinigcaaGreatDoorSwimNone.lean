/-
  'SwimNone' returns true: the machine 'AM' runs the program's form to true; it looks into no argument.
-/
import Derived.Test.YtopighdbinigcaaGreatDoorRows
import Derived.WalkKit
import Derived.ProofKit
import Derived.Test.YtopighdbinigcaaGreatDoorAmRow2
import Derived.Test.YtopighdbinigcaaGreatDoorAmOrc2
import Derived.Test.YtopighdbinigcaaGreatDoorAmFast4
import Derived.Test.YtopighdbinigcaaGreatDoorAmIns
import Derived.Test.YtopighdbinigcaaGreatDoorAmMemo
import Derived.Test.YtopighdbinigcaaGreatDoorCards
import Derived.Test.YtopighdbinigcaaGreatDoorTie
namespace Go.Proofs.YtopighdbinigcaaGreatDoor.swimNone
open Go.ChangeShapes Go.WideShapes Go.ChangeAt Go.RowKit Go.AM

theorem own : ownKnob Tryz.prog.godebug = none := by kernel_rfl
theorem mixes : Tryz.prog.follows .mixedOrders = true := by kernel_rfl
theorem laid : laidOutB Tryz.prog = true := by kernel_rfl
theorem reads : Tryz.f4.params.toList.all (fun t => Tryz.prog.readableRec t && Nat.blt t Tryz.prog.types.size) = true := by kernel_rfl
noncomputable def orcs0 : PT Orc := mkO [(153, orcIndexByte), (238, orcCount), (226, orcId), (173, orcNil), (175, orcNil), (176, orcMark), (178, orcMark), (160, orcLoad .u32), (169, orcStore), (174, orcCas .i32), (179, orcAdd .i32), (131, orcApart), (148, orcApart)]
theorem orcs0OK : OrOK Tryz.prog orcs0 := (OrOK.cons (good_indexByte (Ext.of Tryz.func153 (by kernel_rfl) (by kernel_rfl) (by kernel_rfl) (by kernel_rfl))) (OrOK.cons (good_count (Ext.of Tryz.func238 (by kernel_rfl) (by kernel_rfl) (by kernel_rfl) (by kernel_rfl))) (OrOK.cons (good_same (Ext.of Tryz.func226 (by kernel_rfl) (by kernel_rfl) (by kernel_rfl) (by kernel_rfl))) (OrOK.cons (good_mark0 (m := .disable) (Ext.of Tryz.func173 (by kernel_rfl) (by kernel_rfl) (by kernel_rfl) (by kernel_rfl))) (OrOK.cons (good_mark0 (m := .enable) (Ext.of Tryz.func175 (by kernel_rfl) (by kernel_rfl) (by kernel_rfl) (by kernel_rfl))) (OrOK.cons (good_marked (m := .acquire) (Ext.of Tryz.func176 (by kernel_rfl) (by kernel_rfl) (by kernel_rfl) (by kernel_rfl))) (OrOK.cons (good_marked (m := .releaseMerge) (Ext.of Tryz.func178 (by kernel_rfl) (by kernel_rfl) (by kernel_rfl) (by kernel_rfl))) (OrOK.cons (good_load (i := .u32) (Ext.of Tryz.func160 (by kernel_rfl) (by kernel_rfl) (by kernel_rfl) (by kernel_rfl))) (OrOK.cons (good_store (Ext.of Tryz.func169 (by kernel_rfl) (by kernel_rfl) (by kernel_rfl) (by kernel_rfl))) (OrOK.cons (good_cas (i := .i32) (Ext.of Tryz.func174 (by kernel_rfl) (by kernel_rfl) (by kernel_rfl) (by kernel_rfl))) (OrOK.cons (good_add (i := .i32) (Ext.of Tryz.func179 (by kernel_rfl) (by kernel_rfl) (by kernel_rfl) (by kernel_rfl))) (OrOK.cons (good_apart (tS := 127) (tR := 4) (e := 125) (size := 4) Tryz.underlying127 (by kernel_rfl) (Ext.of Tryz.func131 (by kernel_rfl) (by kernel_rfl) (by kernel_rfl) (by kernel_rfl))) (OrOK.cons (good_apart (tS := 49) (tR := 4) (e := 3) (size := 1) Tryz.underlying49 (by kernel_rfl) (Ext.of Tryz.func148 (by kernel_rfl) (by kernel_rfl) (by kernel_rfl) (by kernel_rfl))) OrOK.nil)))))))))))))
noncomputable def orcs : PT Orc := mkO [(112, orcInsert Tryz.prog orcs0 (Pos.ofNat 112)), (129, orcInsert Tryz.prog orcs0 (Pos.ofNat 129)), (153, orcIndexByte), (238, orcCount), (226, orcId), (173, orcNil), (175, orcNil), (176, orcMark), (178, orcMark), (160, orcLoad .u32), (169, orcStore), (174, orcCas .i32), (179, orcAdd .i32), (131, orcApart), (148, orcApart)]
theorem orcsOK : OrOK Tryz.prog orcs := (OrOK.cons (good_insertN mixes orcs0OK 112) (OrOK.cons (good_insertN mixes orcs0OK 129) orcs0OK))
def ns0 : List Int := [0, 0, 0, 0, 0, 0, 0, 0, 0, 1, 1, 1, 1, 1, 0, 0, 0, 0, 0, 0, 0, 0, 0, 0, 0, 0, 0, 0, 0, 0, 0, 0, 1, 0, 0, 0, 0, 0, 0, 0, 0, 0, 0, 0, 0, 0, 0, 0, 0, 0, 0, 0, 0, 0, 0, 0, 0, 0, 0, 0, 0, 0, 0, 0, 0, 0, 0, 0, 0, 0, 0, 0, 0, 0, 0, 0, 0, 0, 0, 0, 0, 0, 0, 0, 0, 0, 0, 0, 0, 0, 0, 0, 0, 0, 0, 0, 0, 0, 0, 0, 0, 0, 0, 0, 0, 0, 0, 0, 0, 0, 0, 0, 0, 0, 0, 0, 0, 0, 0, 0, 0, 0, 0, 0, 0, 0, 0, 0, 0, 0, 0, 0, 0, 0, 0, 0, 0, 0, 0, 0, 0, 0, 0, 0, 0, 0, 0, 0, 0, 0, 0, 0, 0, 0, 0, 0, 0, 0, 0, 0, 0, 0, 0, 0, 0, 0, 0, 0, 0, 0, 0, 0, 0, 0, 0, 0, 0, 0, 0, 0, 0, 0, 0, 0, 0, 0, 0, 0, 0, 0, 0, 0, 0, 0, 0, 0, 0, 0, 0, 0, 0, 0, 0, 0, 0, 0, 0, 0, 0, 0, 0, 0, 0, 0, 0, 0, 0, 0, 0, 0, 0, 0, 0, 0, 0, 0, 0, 0, 0, 0, 0, 0, 0, 0, 0, 0, 0, 0, 0, 0, 0, 0, 0, 0, 0, 0, 0, 0, 0, 0, 0, 0, 0, 0, 0, 0]
def gvs : List GV := [⟨0, .u8, ns0⟩]
set_option maxRecDepth 100000 in
theorem known {w : World} (h : laidMetH Tryz.prog Rows.swimNoneRow.laid w) : GVs 1 gvs w := by
  rw [MakeChecks.laidMetH_plain _ _ _ (by kernel_rfl)] at h
  have h0 := laid_ints (k := .u8) (ns := ns0) (n := 256) h (name := "strings.asciiSpace") (List.mem_cons_of_mem _ (List.mem_cons_self ..)) (g := 0) (by kernel_rfl) (t := 181) (by kernel_rfl) (e := 5) (by kernel_rfl) (by kernel_rfl) (by kernel_rfl) (by kernel_rfl)
  refine ⟨?_, fun x hx => ?_⟩
  · obtain ⟨c, t, fz, hb, _⟩ := h0; exact (Array.getElem?_eq_some_iff.1 hb).1
  · simp only [gvs, List.mem_cons, List.not_mem_nil, or_false] at hx
    subst hx
    exact ⟨by decide, h0⟩
set_option maxRecDepth 1000000 in
theorem ranF : runLawF Tryz.prog orcs (Pos.ofNat 4) (shpArgs (Tryz.f4.params.toList.map (shpT Tryz.prog)) 0) (heapOf 1 gvs) = .ok := by kernel_rfl
theorem ran : runLaw Tryz.prog orcs (Pos.ofNat 4) (shpArgs (Tryz.f4.params.toList.map (shpT Tryz.prog)) 0) (heapOf 1 gvs) = .ok := (runLawF_eq _ _ _ _ _).symm.trans ranF

theorem door_met (os : Os) (args : Array Value) : laidMetH Tryz.prog Rows.swimNoneRow.laid ((World.doorLaid Tryz.prog 400 os).forCall (fun _ _ => 0) ⟨#[], args, []⟩).memory :=
  laidMetH_of_parts3 (fuel := 8) (laidMet_of_run' 8 (by kernel_rfl) (by kernel_rfl)) (by kernel_rfl) (by kernel_rfl)

set_option maxRecDepth 100000 in
theorem lifted (os : Os) (started : os.Started) (H : Type) (enc : TypeId × Value → H) :
    ReturnsInHanded {} Tryz.checked os 4 .any (fun w args => (Rows.swimNoneSpec.pre enc Tryz.prog Tryz.f4 [] false w args ∧ laidMetH Tryz.prog Rows.swimNoneRow.laid w) ∧ sizedMet enc Tryz.prog Tryz.f4 (OpenSpec.ofChange Rows.swimNoneSpec) false w args)
      (Rows.swimNoneSpec.post enc Tryz.prog Tryz.f4 false true false false) := by
  refine returnsInHanded_of_change_and (C := Tryz.checked) (X := fun w _ => laidMetH Tryz.prog Rows.swimNoneRow.laid w) (fun _ _ _ hh h => h.of_heap hh) own started (by kernel_rfl) Tryz.func4
    (ChangeSpec.witness_shaped (enc := enc) (C := Tryz.checked) (os := os) (X := fun w _ => laidMetH Tryz.prog Rows.swimNoneRow.laid w) false (World.doorLaid Tryz.prog 400 os) #[(((Tryz.prog.info? 43).bind (·.zero)).getD .nilIface)] 8 rfl (World.shaped_of_RefB (by kernel_rfl) (by kernel_rfl)) (by kernel_rfl) (by kernel_rfl) (by kernel_rfl) (door_met os _)) ?_
  intro W base args ds gs before hval0 hW _ _ hL _
  have hW' := hW
  obtain ⟨p, q, hA0, hV, _, _, _⟩ := hW
  have hA : DataW.TrodAll enc Tryz.prog W 0 (fun _ => true) true Tryz.f4.params.toList args.toList ds p := hA0
  obtain ⟨hlen, hdl⟩ := trodAll_len hA
  obtain ⟨rfl, rfl⟩ := trodVars_none hV
  have hsh := ShpsOf.of_okWide (P := Tryz.prog) hlen (fun j t v a b => hval0 j t v (by rw [← Array.getElem?_toList]; exact a) (by rw [← Array.getElem?_toList]; exact b))
  refine (law_glob mixes orcsOK ran args hsh W (known hL)).mono fun e W' ⟨he, hs, hk⟩ => ?_
  subst he
  refine ⟨_, rfl, post_true laid reads rfl (tb := 4) rfl Tryz.underlying4 hW' ?_ hs hk⟩
  have hn : ds.length = 1 := by rw [hdl, Tryz.params4]; rfl
  match ds, hn with
  | [d0], _ => exact ⟨rfl, rfl, rfl⟩

theorem over : Rows.swimNoneRow.holds Tryz.pinned (OpenSpec.ofChange Rows.swimNoneSpec) :=
  OpenClaim.holds_of_wide 4 Tryz.f4 rfl rfl rfl rfl rfl rfl rfl ⟨rfl, rfl, rfl, rfl, rfl⟩ rfl rfl rfl rfl rfl (by kernel_rfl) Tryz.func4 (by kernel_rfl)
    (of_decide_eq_true (by kernel_rfl)) (by unfold Func.isWrapper; first | (rw [if_pos (by decide +kernel)]; kernel_rfl) | (rw [if_neg (by decide +kernel)]; exact ⟨rfl, rfl⟩))
    (fun os started H enc _ => lifted os started H enc)

/-- The statement. -/
theorem proved : Rows.SwimNoneCardSaid :=
  Claim7.holds_tied_plain_at .later [] [.listed, .data] true (true, "f48936df6fe0a4a3395a468879d604ba4b9b7159c0f6c183fc78e370689dc07b") true
    over (fun _ h => by cases h) (by kernel_rfl) (fun _ h => by cases h) swimNone_row_tie rfl ⟨rfl, rfl⟩ (by kernel_rfl) rfl
    (fun f fn hf hfn => by
      obtain rfl : f = 4 := Option.some.inj ((show Tryz.prog.funcNamed "chartulary/chartularylaw16.SwimNone" = some 4 by kernel_rfl).symm.trans hf) |>.symm
      obtain rfl : fn = Tryz.f4 := (Option.some.inj (Tryz.func4.symm.trans hfn)).symm
      exact ⟨by kernel_rfl, fun j t ht => by
        have hall : Tryz.f4.params.toList.all (fun t => !Tryz.prog.wantsStandIn t) = true := by kernel_rfl
        have := List.all_eq_true.1 hall t (List.mem_of_getElem? (by rw [Array.getElem?_toList]; exact ht))
        exact (show Tryz.prog.wantsStandIn t = false by simpa using this)⟩)
    (by kernel_rfl)

#print axioms proved
end Go.Proofs.YtopighdbinigcaaGreatDoor.swimNone
