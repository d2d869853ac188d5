/-
  'AcceptKnown' returns true: the machine 'AM' runs the program's form to true; it looks into no argument.
-/
import Derived.Test.YtbphkpijffmboaaGreatDoorRows
import Derived.WalkKit
import Derived.ProofKit
import Derived.Test.YtbphkpijffmboaaGreatDoorAmRow2
import Derived.Test.YtbphkpijffmboaaGreatDoorAmOrc2
import Derived.Test.YtbphkpijffmboaaGreatDoorAmFast4
import Derived.Test.YtbphkpijffmboaaGreatDoorCards
import Derived.Test.YtbphkpijffmboaaGreatDoorTie
namespace Go.Proofs.YtbphkpijffmboaaGreatDoor.acceptKnown
open Go.ChangeShapes Go.WideShapes Go.ChangeAt Go.RowKit Go.AM

theorem own : ownKnob Tryz.prog.godebug = none := by kernel_rfl
theorem mixes : Tryz.prog.follows .mixedOrders = true := by kernel_rfl
theorem laid : laidOutB Tryz.prog = true := by kernel_rfl
theorem reads : Tryz.f3.params.toList.all (fun t => Tryz.prog.readableRec t && Nat.blt t Tryz.prog.types.size) = true := by kernel_rfl
noncomputable def orcs : PT Orc := mkO [(154, orcIndexByte), (233, orcCount), (221, orcId), (178, orcNil), (180, orcNil), (181, orcMark), (183, orcMark), (166, orcLoad .u32), (174, orcStore), (179, orcCas .i32), (184, orcAdd .i32), (119, orcApart), (122, orcApart), (124, orcApart), (129, orcApart), (131, orcApart)]
theorem orcsOK : OrOK Tryz.prog orcs := (OrOK.cons (good_indexByte (Ext.of Tryz.func154 (by kernel_rfl) (by kernel_rfl) (by kernel_rfl) (by kernel_rfl))) (OrOK.cons (good_count (Ext.of Tryz.func233 (by kernel_rfl) (by kernel_rfl) (by kernel_rfl) (by kernel_rfl))) (OrOK.cons (good_same (Ext.of Tryz.func221 (by kernel_rfl) (by kernel_rfl) (by kernel_rfl) (by kernel_rfl))) (OrOK.cons (good_mark0 (m := .disable) (Ext.of Tryz.func178 (by kernel_rfl) (by kernel_rfl) (by kernel_rfl) (by kernel_rfl))) (OrOK.cons (good_mark0 (m := .enable) (Ext.of Tryz.func180 (by kernel_rfl) (by kernel_rfl) (by kernel_rfl) (by kernel_rfl))) (OrOK.cons (good_marked (m := .acquire) (Ext.of Tryz.func181 (by kernel_rfl) (by kernel_rfl) (by kernel_rfl) (by kernel_rfl))) (OrOK.cons (good_marked (m := .releaseMerge) (Ext.of Tryz.func183 (by kernel_rfl) (by kernel_rfl) (by kernel_rfl) (by kernel_rfl))) (OrOK.cons (good_load (i := .u32) (Ext.of Tryz.func166 (by kernel_rfl) (by kernel_rfl) (by kernel_rfl) (by kernel_rfl))) (OrOK.cons (good_store (Ext.of Tryz.func174 (by kernel_rfl) (by kernel_rfl) (by kernel_rfl) (by kernel_rfl))) (OrOK.cons (good_cas (i := .i32) (Ext.of Tryz.func179 (by kernel_rfl) (by kernel_rfl) (by kernel_rfl) (by kernel_rfl))) (OrOK.cons (good_add (i := .i32) (Ext.of Tryz.func184 (by kernel_rfl) (by kernel_rfl) (by kernel_rfl) (by kernel_rfl))) (OrOK.cons (good_apart (tS := 37) (tR := 4) (e := 110) (size := 33) Tryz.underlying37 (by kernel_rfl) (Ext.of Tryz.func119 (by kernel_rfl) (by kernel_rfl) (by kernel_rfl) (by kernel_rfl))) (OrOK.cons (good_apart (tS := 38) (tR := 4) (e := 106) (size := 33) Tryz.underlying38 (by kernel_rfl) (Ext.of Tryz.func122 (by kernel_rfl) (by kernel_rfl) (by kernel_rfl) (by kernel_rfl))) (OrOK.cons (good_apart (tS := 39) (tR := 4) (e := 118) (size := 34) Tryz.underlying39 (by kernel_rfl) (Ext.of Tryz.func124 (by kernel_rfl) (by kernel_rfl) (by kernel_rfl) (by kernel_rfl))) (OrOK.cons (good_apart (tS := 41) (tR := 4) (e := 68) (size := 2) Tryz.underlying41 (by kernel_rfl) (Ext.of Tryz.func129 (by kernel_rfl) (by kernel_rfl) (by kernel_rfl) (by kernel_rfl))) (OrOK.cons (good_apart (tS := 40) (tR := 4) (e := 50) (size := 6) Tryz.underlying40 (by kernel_rfl) (Ext.of Tryz.func131 (by kernel_rfl) (by kernel_rfl) (by kernel_rfl) (by kernel_rfl))) OrOK.nil))))))))))))))))
def ns0 : List Int := [0, 0, 0, 0, 0, 0, 0, 0, 0, 1, 1, 1, 1, 1, 0, 0, 0, 0, 0, 0, 0, 0, 0, 0, 0, 0, 0, 0, 0, 0, 0, 0, 1, 0, 0, 0, 0, 0, 0, 0, 0, 0, 0, 0, 0, 0, 0, 0, 0, 0, 0, 0, 0, 0, 0, 0, 0, 0, 0, 0, 0, 0, 0, 0, 0, 0, 0, 0, 0, 0, 0, 0, 0, 0, 0, 0, 0, 0, 0, 0, 0, 0, 0, 0, 0, 0, 0, 0, 0, 0, 0, 0, 0, 0, 0, 0, 0, 0, 0, 0, 0, 0, 0, 0, 0, 0, 0, 0, 0, 0, 0, 0, 0, 0, 0, 0, 0, 0, 0, 0, 0, 0, 0, 0, 0, 0, 0, 0, 0, 0, 0, 0, 0, 0, 0, 0, 0, 0, 0, 0, 0, 0, 0, 0, 0, 0, 0, 0, 0, 0, 0, 0, 0, 0, 0, 0, 0, 0, 0, 0, 0, 0, 0, 0, 0, 0, 0, 0, 0, 0, 0, 0, 0, 0, 0, 0, 0, 0, 0, 0, 0, 0, 0, 0, 0, 0, 0, 0, 0, 0, 0, 0, 0, 0, 0, 0, 0, 0, 0, 0, 0, 0, 0, 0, 0, 0, 0, 0, 0, 0, 0, 0, 0, 0, 0, 0, 0, 0, 0, 0, 0, 0, 0, 0, 0, 0, 0, 0, 0, 0, 0, 0, 0, 0, 0, 0, 0, 0, 0, 0, 0, 0, 0, 0, 0, 0, 0, 0, 0, 0, 0, 0, 0, 0, 0, 0]
def gvs : List GV := [⟨0, .u8, ns0⟩]
set_option maxRecDepth 100000 in
theorem known {w : World} (h : laidMetH Tryz.prog Rows.acceptKnownRow.laid w) : GVs 1 gvs w := by
  rw [MakeChecks.laidMetH_plain _ _ _ (by kernel_rfl)] at h
  have h0 := laid_ints (k := .u8) (ns := ns0) (n := 256) h (name := "strings.asciiSpace") (List.mem_cons_of_mem _ (List.mem_cons_self ..)) (g := 0) (by kernel_rfl) (t := 170) (by kernel_rfl) (e := 5) (by kernel_rfl) (by kernel_rfl) (by kernel_rfl) (by kernel_rfl)
  refine ⟨?_, fun x hx => ?_⟩
  · obtain ⟨c, t, fz, hb, _⟩ := h0; exact (Array.getElem?_eq_some_iff.1 hb).1
  · simp only [gvs, List.mem_cons, List.not_mem_nil, or_false] at hx
    subst hx
    exact ⟨by decide, h0⟩
set_option maxRecDepth 1000000 in
theorem ranF : runLawF Tryz.prog orcs (Pos.ofNat 3) (shpArgs (Tryz.f3.params.toList.map (shpT Tryz.prog)) 0) (heapOf 1 gvs) = .ok := by kernel_rfl
theorem ran : runLaw Tryz.prog orcs (Pos.ofNat 3) (shpArgs (Tryz.f3.params.toList.map (shpT Tryz.prog)) 0) (heapOf 1 gvs) = .ok := (runLawF_eq _ _ _ _ _).symm.trans ranF

theorem door_met (os : Os) (args : Array Value) : laidMetH Tryz.prog Rows.acceptKnownRow.laid ((World.doorLaid Tryz.prog 400 os).forCall (fun _ _ => 0) ⟨#[], args, []⟩).memory :=
  laidMetH_of_parts3 (fuel := 8) (laidMet_of_run' 8 (by kernel_rfl) (by kernel_rfl)) (by kernel_rfl) (by kernel_rfl)

set_option maxRecDepth 100000 in
theorem lifted (os : Os) (started : os.Started) (H : Type) (enc : TypeId × Value → H) :
    ReturnsInHanded {} Tryz.checked os 3 .any (fun w args => (Rows.acceptKnownSpec.pre enc Tryz.prog Tryz.f3 [] false w args ∧ laidMetH Tryz.prog Rows.acceptKnownRow.laid w) ∧ sizedMet enc Tryz.prog Tryz.f3 (OpenSpec.ofChange Rows.acceptKnownSpec) false w args)
      (Rows.acceptKnownSpec.post enc Tryz.prog Tryz.f3 false true false false) := by
  refine returnsInHanded_of_change_and (C := Tryz.checked) (X := fun w _ => laidMetH Tryz.prog Rows.acceptKnownRow.laid w) (fun _ _ _ hh h => h.of_heap hh) own started (by kernel_rfl) Tryz.func3
    (ChangeSpec.witness_shaped (enc := enc) (C := Tryz.checked) (os := os) (X := fun w _ => laidMetH Tryz.prog Rows.acceptKnownRow.laid w) false (World.doorLaid Tryz.prog 400 os) #[] 8 rfl (World.shaped_of_RefB (by kernel_rfl) (by kernel_rfl)) (by kernel_rfl) (by kernel_rfl) (by kernel_rfl) (door_met os _)) ?_
  intro W base args ds gs before hval0 hW _ _ hL _
  have hW' := hW
  obtain ⟨p, q, hA0, hV, _, _, _⟩ := hW
  have hA : DataW.TrodAll enc Tryz.prog W 0 (fun _ => true) true Tryz.f3.params.toList args.toList ds p := hA0
  obtain ⟨hlen, hdl⟩ := trodAll_len hA
  obtain ⟨rfl, rfl⟩ := trodVars_none hV
  have hsh := ShpsOf.of_okWide (P := Tryz.prog) hlen (fun j t v a b => hval0 j t v (by rw [← Array.getElem?_toList]; exact a) (by rw [← Array.getElem?_toList]; exact b))
  refine (law_glob mixes orcsOK ran args hsh W (known hL)).mono fun e W' ⟨he, hs, hk⟩ => ?_
  subst he
  refine ⟨_, rfl, post_true laid reads rfl (tb := 4) rfl Tryz.underlying4 hW' ?_ hs hk⟩
  have hn : ds.length = 0 := by rw [hdl, Tryz.params3]; rfl
  match ds, hn with
  | [], _ => exact ⟨rfl, rfl, rfl⟩

theorem over : Rows.acceptKnownRow.holds Tryz.pinned (OpenSpec.ofChange Rows.acceptKnownSpec) :=
  OpenClaim.holds_of_wide 3 Tryz.f3 rfl rfl rfl rfl rfl rfl rfl ⟨rfl, rfl, rfl, rfl, rfl⟩ rfl rfl rfl rfl rfl (by kernel_rfl) Tryz.func3 (by kernel_rfl)
    (of_decide_eq_true (by kernel_rfl)) (by unfold Func.isWrapper; first | (rw [if_pos (by decide +kernel)]; kernel_rfl) | (rw [if_neg (by decide +kernel)]; exact ⟨rfl, rfl⟩))
    (fun os started H enc _ => lifted os started H enc)

/-- The statement. -/
theorem proved : Rows.AcceptKnownCardSaid :=
  Claim7.holds_tied_plain_at .later [] [.listed, .data] true (true, "d13d2cd43033c349e400b3f3eb234672894d787f7c9befc0bbeb6ae5082378d5") true
    over (fun _ h => by cases h) (by kernel_rfl) (fun _ h => by cases h) acceptKnown_row_tie rfl ⟨rfl, rfl⟩ (by kernel_rfl) rfl
    (fun f fn hf hfn => by
      obtain rfl : f = 3 := Option.some.inj ((show Tryz.prog.funcNamed "chartulary/chartularylaw20.AcceptKnown" = some 3 by kernel_rfl).symm.trans hf) |>.symm
      obtain rfl : fn = Tryz.f3 := (Option.some.inj (Tryz.func3.symm.trans hfn)).symm
      exact ⟨by kernel_rfl, fun j t ht => by
        have hall : Tryz.f3.params.toList.all (fun t => !Tryz.prog.wantsStandIn t) = true := by kernel_rfl
        have := List.all_eq_true.1 hall t (List.mem_of_getElem? (by rw [Array.getElem?_toList]; exact ht))
        exact (show Tryz.prog.wantsStandIn t = false by simpa using this)⟩)
    (by kernel_rfl)

#print axioms proved
end Go.Proofs.YtbphkpijffmboaaGreatDoor.acceptKnown
