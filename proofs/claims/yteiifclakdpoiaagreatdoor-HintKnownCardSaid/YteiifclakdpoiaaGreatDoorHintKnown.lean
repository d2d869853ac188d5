/-
  'HintKnown' returns true: the machine 'AM' runs the program's form to true; it looks into no argument.
  The third Tick ranges over a map of two entries: its contract (HintTick) holds for either order.
-/
import Derived.Test.YteiifclakdpoiaaGreatDoorRows
import Derived.WalkKit
import Derived.ProofKit
import Derived.Test.YteiifclakdpoiaaGreatDoorAmRow2
import Derived.Test.YteiifclakdpoiaaGreatDoorAmOrc2
import Derived.Test.YteiifclakdpoiaaGreatDoorAmFast4
import Derived.Test.YteiifclakdpoiaaGreatDoorAmIns
import Derived.Test.YteiifclakdpoiaaGreatDoorAmMemo
import Derived.Test.YteiifclakdpoiaaGreatDoorAmRow3
import Derived.Test.YteiifclakdpoiaaGreatDoorHintTick
import Derived.Test.YteiifclakdpoiaaGreatDoorCards
import Derived.Test.YteiifclakdpoiaaGreatDoorTie
namespace Go.Proofs.YteiifclakdpoiaaGreatDoor.hintKnown
open Go.ChangeShapes Go.WideShapes Go.ChangeAt Go.RowKit Go.AM

theorem own : ownKnob Tryz.prog.godebug = none := by kernel_rfl
theorem mixes : Tryz.prog.follows .mixedOrders = true := by kernel_rfl
theorem laid : laidOutB Tryz.prog = true := by kernel_rfl
theorem reads : Tryz.f3.params.toList.all (fun t => Tryz.prog.readableRec t && Nat.blt t Tryz.prog.types.size) = true := by kernel_rfl
noncomputable def orcs0 : PT Orc := mkO [(168, orcIndexByte), (240, orcCount), (228, orcId), (185, orcNil), (187, orcNil), (188, orcMark), (190, orcMark), (173, orcLoad .u32), (181, orcStore), (186, orcCas .i32), (191, orcAdd .i32), (119, orcApart), (122, orcApart), (124, orcApart), (128, orcApart), (130, orcApart)]
theorem orcs0OK : OrOK Tryz.prog orcs0 := (OrOK.cons (good_indexByte (Ext.of Tryz.func168 (by kernel_rfl) (by kernel_rfl) (by kernel_rfl) (by kernel_rfl))) (OrOK.cons (good_count (Ext.of Tryz.func240 (by kernel_rfl) (by kernel_rfl) (by kernel_rfl) (by kernel_rfl))) (OrOK.cons (good_same (Ext.of Tryz.func228 (by kernel_rfl) (by kernel_rfl) (by kernel_rfl) (by kernel_rfl))) (OrOK.cons (good_mark0 (m := .disable) (Ext.of Tryz.func185 (by kernel_rfl) (by kernel_rfl) (by kernel_rfl) (by kernel_rfl))) (OrOK.cons (good_mark0 (m := .enable) (Ext.of Tryz.func187 (by kernel_rfl) (by kernel_rfl) (by kernel_rfl) (by kernel_rfl))) (OrOK.cons (good_marked (m := .acquire) (Ext.of Tryz.func188 (by kernel_rfl) (by kernel_rfl) (by kernel_rfl) (by kernel_rfl))) (OrOK.cons (good_marked (m := .releaseMerge) (Ext.of Tryz.func190 (by kernel_rfl) (by kernel_rfl) (by kernel_rfl) (by kernel_rfl))) (OrOK.cons (good_load (i := .u32) (Ext.of Tryz.func173 (by kernel_rfl) (by kernel_rfl) (by kernel_rfl) (by kernel_rfl))) (OrOK.cons (good_store (Ext.of Tryz.func181 (by kernel_rfl) (by kernel_rfl) (by kernel_rfl) (by kernel_rfl))) (OrOK.cons (good_cas (i := .i32) (Ext.of Tryz.func186 (by kernel_rfl) (by kernel_rfl) (by kernel_rfl) (by kernel_rfl))) (OrOK.cons (good_add (i := .i32) (Ext.of Tryz.func191 (by kernel_rfl) (by kernel_rfl) (by kernel_rfl) (by kernel_rfl))) (OrOK.cons (good_apart (tS := 22) (tR := 4) (e := 105) (size := 33) Tryz.underlying22 (by kernel_rfl) (Ext.of Tryz.func119 (by kernel_rfl) (by kernel_rfl) (by kernel_rfl) (by kernel_rfl))) (OrOK.cons (good_apart (tS := 23) (tR := 4) (e := 101) (size := 33) Tryz.underlying23 (by kernel_rfl) (Ext.of Tryz.func122 (by kernel_rfl) (by kernel_rfl) (by kernel_rfl) (by kernel_rfl))) (OrOK.cons (good_apart (tS := 24) (tR := 4) (e := 73) (size := 34) Tryz.underlying24 (by kernel_rfl) (Ext.of Tryz.func124 (by kernel_rfl) (by kernel_rfl) (by kernel_rfl) (by kernel_rfl))) (OrOK.cons (good_apart (tS := 26) (tR := 4) (e := 117) (size := 2) Tryz.underlying26 (by kernel_rfl) (Ext.of Tryz.func128 (by kernel_rfl) (by kernel_rfl) (by kernel_rfl) (by kernel_rfl))) (OrOK.cons (good_apart (tS := 25) (tR := 4) (e := 185) (size := 6) Tryz.underlying25 (by kernel_rfl) (Ext.of Tryz.func130 (by kernel_rfl) (by kernel_rfl) (by kernel_rfl) (by kernel_rfl))) OrOK.nil))))))))))))))))
def memo26_0 : Memo := ⟨[.sl [.int .u8 1, .int .u8 2]], .agg [.int .u8 161, .int .u8 40, .int .u8 113, .int .u8 254, .int .u8 226, .int .u8 16, .int .u8 251, .int .u8 134, .int .u8 25, .int .u8 41, .int .u8 30, .int .u8 174, .int .u8 161, .int .u8 148, .int .u8 88, .int .u8 28, .int .u8 189, .int .u8 37, .int .u8 49, .int .u8 228, .int .u8 178, .int .u8 55, .int .u8 89, .int .u8 210, .int .u8 37, .int .u8 246, .int .u8 128, .int .u8 105, .int .u8 35, .int .u8 246, .int .u8 50, .int .u8 34]⟩
set_option maxRecDepth 1000000 in
theorem memo26_0_run : memo26_0.run Tryz.prog orcs0 (Pos.ofNat 26) = .ok := by kernel_rfl
def memo26_1 : Memo := ⟨[.sl [.int .u8 1, .int .u8 3]], .agg [.int .u8 199, .int .u8 155, .int .u8 147, .int .u8 46, .int .u8 30, .int .u8 29, .int .u8 163, .int .u8 192, .int .u8 224, .int .u8 152, .int .u8 229, .int .u8 173, .int .u8 44, .int .u8 66, .int .u8 41, .int .u8 55, .int .u8 235, .int .u8 144, .int .u8 74, .int .u8 118, .int .u8 207, .int .u8 97, .int .u8 216, .int .u8 57, .int .u8 117, .int .u8 167, .int .u8 74, .int .u8 104, .int .u8 251, .int .u8 176, .int .u8 75, .int .u8 153]⟩
set_option maxRecDepth 1000000 in
theorem memo26_1_run : memo26_1.run Tryz.prog orcs0 (Pos.ofNat 26) = .ok := by kernel_rfl
noncomputable def memo26 : List Memo := [memo26_0, memo26_1]
theorem memo26_ok : ∀ m ∈ memo26, m.wf = true ∧ m.run Tryz.prog orcs0 (Pos.ofNat 26) = .ok := by
  intro m hm
  simp only [memo26, List.mem_cons, List.not_mem_nil, or_false] at hm
  rcases hm with rfl | rfl
  · exact ⟨by kernel_rfl, memo26_0_run⟩
  · exact ⟨by kernel_rfl, memo26_1_run⟩
def memo115_0 : Memo := ⟨[.val (.str [99, 115, 100, 120])], .str [110, 110, 110, 110, 110, 110, 110, 100, 98]⟩
set_option maxRecDepth 1000000 in
theorem memo115_0_run : memo115_0.run Tryz.prog orcs0 (Pos.ofNat 115) = .ok := by kernel_rfl
noncomputable def memo115 : List Memo := [memo115_0]
theorem memo115_ok : ∀ m ∈ memo115, m.wf = true ∧ m.run Tryz.prog orcs0 (Pos.ofNat 115) = .ok := by
  intro m hm
  simp only [memo115, List.mem_cons, List.not_mem_nil, or_false] at hm
  subst hm
  exact ⟨by kernel_rfl, memo115_0_run⟩
noncomputable def tickOrc : Orc := orcLocB (AV.rens (seat HK.seats 210) HK.argsT) 210 (preL (seat HK.seats 210) HK.L0 HK.seats) (.slice (.ofNat 210) 0 1 1 true) (postL (seat HK.seats 210) HK.L0 HK.fT HK.seats) (newsL (seat HK.seats 210) 6 HK.fT)
noncomputable def orcs : PT Orc := mkO [(8, tickOrc), (78, orcInsert Tryz.prog orcs0 (Pos.ofNat 78)), (84, orcInsert Tryz.prog orcs0 (Pos.ofNat 84)), (88, orcInsert Tryz.prog orcs0 (Pos.ofNat 88)), (97, orcInsert Tryz.prog orcs0 (Pos.ofNat 97)), (103, orcInsert Tryz.prog orcs0 (Pos.ofNat 103)), (26, orcMemo memo26), (115, orcMemo memo115), (168, orcIndexByte), (240, orcCount), (228, orcId), (185, orcNil), (187, orcNil), (188, orcMark), (190, orcMark), (173, orcLoad .u32), (181, orcStore), (186, orcCas .i32), (191, orcAdd .i32), (119, orcApart), (122, orcApart), (124, orcApart), (128, orcApart), (130, orcApart)]
theorem orcsOK : OrOK Tryz.prog orcs := (OrOK.cons (o := tickOrc) HK.tickLoc.goodB (OrOK.cons (good_insertN mixes orcs0OK 78) (OrOK.cons (good_insertN mixes orcs0OK 84) (OrOK.cons (good_insertN mixes orcs0OK 88) (OrOK.cons (good_insertN mixes orcs0OK 97) (OrOK.cons (good_insertN mixes orcs0OK 103) (OrOK.cons (good_memo mixes orcs0OK 26 memo26 memo26_ok) (OrOK.cons (good_memo mixes orcs0OK 115 memo115 memo115_ok) orcs0OK))))))))
def ns0 : List Int := [0, 0, 0, 0, 0, 0, 0, 0, 0, 1, 1, 1, 1, 1, 0, 0, 0, 0, 0, 0, 0, 0, 0, 0, 0, 0, 0, 0, 0, 0, 0, 0, 1, 0, 0, 0, 0, 0, 0, 0, 0, 0, 0, 0, 0, 0, 0, 0, 0, 0, 0, 0, 0, 0, 0, 0, 0, 0, 0, 0, 0, 0, 0, 0, 0, 0, 0, 0, 0, 0, 0, 0, 0, 0, 0, 0, 0, 0, 0, 0, 0, 0, 0, 0, 0, 0, 0, 0, 0, 0, 0, 0, 0, 0, 0, 0, 0, 0, 0, 0, 0, 0, 0, 0, 0, 0, 0, 0, 0, 0, 0, 0, 0, 0, 0, 0, 0, 0, 0, 0, 0, 0, 0, 0, 0, 0, 0, 0, 0, 0, 0, 0, 0, 0, 0, 0, 0, 0, 0, 0, 0, 0, 0, 0, 0, 0, 0, 0, 0, 0, 0, 0, 0, 0, 0, 0, 0, 0, 0, 0, 0, 0, 0, 0, 0, 0, 0, 0, 0, 0, 0, 0, 0, 0, 0, 0, 0, 0, 0, 0, 0, 0, 0, 0, 0, 0, 0, 0, 0, 0, 0, 0, 0, 0, 0, 0, 0, 0, 0, 0, 0, 0, 0, 0, 0, 0, 0, 0, 0, 0, 0, 0, 0, 0, 0, 0, 0, 0, 0, 0, 0, 0, 0, 0, 0, 0, 0, 0, 0, 0, 0, 0, 0, 0, 0, 0, 0, 0, 0, 0, 0, 0, 0, 0, 0, 0, 0, 0, 0, 0, 0, 0, 0, 0, 0, 0]
def gvs : List GV := [⟨0, .u8, ns0⟩]
set_option maxRecDepth 100000 in
theorem known {w : World} (h : laidMetH Tryz.prog Rows.hintKnownRow.laid w) : GVs 1 gvs w := by
  rw [MakeChecks.laidMetH_plain _ _ _ (by kernel_rfl)] at h
  have h0 := laid_ints (k := .u8) (ns := ns0) (n := 256) h (name := "strings.asciiSpace") (List.mem_cons_of_mem _ (List.mem_cons_self ..)) (g := 0) (by kernel_rfl) (t := 223) (by kernel_rfl) (e := 5) (by kernel_rfl) (by kernel_rfl) (by kernel_rfl) (by kernel_rfl)
  refine ⟨?_, fun x hx => ?_⟩
  · obtain ⟨c, t, fz, hb, _⟩ := h0; exact (Array.getElem?_eq_some_iff.1 hb).1
  · simp only [gvs, List.mem_cons, List.not_mem_nil, or_false] at hx
    subst hx
    exact ⟨by decide, h0⟩
set_option maxRecDepth 1000000 in
theorem ranF : runLawF Tryz.prog orcs (Pos.ofNat 3) (shpArgs (Tryz.f3.params.toList.map (shpT Tryz.prog)) 0) (heapOf 1 gvs) = .ok := by kernel_rfl
theorem ran : runLaw Tryz.prog orcs (Pos.ofNat 3) (shpArgs (Tryz.f3.params.toList.map (shpT Tryz.prog)) 0) (heapOf 1 gvs) = .ok := (runLawF_eq _ _ _ _ _).symm.trans ranF

theorem door_met (os : Os) (args : Array Value) : laidMetH Tryz.prog Rows.hintKnownRow.laid ((World.doorLaid Tryz.prog 400 os).forCall (fun _ _ => 0) ⟨#[], args, []⟩).memory :=
  laidMetH_of_parts3 (fuel := 8) (laidMet_of_run' 8 (by kernel_rfl) (by kernel_rfl)) (by kernel_rfl) (by kernel_rfl)

set_option maxRecDepth 100000 in
theorem lifted (os : Os) (started : os.Started) (H : Type) (enc : TypeId × Value → H) :
    ReturnsInHanded {} Tryz.checked os 3 .any (fun w args => (Rows.hintKnownSpec.pre enc Tryz.prog Tryz.f3 [] false w args ∧ laidMetH Tryz.prog Rows.hintKnownRow.laid w) ∧ sizedMet enc Tryz.prog Tryz.f3 (OpenSpec.ofChange Rows.hintKnownSpec) false w args)
      (Rows.hintKnownSpec.post enc Tryz.prog Tryz.f3 false true false false) := by
  refine returnsInHanded_of_change_and (C := Tryz.checked) (X := fun w _ => laidMetH Tryz.prog Rows.hintKnownRow.laid w) (fun _ _ _ hh h => h.of_heap hh) own started (by kernel_rfl) Tryz.func3
    (ChangeSpec.witness_shaped (enc := enc) (C := Tryz.checked) (os := os) (X := fun w _ => laidMetH Tryz.prog Rows.hintKnownRow.laid w) false (World.doorLaid Tryz.prog 400 os) #[] 8 rfl (World.shaped_of_RefB (by kernel_rfl) (by kernel_rfl)) (by kernel_rfl) (by kernel_rfl) (by kernel_rfl) (door_met os _)) ?_
  intro W base args ds gs before hval0 hW _ _ hL _
  have hW' := hW
  obtain ⟨p, q, hA0, hV, _, _, _⟩ := hW
  have hA : DataW.TrodAll enc Tryz.prog W 0 (fun _ => true) true Tryz.f3.params.toList args.toList ds p := hA0
  obtain ⟨hlen, hdl⟩ := trodAll_len hA
  obtain ⟨rfl, rfl⟩ := trodVars_none hV
  have hsh := ShpsOf.of_okWide (P := Tryz.prog) hlen (fun j t v a b => hval0 j t v (by rw [← Array.getElem?_toList]; exact a) (by rw [← Array.getElem?_toList]; exact b))
  refine (law_glob mixes orcsOK ran args hsh W (known hL)).mono fun e W' ⟨he, hs, hk⟩ => ?_
  subst he
  refine ⟨_, rfl, post_true laid reads rfl (tb := 4) rfl Tryz.underlying4 hW' ?_ hs hk⟩
  have hn : ds.length = 0 := by rw [hdl, Tryz.params3]; rfl
  match ds, hn with
  | [], _ => exact ⟨rfl, rfl, rfl⟩

theorem over : Rows.hintKnownRow.holds Tryz.pinned (OpenSpec.ofChange Rows.hintKnownSpec) :=
  OpenClaim.holds_of_wide 3 Tryz.f3 rfl rfl rfl rfl rfl rfl rfl ⟨rfl, rfl, rfl, rfl, rfl⟩ rfl rfl rfl rfl rfl (by kernel_rfl) Tryz.func3 (by kernel_rfl)
    (of_decide_eq_true (by kernel_rfl)) (by unfold Func.isWrapper; first | (rw [if_pos (by decide +kernel)]; kernel_rfl) | (rw [if_neg (by decide +kernel)]; exact ⟨rfl, rfl⟩))
    (fun os started H enc _ => lifted os started H enc)

/-- The statement. -/
theorem proved : Rows.HintKnownCardSaid :=
  Claim7.holds_tied_plain_at .later [] [.listed, .data] true (true, "fab2c06ba57d9febf33f369172ffd436f6de0c84feb21ebead875fceeeced1b6") true
    over (fun _ h => by cases h) (by kernel_rfl) (fun _ h => by cases h) hintKnown_row_tie rfl ⟨rfl, rfl⟩ (by kernel_rfl) rfl
    (fun f fn hf hfn => by
      obtain rfl : f = 3 := Option.some.inj ((show Tryz.prog.funcNamed "chartulary/chartularylaw23.HintKnown" = some 3 by kernel_rfl).symm.trans hf) |>.symm
      obtain rfl : fn = Tryz.f3 := (Option.some.inj (Tryz.func3.symm.trans hfn)).symm
      exact ⟨by kernel_rfl, fun j t ht => by
        have hall : Tryz.f3.params.toList.all (fun t => !Tryz.prog.wantsStandIn t) = true := by kernel_rfl
        have := List.all_eq_true.1 hall t (List.mem_of_getElem? (by rw [Array.getElem?_toList]; exact ht))
        exact (show Tryz.prog.wantsStandIn t = false by simpa using this)⟩)
    (by kernel_rfl)

#print axioms proved
end Go.Proofs.YteiifclakdpoiaaGreatDoor.hintKnown
