/-
  'ProposeNone' returns true: the machine 'AM' runs the program's form, from an empty heap, to true; it looks into no argument.
-/
import Derived.Test.YtdoihmjffpbcdaaRows
import Derived.WalkKit
import Derived.ProofKit
import Derived.Test.YtdoihmjffpbcdaaAmRow
namespace Go.Proofs.Ytdoihmjffpbcdaa.proposeNone
open Go.ChangeShapes Go.WideShapes Go.ChangeAt Go.RowKit Go.AM

theorem own : ownKnob Try.prog.godebug = none := by kernel_rfl
theorem mixes : Try.prog.follows .mixedOrders = true := by kernel_rfl
theorem laid : laidOutB Try.prog = true := by kernel_rfl
theorem reads : Try.f9.params.toList.all (fun t => Try.prog.readableRec t && Nat.blt t Try.prog.types.size) = true := by kernel_rfl
set_option maxRecDepth 1000000 in
theorem ran : runLaw Try.prog (Pos.ofNat 9) (shpArgs (Try.f9.params.toList.map (shpT Try.prog)) 0) H.empty = .ok := by kernel_rfl

set_option maxRecDepth 100000 in
theorem lifted (os : Os) (started : os.Started) (H : Type) (enc : TypeId × Value → H) :
    ReturnsInHanded {} Try.checked os 9 .any (Rows.proposeNoneSpec.pre6 enc Try.prog Try.f9 Rows.proposeNoneRow.domain false) (Rows.proposeNoneSpec.post enc Try.prog Try.f9 false true false false) := by
  refine returnsInHanded_of_change (C := Try.checked) own started (by kernel_rfl) Try.func9
    (ChangeSpec.witness6 (enc := enc) (C := Try.checked) false ⟨#[], #[(((Try.prog.info? 79).bind (·.zero)).getD .nilIface), (((Try.prog.info? 82).bind (·.zero)).getD .nilIface)], []⟩ 8 (by kernel_rfl) (by kernel_rfl) (by kernel_rfl) (by kernel_rfl)) ?_
  intro W base args ds gs before hval0 hW _ _
  have hW' := hW
  obtain ⟨p, q, hA0, hV, _, _, _⟩ := hW
  have hA : DataW.TrodAll enc Try.prog W 0 (fun _ => true) true Try.f9.params.toList args.toList ds p := hA0
  obtain ⟨hlen, hdl⟩ := trodAll_len hA
  obtain ⟨rfl, rfl⟩ := trodVars_none hV
  have hsh := ShpsOf.of_okWide (P := Try.prog) hlen (fun j t v a b => hval0 j t v (by simpa using a) (by simpa using b))
  refine (law_shapes mixes ran args hsh W).mono fun e W' ⟨he, hs, hk⟩ => ?_
  subst he
  refine ⟨_, rfl, post_true laid reads rfl (tb := 4) rfl Try.underlying4 hW' ?_ hs hk⟩
  have hn : ds.length = 2 := by rw [hdl, Try.params9]; rfl
  match ds, hn with
  | [d0, d1], _ => exact ⟨rfl, rfl, rfl⟩

theorem over : Rows.proposeNoneRow.holds Try.pinned (OpenSpec.ofChange Rows.proposeNoneSpec) :=
  OpenClaim.holds_of_wide 9 Try.f9 rfl rfl rfl rfl rfl rfl rfl ⟨rfl, rfl, rfl, rfl, rfl⟩ rfl rfl rfl rfl rfl (by kernel_rfl) Try.func9 (by kernel_rfl)
    (of_decide_eq_true (by kernel_rfl)) (by unfold Func.isWrapper; first | (rw [if_pos (by decide +kernel)]; kernel_rfl) | (rw [if_neg (by decide +kernel)]; exact ⟨rfl, rfl⟩))
    (fun os started H enc _ => lifted os started H enc)

/-- The statement. -/
theorem proved : Rows.ProposeNoneSaid := over

#print axioms proved
end Go.Proofs.Ytdoihmjffpbcdaa.proposeNone
