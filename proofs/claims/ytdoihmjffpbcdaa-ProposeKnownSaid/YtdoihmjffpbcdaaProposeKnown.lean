/-
  'ProposeKnown' returns true: the machine 'AM' runs the program's form, from an empty heap, to true; it looks into no argument.
-/
import Derived.Test.YtdoihmjffpbcdaaRows
import Derived.WalkKit
import Derived.ProofKit
import Derived.Test.YtdoihmjffpbcdaaAmRow
namespace Go.Proofs.Ytdoihmjffpbcdaa.proposeKnown
open Go.ChangeShapes Go.WideShapes Go.ChangeAt Go.RowKit Go.AM

theorem own : ownKnob Try.prog.godebug = none := by kernel_rfl
theorem mixes : Try.prog.follows .mixedOrders = true := by kernel_rfl
theorem laid : laidOutB Try.prog = true := by kernel_rfl
theorem reads : Try.f8.params.toList.all (fun t => Try.prog.readableRec t && Nat.blt t Try.prog.types.size) = true := by kernel_rfl
set_option maxRecDepth 1000000 in
theorem ran : runLaw Try.prog (Pos.ofNat 8) (shpArgs (Try.f8.params.toList.map (shpT Try.prog)) 0) H.empty = .ok := by kernel_rfl

set_option maxRecDepth 100000 in
theorem lifted (os : Os) (started : os.Started) (H : Type) (enc : TypeId × Value → H) :
    ReturnsInHanded {} Try.checked os 8 .any (Rows.proposeKnownSpec.pre6 enc Try.prog Try.f8 Rows.proposeKnownRow.domain false) (Rows.proposeKnownSpec.post enc Try.prog Try.f8 false true false false) := by
  refine returnsInHanded_of_change (C := Try.checked) own started (by kernel_rfl) Try.func8
    (ChangeSpec.witness6 (enc := enc) (C := Try.checked) false ⟨#[], #[], []⟩ 8 (by kernel_rfl) (by kernel_rfl) (by kernel_rfl) (by kernel_rfl)) ?_
  intro W base args ds gs before hval0 hW _ _
  have hW' := hW
  obtain ⟨p, q, hA0, hV, _, _, _⟩ := hW
  have hA : DataW.TrodAll enc Try.prog W 0 (fun _ => true) true Try.f8.params.toList args.toList ds p := hA0
  obtain ⟨hlen, hdl⟩ := trodAll_len hA
  obtain ⟨rfl, rfl⟩ := trodVars_none hV
  have hsh := ShpsOf.of_okWide (P := Try.prog) hlen (fun j t v a b => hval0 j t v (by rw [← Array.getElem?_toList]; exact a) (by rw [← Array.getElem?_toList]; exact b))
  refine (law_shapes mixes ran args hsh W).mono fun e W' ⟨he, hs, hk⟩ => ?_
  subst he
  refine ⟨_, rfl, post_true laid reads rfl (tb := 4) rfl Try.underlying4 hW' ?_ hs hk⟩
  have hn : ds.length = 0 := by rw [hdl, Try.params8]; rfl
  match ds, hn with
  | [], _ => exact ⟨rfl, rfl, rfl⟩

theorem over : Rows.proposeKnownRow.holds Try.pinned (OpenSpec.ofChange Rows.proposeKnownSpec) :=
  OpenClaim.holds_of_wide 8 Try.f8 rfl rfl rfl rfl rfl rfl rfl ⟨rfl, rfl, rfl, rfl, rfl⟩ rfl rfl rfl rfl rfl (by kernel_rfl) Try.func8 (by kernel_rfl)
    (of_decide_eq_true (by kernel_rfl)) (by unfold Func.isWrapper; first | (rw [if_pos (by decide +kernel)]; kernel_rfl) | (rw [if_neg (by decide +kernel)]; exact ⟨rfl, rfl⟩))
    (fun os started H enc _ => lifted os started H enc)

/-- The statement. -/
theorem proved : Rows.ProposeKnownSaid := over

#print axioms proved
end Go.Proofs.Ytdoihmjffpbcdaa.proposeKnown
