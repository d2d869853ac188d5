/-
  'BagOnce' returns true, whatever comes in: the run of the program's form at arguments not known, put together from its functions' contracts (the Bag texts), and the row's reading of its arguments.
-/
import Derived.Test.YtchkegiebdhciaaRows
import Derived.WalkKit
import Derived.ProofKit
import Derived.Test.YtchkegiebdhciaaAmArgs
import Derived.Test.YtchkegiebdhciaaBag10
namespace Go.Proofs.Ytchkegiebdhciaa.bagOnce
open Go.ChangeShapes Go.WideShapes Go.ChangeAt Go.RowKit Go.AM

theorem own : ownKnob Try.prog.godebug = none := by kernel_rfl
theorem laid : laidOutB Try.prog = true := by kernel_rfl
theorem reads : Try.f3.params.toList.all (fun t => Try.prog.readableRec t && Nat.blt t Try.prog.types.size) = true := by kernel_rfl

set_option maxRecDepth 100000 in
theorem lifted (os : Os) (started : os.Started) (H : Type) (enc : TypeId × Value → H) :
    ReturnsInHanded {} Try.checked os 3 .any (Rows.bagOnceSpec.pre6 enc Try.prog Try.f3 Rows.bagOnceRow.domain false) (Rows.bagOnceSpec.post enc Try.prog Try.f3 false true false false) := by
  refine returnsInHanded_of_change (C := Try.checked) own started (by kernel_rfl) Try.func3
    (ChangeSpec.witness6 (enc := enc) (C := Try.checked) false ⟨#[], #[(((Try.prog.info? 22).bind (·.zero)).getD .nilIface), (((Try.prog.info? 3).bind (·.zero)).getD .nilIface), (((Try.prog.info? 9).bind (·.zero)).getD .nilIface)], []⟩ 8 (by kernel_rfl) (by kernel_rfl) (by kernel_rfl) (by kernel_rfl)) ?_
  intro W base args ds gs before hval0 hW _ _
  have hW' := hW
  obtain ⟨p, q, hA0, hV, _, _, _⟩ := hW
  have hA : DataW.TrodAll enc Try.prog W 0 (fun _ => true) true Try.f3.params.toList args.toList ds p := hA0
  obtain ⟨hlen, hdl⟩ := trodAll_len hA
  obtain ⟨rfl, rfl⟩ := trodVars_none hV
  rw [Try.params3] at hA
  obtain ⟨v1, vs1, d1, ds1, p1, q1, e1, rfl, _, ht1, hA⟩ := trodAll_cons hA
  obtain ⟨v2, vs2, d2, ds2, p2, q2, e2, rfl, _, _, hA⟩ := trodAll_cons hA
  obtain ⟨v3, vs3, d3, ds3, p3, q3, e3, rfl, _, _, hA⟩ := trodAll_cons hA
  obtain ⟨e4, rfl, _⟩ := trodAll_nil hA
  subst e4 e3 e2
  have hok1 : Value.okWide Try.prog W .any 0 22 v1 := hval0 0 22 v1 (by rw [← Array.getElem?_toList, Try.params3]; rfl) (by rw [← Array.getElem?_toList, e1]; rfl)
  obtain ⟨n, rfl⟩ := okWide_int Try.underlying3 (hval0 1 3 v2 (by rw [← Array.getElem?_toList, Try.params3]; rfl) (by rw [← Array.getElem?_toList, e1]; rfl))
  obtain ⟨s, rfl⟩ := okWide_string Try.underlying9 (hval0 2 9 v3 (by rw [← Array.getElem?_toList, Try.params3]; rfl) (by rw [← Array.getElem?_toList, e1]; rfl))
  have key : Calls Try.prog 3 args W fun e w' => e = .returned (.bool true) ∧ (∀ r, r < W.heap.size → w'.heap[r]? = W.heap[r]?) ∧ ∀ may, W.keptBut w' may := by
    rcases slice_strs Try.underlying22 Try.underlying9 (show Try.prog.cellsOf 9 = 1 by kernel_rfl) hok1 ht1 0 with rfl | ⟨l, rb, hrow, hsl⟩
    · exact FunOK.calls (fn := Try.f3) (c := bodyC Try.f3) (by kernel_rfl) (by kernel_rfl) (by kernel_rfl) Bag.once_nil (rows_rel (w := W) (R := []) trivial) rows_free (by rw [e1]; exact .cons .nils (.cons (.int _ _) (.cons (.str _) .nil)))
    · exact FunOK.calls (fn := Try.f3) (c := bodyC Try.f3) (by kernel_rfl) (by kernel_rfl) (by kernel_rfl) (Bag.once_ok (l := l)) (rows_rel (w := W) (R := [(rb, strs l)]) ⟨hrow, trivial⟩) rows_free (by rw [e1]; exact .cons (hsl _ rfl) (.cons (.int _ _) (.cons (.str _) .nil)))
  refine key.mono fun e W' ⟨he, hs, hk⟩ => ?_
  subst he
  exact ⟨_, rfl, post_true laid reads rfl (tb := 4) rfl Try.underlying4 hW' ⟨rfl, rfl, rfl⟩ hs hk⟩

theorem over : Rows.bagOnceRow.holds Try.pinned (OpenSpec.ofChange Rows.bagOnceSpec) :=
  OpenClaim.holds_of_wide 3 Try.f3 rfl rfl rfl rfl rfl rfl rfl ⟨rfl, rfl, rfl, rfl, rfl⟩ rfl rfl rfl rfl rfl (by kernel_rfl) Try.func3 (by kernel_rfl)
    (of_decide_eq_true (by kernel_rfl)) (by unfold Func.isWrapper; first | (rw [if_pos (by decide +kernel)]; kernel_rfl) | (rw [if_neg (by decide +kernel)]; exact ⟨rfl, rfl⟩))
    (fun os started H enc _ => lifted os started H enc)

/-- The statement. -/
theorem proved : Rows.BagOnceSaid := over

#print axioms proved
end Go.Proofs.Ytchkegiebdhciaa.bagOnce
