/-
  'BagOrder' returns true, whatever comes in: the run of the program's form at arguments not known, put together from its functions' contracts (the Bag texts), and the row's reading of its arguments.
-/
import Derived.Test.YtdkbkhfmnajjiaaRows
import Derived.WalkKit
import Derived.ProofKit
import Derived.Test.YtdkbkhfmnajjiaaAmArgs
import Derived.Test.YtdkbkhfmnajjiaaBag13
namespace Go.Proofs.Ytdkbkhfmnajjiaa.bagOrder
open Go.ChangeShapes Go.WideShapes Go.ChangeAt Go.RowKit Go.AM

theorem own : ownKnob Try.prog.godebug = none := by kernel_rfl
theorem laid : laidOutB Try.prog = true := by kernel_rfl
theorem reads : Try.f3.params.toList.all (fun t => Try.prog.readableRec t && Nat.blt t Try.prog.types.size) = true := by kernel_rfl
theorem cells9 : Try.prog.cellsOf 9 = 1 := by kernel_rfl
theorem cells4 : Try.prog.cellsOf 4 = 1 := by kernel_rfl

set_option maxRecDepth 100000 in
theorem lifted (os : Os) (started : os.Started) (H : Type) (enc : TypeId × Value → H) :
    ReturnsInHanded {} Try.checked os 3 .any (Rows.bagOrderSpec.pre6 enc Try.prog Try.f3 Rows.bagOrderRow.domain false) (Rows.bagOrderSpec.post enc Try.prog Try.f3 false true false false) := by
  refine returnsInHanded_of_change (C := Try.checked) own started (by kernel_rfl) Try.func3
    (ChangeSpec.witness6 (enc := enc) (C := Try.checked) false ⟨#[], #[(((Try.prog.info? 22).bind (·.zero)).getD .nilIface), (((Try.prog.info? 23).bind (·.zero)).getD .nilIface)], []⟩ 8 (by kernel_rfl) (by kernel_rfl) (by kernel_rfl) (by kernel_rfl)) ?_
  intro W base args ds gs before hval0 hW _ _
  have hW' := hW
  obtain ⟨p, q, hA0, hV, _, _, _⟩ := hW
  have hA : DataW.TrodAll enc Try.prog W 0 (fun _ => true) true Try.f3.params.toList args.toList ds p := hA0
  obtain ⟨hlen, hdl⟩ := trodAll_len hA
  obtain ⟨rfl, rfl⟩ := trodVars_none hV
  rw [Try.params3] at hA
  obtain ⟨v1, vs1, d1, ds1, p1, q1, e1, rfl, _, ht1, hA⟩ := trodAll_cons hA
  obtain ⟨v2, vs2, d2, ds2, p2, q2, e2, rfl, _, ht2, hA⟩ := trodAll_cons hA
  obtain ⟨e3, rfl, _⟩ := trodAll_nil hA
  subst e3 e2
  have hok1 : Value.okWide Try.prog W .any 0 22 v1 := hval0 0 22 v1 (by rw [← Array.getElem?_toList, Try.params3]; rfl) (by rw [← Array.getElem?_toList, e1]; rfl)
  have hok2 : Value.okWide Try.prog W .any 0 23 v2 := hval0 1 23 v2 (by rw [← Array.getElem?_toList, Try.params3]; rfl) (by rw [← Array.getElem?_toList, e1]; rfl)
  have key : Calls Try.prog 3 args W fun e w' => e = .returned (.bool true) ∧ (∀ r, r < W.heap.size → w'.heap[r]? = W.heap[r]?) ∧ ∀ may, W.keptBut w' may := by
    rcases slice_strs Try.underlying22 Try.underlying9 cells9 hok1 ht1 0 with rfl | ⟨l, rb, hrow, hsl⟩
    · obtain ⟨G, hG⟩ := Bag.order_nil
      exact FunOK.calls (fn := Try.f3) (c := bodyC Try.f3) (by kernel_rfl) (by kernel_rfl) (by kernel_rfl) hG (rows_rel (w := W) (R := []) trivial) rows_free (by rw [e1]; exact .cons .nils (.cons (.any _) .nil))
    · by_cases h0 : l.length = 0
      · have hl : l = [] := List.eq_nil_of_length_eq_zero h0
        subst hl
        obtain ⟨G, hG⟩ := Bag.order_empty
        exact FunOK.calls (fn := Try.f3) (c := bodyC Try.f3) (by kernel_rfl) (by kernel_rfl) (by kernel_rfl) hG (rows_rel (w := W) (R := [(rb, strs [])]) ⟨hrow, trivial⟩) rows_free (by rw [e1]; exact .cons (hsl _ rfl) (.cons (.any _) .nil))
      · rcases slice_bools Try.underlying23 Try.underlying4 cells4 hok2 ht2 1 with rfl | ⟨lb, rb2, hrow2, hsl2⟩
        · obtain ⟨G, hG⟩ := Bag.orderN (l := l) (lb := []) (by omega)
          exact FunOK.calls (fn := Try.f3) (c := bodyC Try.f3) (by kernel_rfl) (by kernel_rfl) (by kernel_rfl) hG (rel_pad (L := rowsH [(rb, strs l)]) 1 (rows_rel (w := W) (R := [(rb, strs l)]) ⟨hrow, trivial⟩)) (fun r => pad_free 1 (rows_free (R := [(rb, strs l)]) r)) (by rw [e1]; exact .cons (hsl _ rfl) (.cons .nils .nil))
        · obtain ⟨G, hG⟩ := Bag.orderS (l := l) (lb := lb) (by omega)
          exact FunOK.calls (fn := Try.f3) (c := bodyC Try.f3) (by kernel_rfl) (by kernel_rfl) (by kernel_rfl) hG (rows_rel (w := W) (R := [(rb, strs l), (rb2, lb.map .bool)]) ⟨hrow, hrow2, trivial⟩) rows_free (by rw [e1]; exact .cons (hsl _ rfl) (.cons (hsl2 _ rfl) .nil))
  refine key.mono fun e W' ⟨he, hs, hk⟩ => ?_
  subst he
  exact ⟨_, rfl, post_true laid reads rfl (tb := 4) rfl Try.underlying4 hW' ⟨rfl, rfl, rfl⟩ hs hk⟩

theorem over : Rows.bagOrderRow.holds Try.pinned (OpenSpec.ofChange Rows.bagOrderSpec) :=
  OpenClaim.holds_of_wide 3 Try.f3 rfl rfl rfl rfl rfl rfl rfl ⟨rfl, rfl, rfl, rfl, rfl⟩ rfl rfl rfl rfl rfl (by kernel_rfl) Try.func3 (by kernel_rfl)
    (of_decide_eq_true (by kernel_rfl)) (by unfold Func.isWrapper; first | (rw [if_pos (by decide +kernel)]; kernel_rfl) | (rw [if_neg (by decide +kernel)]; exact ⟨rfl, rfl⟩))
    (fun os started H enc _ => lifted os started H enc)

/-- The statement. -/
theorem proved : Rows.BagOrderSaid := over

#print axioms proved
end Go.Proofs.Ytdkbkhfmnajjiaa.bagOrder
