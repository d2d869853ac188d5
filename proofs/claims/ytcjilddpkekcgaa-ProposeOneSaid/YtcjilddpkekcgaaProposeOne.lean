/-
  'ProposeOne' returns true, whatever comes in: the run of the program's form at arguments not known, put together from its functions' contracts (the Bag texts), and the row's reading of its arguments: all that they reach stays as it is, and is typed.
-/
import Derived.Test.YtcjilddpkekcgaaRows
import Derived.WalkKit
import Derived.ProofKit
import Derived.SizedLaws
import Derived.Test.YtcjilddpkekcgaaAmArgs
import Derived.Test.YtcjilddpkekcgaaBag10
namespace Go.Proofs.Ytcjilddpkekcgaa.proposeOne
open Go.ChangeShapes Go.WideShapes Go.ChangeAt Go.RowKit Go.AM

theorem own : ownKnob Try.prog.godebug = none := by kernel_rfl
theorem laid : laidOutB Try.prog = true := by kernel_rfl
theorem reads : Try.f3.params.toList.all (fun t => Try.prog.readableRec t && Nat.blt t Try.prog.types.size) = true := by kernel_rfl

set_option maxRecDepth 100000 in
theorem lifted (os : Os) (started : os.Started) (H : Type) (enc : TypeId × Value → H) :
    ReturnsInHanded {} Try.checked os 3 .any (Rows.proposeOneSpec.pre6 enc Try.prog Try.f3 Rows.proposeOneRow.domain false) (Rows.proposeOneSpec.post enc Try.prog Try.f3 false true false false) := by
  refine returnsInHanded_of_change_sized (C := Try.checked) own started (by kernel_rfl) Try.func3
    (ChangeSpec.witness6 (enc := enc) (C := Try.checked) false ⟨#[], #[(((Try.prog.info? 26).bind (·.zero)).getD .nilIface), (((Try.prog.info? 27).bind (·.zero)).getD .nilIface)], []⟩ 8 (by kernel_rfl) (by kernel_rfl) (by kernel_rfl) (by kernel_rfl)) ?_
  intro W base args ds gs before hval0 hW _ hsz _
  have hW' := hW
  obtain ⟨p, q, hA0, hV, _, _, _⟩ := hW
  have hA : DataW.TrodAll enc Try.prog W 0 (fun _ => true) true Try.f3.params.toList args.toList ds p := hA0
  obtain ⟨hlen, hdl⟩ := trodAll_len hA
  obtain ⟨rfl, rfl⟩ := trodVars_none hV
  rw [Try.params3] at hA
  obtain ⟨v1, vs1, d1, ds1, p1, q1, e1, rfl, _, ht1, hA⟩ := trodAll_cons hA
  obtain ⟨v2, vs2, d2, ds2, p2, q2, e2, rfl, _, ht2, hA⟩ := trodAll_cons hA
  obtain ⟨e3, rfl, _⟩ := trodAll_nil hA
  subst e3 e2
  have hok1 : Value.okWide Try.prog W .any 0 26 v1 := hval0 0 26 v1 (by rw [← Array.getElem?_toList, Try.params3]; rfl) (by rw [← Array.getElem?_toList, e1]; rfl)
  have hok2 : Value.okWide Try.prog W .any 0 27 v2 := hval0 1 27 v2 (by rw [← Array.getElem?_toList, Try.params3]; rfl) (by rw [← Array.getElem?_toList, e1]; rfl)
  have hw : ∀ k ∈ DataW.weightsEach Try.prog [26, 27] [d1, d2], k ≤ reachBytes := fun k hk => by
    have h1 := List.all_eq_true.1 hsz k (by
      rw [Try.params3]
      show k ∈ DataW.weightsEach Try.prog _ _
      simpa [DataW.weightsEach] using hk)
    simpa using h1
  obtain ⟨l1, t1, r1⟩ := arg_struct 10 Pro.plain26 Try.underlying26 hok1 ht1 fun k hk => hw k (DataW.weights_mem_each (j := 0) rfl rfl k hk)
  obtain ⟨x2, t2, r2⟩ := arg_slice 10 Pro.plain27 Try.underlying27 hok2 ht2 fun k hk => hw k (DataW.weights_mem_each (j := 1) rfl rfl k hk)
  obtain ⟨b, rfl, hb⟩ := Pro.ty_begin t1
  obtain ⟨L, e4, hL⟩ := Pro.ty_acts t2
  obtain rfl : x2 = .fz (flat Pro.actC L) L.length := by simpa using e4
  have key : Calls Try.prog 3 args W fun e w' => e = .returned (.bool true) ∧ (∀ r, r < W.heap.size → w'.heap[r]? = W.heap[r]?) ∧ ∀ may, W.keptBut w' may := by
    obtain ⟨A', hG⟩ := Pro.law_ok hb hL
    exact FunOK.calls (fn := Try.f3) (c := bodyC Try.f3) (by kernel_rfl) (by kernel_rfl) (by kernel_rfl) hG (iceM_rel W) (fun r => iceM_free r) (by rw [e1]; exact .cons r1 (.cons r2 .nil))
  refine key.mono fun e W' ⟨he, hs, hk⟩ => ?_
  subst he
  exact ⟨_, rfl, post_true laid reads rfl (tb := 4) rfl Try.underlying4 hW' ⟨rfl, rfl, rfl⟩ hs hk⟩

theorem over : Rows.proposeOneRow.holds Try.pinned (OpenSpec.ofChange Rows.proposeOneSpec) :=
  OpenClaim.holds_of_wide 3 Try.f3 rfl rfl rfl rfl rfl rfl rfl ⟨rfl, rfl, rfl, rfl, rfl⟩ rfl rfl rfl rfl rfl (by kernel_rfl) Try.func3 (by kernel_rfl)
    (of_decide_eq_true (by kernel_rfl)) (by unfold Func.isWrapper; first | (rw [if_pos (by decide +kernel)]; kernel_rfl) | (rw [if_neg (by decide +kernel)]; exact ⟨rfl, rfl⟩))
    (fun os started H enc _ => lifted os started H enc)

/-- The statement. -/
theorem proved : Rows.ProposeOneSaid := over

#print axioms proved
end Go.Proofs.Ytcjilddpkekcgaa.proposeOne
