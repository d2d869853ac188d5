import Derived.Test.YtdkbkhfmnajjiaaBag8
import Derived.KernelRfl
set_option maxHeartbeats 0
set_option maxRecDepth 1000000
set_option linter.unusedSimpArgs false
set_option linter.unusedVariables false
open Go Go.AM Go.Proofs
namespace Bag

noncomputable def tmE (n : Nat) : List (Nat × AV) := [(0, .slice (.ofNat 0) 0 n n true), (5, .bool true), (7, .ptr (.ofNat 2) 0)]

theorem erase_first {l : List (List Nat)} {fr m : Nat} : ((l.drop fr).take m).eraseIdx 0 = (l.drop (fr + 1)).take (m - 1) := by
  rw [← List.tail_drop]
  generalize l.drop fr = d
  cases d with
  | nil => simp
  | cons a d => cases m <;> simp

theorem erase_last {l : List (List Nat)} (fr m : Nat) (_h : m ≤ (l.drop fr).length) : ((l.drop fr).take m).eraseIdx (m - 1) = (l.drop fr).take (m - 1) := by
  generalize l.drop fr = d
  have e : (d.take m).drop (m - 1 + 1) = [] := List.drop_of_length_le (by rw [List.length_take]; omega)
  rw [List.eraseIdx_eq_take_drop_succ, e, List.append_nil, List.take_take, Nat.min_eq_left (by omega)]

theorem loopBN {l : List (List Nat)} {lb : List Bool} (hn : l.length < 300000) : ∀ (j fr to i f : Nat) (row : List (List Nat)), to - fr = j → fr ≤ to → to ≤ l.length → i + (to - fr) < 400000 → f < row.length → to - fr ≤ row.length → row.length < 400000 → held row f (to - fr) = (l.drop fr).take (to - fr) →
    ∃ (row' : List (List Nat)) (f' : Nat), f' < row'.length ∧ row'.length < 400000 ∧
      LoopOK Try.prog fx3 b2 (mkTm (tm2 l.length fr to i .nils)) (mkH [some (.cells (strs l) 1 true), none, some (bagA 3 row.length f (to - fr) l.length), some (.cells (strs row) 1 false)]) (.exit 2) (mkTm (tmE l.length))
        (mkH [some (.cells (strs l) 1 true), none, some (bagA 4 row'.length f' 0 l.length), none, some (.cells (strs row') 1 false)]) := by
  intro j
  induction j with
  | zero =>
    intro fr to i f row hj hft hto hi hf hir hrl hh
    have : to = fr := by omega
    subst this
    refine ⟨row, f, hf, hrl, ?_⟩
    have e : ∀ k : Kont, _ = _ := fun k => (rndEN l.length to to i (bagA 3 row.length f 0 l.length) (.cells (strs row) 1 false) (strs l) lb k).trans (by
      simp (maxSteps := 4000000) (disch := omega) only [fInt_eq, fNat_eq, fNats_eq, fAVF_eq, fAV_eq, ilt_nat, ieq_nat, blt_true, blt_false, ble_true, ble_false, AM.beq_true, AM.beq_false, brec_true, brec_false, boolK_true, boolK_false, natOf_of, Option.map_some, optK_some, eStr_str, eInt_int, nthK_eq, segK_eq, appK_eq, set1K_eq, strs_len, strs_get, ints_len, ints_get, wrap_nat, wrap_add, wrap_sub, Nat.add_eq, Nat.mul_eq, Nat.sub_eq, Nat.mul_one, Nat.zero_add, Nat.add_zero, Nat.sub_zero, Bool.not_true, Bool.not_false, if_pos]
      exact rfl)
    have hz : to - to = 0 := by omega
    rw [hz]
    refine LoopOK.sel (τ := seat [0, 1, 2, 3, 3] 4) ((LoopOK.stop (fun e => by cases e) (CodeOK.of_runH hmix (OrOK.cons good_err .nil) .nil (N := 1000) e)).less (Sub0.of_list (l := tmE l.length) (.cons (by kernel_rfl) (.cons (by kernel_rfl) (.cons (by kernel_rfl) .nil))))) ?_ (SubT.of_list (l := tmE l.length) (.cons (by kernel_rfl) (.cons (by kernel_rfl) (.cons (by kernel_rfl) .nil))))
    refine Sel.of_listN (n := 4) (N := 4) (A1 := [some (.cells (strs l) 1 true), none, some (bagA 3 row.length f 0 l.length), some (.cells (strs row) 1 false)]) (B := [some (.cells (strs l) 1 true), none, some (bagA 4 row.length f 0 l.length), none, some (.cells (strs row) 1 false)]) (t := [0, 1, 2, 3, 3]) rfl rfl ?_ (by show [0, 2, 3].Nodup; decide) ⟨rfl, rfl, rfl, rfl, trivial⟩
    exact .some rfl (row_ren _ _ _ _).symm (.none (.some rfl (by kernel_rfl) (.none (.some rfl (row_ren _ _ _ _).symm .nil))))
  | succ j ih =>
    intro fr to i f row hj hft hto hi hf hir hrl hh
    obtain ⟨kk, want, fr', to', hc, hR⟩ := roundBN (l := l) (lb := lb) (fr := fr) (to := to) (i := i) (by omega) hto (by omega) (by omega)
    have hkk : kk < to - fr := by omega
    have hw : want < l.length := by omega
    have hwk : want = fr + kk := by omega
    obtain ⟨x, hx⟩ : ∃ x, l[want]? = some x := ⟨l[want], List.getElem?_eq_getElem _⟩
    have hx' : (held row f (to - fr))[kk]? = some x := by
      rw [hh, List.getElem?_take_of_lt hkk, List.getElem?_drop, ← hwk]; exact hx
    obtain ⟨row1, f1, g1, g2, g3, g4, g5⟩ := take_ok (room := l.length) hf hir hkk hrl hx'
    have hT : LocFun Try.prog 9 [.ptr (.ofNat 2) 0, .int .i64 (.ofNat kk)] 4 [(2, bagA 3 row.length f (to - fr) l.length), (3, .cells (strs row) 1 false)] (.tup [.str x, .int .i64 (.ofNat 0)]) [(2, some (bagA 4 row1.length f1 (to - fr - 1) l.length)), (3, none)] [some (.cells (strs row1) 1 false)] :=
      LocFun.of g5 [2, 3] rfl (by show [2, 3].Nodup; decide) (by show ∀ i ∈ [2, 3], i < 4; decide) (by show 2 ≤ 3; decide) (noRo.some (o := .cells (strs row1) 1 false) rfl noRo.nil) rfl rfl (by simp only [preL, row_ren]; rfl) (by simp only [postL]; rfl) (by simp only [newsL, List.length_cons, List.length_nil, List.drop_succ_cons, List.drop_zero, List.map_cons, List.map_nil, Option.map_some, row_ren])
    have hc1 := hR x row1.length f1 _ _ _ hx hT
    have hh1 : held row1 f1 (to' - fr') = (l.drop fr').take (to' - fr') := by
      have e0 : to' - fr' = to - fr - 1 := by omega
      rw [e0, g4, hh]
      rcases hc with ⟨rfl, _, rfl, rfl⟩ | ⟨rfl, _, rfl, rfl⟩ | ⟨rfl, _, h3, rfl, rfl⟩
      · rw [erase_first]
      · rw [erase_last _ _ (by rw [List.length_drop]; omega)]
      · rw [show to' - fr - 1 = 0 by omega, erase_first]
        have : to' - fr = 1 := by omega
        rw [this]
    obtain ⟨row', f', q1, q2, q3⟩ := ih fr' to' (i + 1) f1 row1 (by omega) (by omega) (by omega) (by omega) g1 (by omega) (by omega) hh1
    have e1 : to - fr - 1 = to' - fr' := by omega
    rw [e1] at hc1
    refine ⟨row', f', q1, q2, ?_⟩
    refine LoopOK.round (s := [0, 1, 2, 4]) (t := [0, 1, 2, 3, 5]) (n := 4) (N1 := 5) (n0 := 6) (G := [some (.cells (strs l) 1 true), none, some (bagA 5 row'.length f' 0 l.length), none, none, some (.cells (strs row') 1 false)]) rfl hc1 q3 rfl rfl rfl ?_ (by decide) (by show ∀ i ∈ [0, 1, 2, 4], i < 5; decide) (.cons (by kernel_rfl) (.cons (by kernel_rfl) (.cons (by kernel_rfl) (.cons (by kernel_rfl) (.cons (by kernel_rfl) (.cons (by kernel_rfl) (.cons (by kernel_rfl) .nil))))))) (by show 4 ≤ 5; decide) (noRo.some (o := .cells (strs row') 1 false) rfl noRo.nil) ?_ rfl rfl ?_ (by show [0, 2, 5].Nodup; decide) ⟨rfl, rfl, rfl, rfl, trivial⟩ (.cons (by kernel_rfl) (.cons (by kernel_rfl) (.cons (by kernel_rfl) .nil)))
    · exact .some rfl (row_ren _ _ _ _).symm (.none (.some rfl (by kernel_rfl) (.some rfl (row_ren _ _ _ _).symm .nil)))
    · refine (show _ = [some ((HObj.cells (strs l) 1 true).ren (seat [0, 1, 2, 4] 5)), none, some (bagA 5 row'.length f' 0 l.length), none, none, some ((HObj.cells (strs row') 1 false).ren (seat [0, 1, 2, 4] 5))] from by kernel_rfl).trans ?_
      rw [row_ren, row_ren]
    · exact .some rfl (row_ren _ _ _ _).symm (.none (.some rfl (by kernel_rfl) (.none (.some rfl (row_ren _ _ _ _).symm .nil))))

end Bag

