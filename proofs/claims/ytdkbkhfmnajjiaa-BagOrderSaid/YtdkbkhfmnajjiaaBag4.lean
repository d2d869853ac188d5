import Derived.Test.YtdkbkhfmnajjiaaBag3
import Derived.KernelRfl
set_option maxHeartbeats 0
set_option maxRecDepth 1000000
set_option linter.unusedSimpArgs false
set_option linter.unusedVariables false
open Go Go.AM Go.Proofs
namespace Bag

noncomputable def c9 : Code := bodyC Try.f7

noncomputable def body9 : Code := subC [1,1,0,1,0,0] c9

noncomputable def cL9 : Code := subC [1,1,0,1] c9

noncomputable def tm9 (n c1 c2 i : Nat) (s1 s2 : Bool) : List (Nat × AV) := [(0, .slice (.ofNat 0) 0 n c1 s1), (1, .slice (.ofNat 1) 0 n c2 s2), (5, .bool true), (6, .int .i64 (.ofNat i))]

theorem rnd9 (n c1 c2 i : Nat) (s1 s2 r1 r2 : Bool) (cs ds : List AV) (k : Kont) :
    execH Try.prog .leaf [] 1000 ⟨none, 7, 31⟩ body9 (mkTm (tm9 n c1 c2 i s1 s2)) (mkH [some (.cells cs 1 r1), some (.cells ds 1 r2)]) [] k
    = fInt (Int.ofNat i) fun n_1 => fNat n fun len => fNat c1 fun cap => fInt (Int.ofNat len) fun n_2 => brec (k (AExit.exit 0) (mkTm [(0, AV.slice (Pos.ofNat 0) 0 n c1 s1), (1, AV.slice (Pos.ofNat 1) 0 n c2 s2), (5, AV.bool true), (6, AV.int IntKind.i64 (Int.ofNat i)), (12, AV.bool true), (13, AV.bool true), (14, AV.int IntKind.i64 n_1), (15, AV.slice (Pos.ofNat 0) 0 len cap s1), (16, AV.int IntKind.i64 n_2), (17, AV.bool false), (18, AV.bool false)]) (mkH [some (HObj.cells cs 1 r1), some (HObj.cells ds 1 r2)]) []) (fNat n fun len_1 => fNat c1 fun cap_1 => fInt (Int.ofNat i) fun n_3 => natOf n_3 (fun m => boolK (Nat.blt m len_1) (fNat (Nat.add 0 (Nat.mul m 1)) fun off => nthK cs off (fun v => eStr v (fun s => fNats s fun l => fNats l fun l => fNat n fun len_2 => fNat c2 fun cap_2 => fInt (Int.ofNat i) fun n_4 => natOf n_4 (fun m => boolK (Nat.blt m len_2) (fNat (Nat.add 0 (Nat.mul m 1)) fun off_1 => nthK ds off_1 (fun v => eStr v (fun s => fNats s fun l_1 => fNats l_1 fun l_2 => brec (fInt (Int.ofNat i) fun n_5 => fInt (wrapK IntKind.i64 (Int.add n_5 (Int.ofNat 1))) fun n_6 => fInt n_6 fun n_7 => k AExit.normal (mkTm [(0, AV.slice (Pos.ofNat 0) 0 n c1 s1), (1, AV.slice (Pos.ofNat 1) 0 n c2 s2), (5, AV.bool false), (6, AV.int IntKind.i64 n_7), (12, AV.bool true), (13, AV.bool true), (14, AV.int IntKind.i64 n_1), (15, AV.slice (Pos.ofNat 0) 0 len cap s1), (16, AV.int IntKind.i64 n_2), (17, AV.bool true), (18, AV.bool true), (19, AV.int IntKind.i64 n_5), (20, AV.int IntKind.i64 n_6), (21, AV.slice (Pos.ofNat 0) 0 len_1 cap_1 s1), (22, AV.int IntKind.i64 n_3), (23, AV.ptr (Pos.ofNat 0) off), (24, AV.str l), (25, AV.slice (Pos.ofNat 1) 0 len_2 cap_2 s2), (26, AV.int IntKind.i64 n_4), (27, AV.ptr (Pos.ofNat 1) off_1), (28, AV.str l_2), (29, AV.bool false)]) (mkH [some (HObj.cells cs 1 r1), some (HObj.cells ds 1 r2)]) []) (fInt (Int.ofNat i) fun n_5 => fInt (wrapK IntKind.i64 (Int.add n_5 (Int.ofNat 1))) fun n_6 => fInt n_6 fun n_7 => k AExit.normal (mkTm [(0, AV.slice (Pos.ofNat 0) 0 n c1 s1), (1, AV.slice (Pos.ofNat 1) 0 n c2 s2), (5, AV.bool true), (6, AV.int IntKind.i64 n_7), (12, AV.bool true), (13, AV.bool true), (14, AV.int IntKind.i64 n_1), (15, AV.slice (Pos.ofNat 0) 0 len cap s1), (16, AV.int IntKind.i64 n_2), (17, AV.bool true), (18, AV.bool true), (19, AV.int IntKind.i64 n_5), (20, AV.int IntKind.i64 n_6), (21, AV.slice (Pos.ofNat 0) 0 len_1 cap_1 s1), (22, AV.int IntKind.i64 n_3), (23, AV.ptr (Pos.ofNat 0) off), (24, AV.str l), (25, AV.slice (Pos.ofNat 1) 0 len_2 cap_2 s2), (26, AV.int IntKind.i64 n_4), (27, AV.ptr (Pos.ofNat 1) off_1), (28, AV.str l_2), (29, AV.bool true)]) (mkH [some (HObj.cells cs 1 r1), some (HObj.cells ds 1 r2)]) []) (lbeq l l_2)) (Ans.err 7 7 3010)) (Ans.err 7 7 3010)) (Ans.err 7 6 3027)) (Ans.err 7 6 3027)) (Ans.err 7 3 3010)) (Ans.err 7 3 3010)) (Ans.err 7 2 3027)) (Ans.err 7 2 3027)) (ilt n_1 n_2) := by kernel_rfl

theorem same9 (n c1 c2 : Nat) (s1 s2 r1 r2 : Bool) (cs ds : List AV) (k : AV → H → Ans) :
    bodyF Try.prog (execH Try.prog .leaf [⟨7, 0, exSub ⟨none, 7, 31⟩ cL9 (mkTm (tm9 n c1 c2 0 s1 s2)) (mkH [some (.cells cs 1 r1), some (.cells ds 1 r2)]) .normal (mkTm [(5, .bool true)]) (mkH [some (.cells cs 1 r1), some (.cells ds 1 r2)])⟩] 1000) (Pos.ofNat 7) [] [] [.slice (.ofNat 0) 0 n c1 s1, .slice (.ofNat 1) 0 n c2 s2] (mkH [some (.cells cs 1 r1), some (.cells ds 1 r2)]) k
    = fNat n fun len => fNat c1 fun cap => fInt (Int.ofNat len) fun n_1 => fNat n fun len_1 => fNat c2 fun cap_1 => fInt (Int.ofNat len_1) fun n_2 => brec (guardK (Fx.mk none 7 31 = Fx.mk none 7 31 ∧ cL9 = cL9 ∧ Sub0 (mkTm (tm9 n c1 c2 0 s1 s2)) (mkTm [(0, AV.slice (Pos.ofNat 0) 0 n c1 s1), (1, AV.slice (Pos.ofNat 1) 0 n c2 s2), (4, AV.bool false), (5, AV.bool false), (6, AV.int IntKind.i64 (Int.ofNat 0)), (7, AV.slice (Pos.ofNat 0) 0 len cap s1), (8, AV.int IntKind.i64 n_1), (9, AV.slice (Pos.ofNat 1) 0 len_1 cap_1 s2), (10, AV.int IntKind.i64 n_2), (11, AV.bool false)]) ∧ mkH [some (HObj.cells cs 1 r1), some (HObj.cells ds 1 r2)] = mkH [some (HObj.cells cs 1 r1), some (HObj.cells ds 1 r2)] ∧ MkNil []) (k (AV.bool true) (mkH [some (HObj.cells cs 1 r1), some (HObj.cells ds 1 r2)])) (Ans.err 0 0 0)) (guardK (Fx.mk none 7 31 = Fx.mk none 7 31 ∧ cL9 = cL9 ∧ Sub0 (mkTm (tm9 n c1 c2 0 s1 s2)) (mkTm [(0, AV.slice (Pos.ofNat 0) 0 n c1 s1), (1, AV.slice (Pos.ofNat 1) 0 n c2 s2), (4, AV.bool false), (5, AV.bool true), (6, AV.int IntKind.i64 (Int.ofNat 0)), (7, AV.slice (Pos.ofNat 0) 0 len cap s1), (8, AV.int IntKind.i64 n_1), (9, AV.slice (Pos.ofNat 1) 0 len_1 cap_1 s2), (10, AV.int IntKind.i64 n_2), (11, AV.bool true)]) ∧ mkH [some (HObj.cells cs 1 r1), some (HObj.cells ds 1 r2)] = mkH [some (HObj.cells cs 1 r1), some (HObj.cells ds 1 r2)] ∧ MkNil []) (k (AV.bool true) (mkH [some (HObj.cells cs 1 r1), some (HObj.cells ds 1 r2)])) (Ans.err 0 0 0)) (ieq n_1 n_2) := by kernel_rfl

theorem same9N (c2 : Nat) (s2 r2 : Bool) (ds : List AV) (k : AV → H → Ans) :
    bodyF Try.prog (execH Try.prog .leaf [] 1000) (Pos.ofNat 7) [] [] [.nils, .slice (.ofNat 0) 0 0 c2 s2] (mkH [some (.cells ds 1 r2)]) k
    = fNat c2 fun cap => k (AV.bool true) (mkH [some (HObj.cells ds 1 r2)]) := by kernel_rfl

theorem lbeq_self (s : List Nat) : lbeq s s = true := by rw [lbeq_iff]; simp

theorem next9 {n c1 c2 i : Nat} {s1 s2 r1 r2 : Bool} {l : List (List Nat)} {x : List Nat} (hi : i < n) (hx : l[i]? = some x) (hn : n < 400000) :
    ∃ tm1, CodeOK Try.prog ⟨none, 7, 31⟩ body9 (mkTm (tm9 n c1 c2 i s1 s2)) (mkH [some (.cells (strs l) 1 r1), some (.cells (strs l) 1 r2)]) [] .normal tm1 (mkH [some (.cells (strs l) 1 r1), some (.cells (strs l) 1 r2)]) [] ∧ LTm (tm9 n c1 c2 (i + 1) s1 s2) tm1 := by
  refine ⟨mkTm [(0, AV.slice (Pos.ofNat 0) 0 n c1 s1), (1, AV.slice (Pos.ofNat 1) 0 n c2 s2), (5, AV.bool true), (6, AV.int IntKind.i64 (.ofNat (i + 1))), (12, AV.bool true), (13, AV.bool true), (14, AV.int IntKind.i64 (.ofNat i)), (15, AV.slice (Pos.ofNat 0) 0 n c1 s1), (16, AV.int IntKind.i64 (.ofNat n)), (17, AV.bool true), (18, AV.bool true), (19, AV.int IntKind.i64 (.ofNat i)), (20, AV.int IntKind.i64 (.ofNat (i + 1))), (21, AV.slice (Pos.ofNat 0) 0 n c1 s1), (22, AV.int IntKind.i64 (.ofNat i)), (23, AV.ptr (Pos.ofNat 0) i), (24, AV.str x), (25, AV.slice (Pos.ofNat 1) 0 n c2 s2), (26, AV.int IntKind.i64 (.ofNat i)), (27, AV.ptr (Pos.ofNat 1) i), (28, AV.str x), (29, AV.bool true)], ?_, .cons (by kernel_rfl) (.cons (by kernel_rfl) (.cons (by kernel_rfl) (.cons (by kernel_rfl) .nil)))⟩
  refine CodeOK.of_runH hmix .leaf .nil (N := 1000) fun k => ?_
  refine (rnd9 n c1 c2 i s1 s2 r1 r2 (strs l) (strs l) k).trans ?_
  have e0 : Nat.add 0 (Nat.mul i 1) = i := by show 0 + i * 1 = i; omega
  simp only [fInt_eq, fNat_eq, fNats_eq, ilt_nat, blt_true hi, brec_true, natOf_of, boolK_true, e0, nthK_eq, strs_get, hx, Option.map_some, optK_some, eStr_str, lbeq_self, wrap_add (show i + 1 < 9223372036854775808 by omega)]

theorem stop9 {n c1 c2 : Nat} {s1 s2 r1 r2 : Bool} {l : List (List Nat)} :
    CodeOK Try.prog ⟨none, 7, 31⟩ body9 (mkTm (tm9 n c1 c2 n s1 s2)) (mkH [some (.cells (strs l) 1 r1), some (.cells (strs l) 1 r2)]) [] (.exit 0) (mkTm [(0, AV.slice (Pos.ofNat 0) 0 n c1 s1), (1, AV.slice (Pos.ofNat 1) 0 n c2 s2), (5, AV.bool true), (6, AV.int IntKind.i64 (Int.ofNat n)), (12, AV.bool true), (13, AV.bool true), (14, AV.int IntKind.i64 (.ofNat n)), (15, AV.slice (Pos.ofNat 0) 0 n c1 s1), (16, AV.int IntKind.i64 (.ofNat n)), (17, AV.bool false), (18, AV.bool false)]) (mkH [some (.cells (strs l) 1 r1), some (.cells (strs l) 1 r2)]) [] := by
  refine CodeOK.of_runH hmix .leaf .nil (N := 1000) fun k => ?_
  refine (rnd9 n c1 c2 n s1 s2 r1 r2 (strs l) (strs l) k).trans ?_
  simp only [fInt_eq, fNat_eq, ilt_nat, blt_false (Nat.le_refl n), brec_false]

theorem loop9 {c1 c2 : Nat} {s1 s2 r1 r2 : Bool} {l : List (List Nat)} (hn : l.length < 400000) : ∀ (j i : Nat), l.length - i = j → i ≤ l.length →
    LoopOK Try.prog ⟨none, 7, 31⟩ body9 (mkTm (tm9 l.length c1 c2 i s1 s2)) (mkH [some (.cells (strs l) 1 r1), some (.cells (strs l) 1 r2)]) (.exit 0) (mkTm [(5, .bool true)]) (mkH [some (.cells (strs l) 1 r1), some (.cells (strs l) 1 r2)]) := by
  intro j
  induction j with
  | zero =>
    intro i hj hi
    have : i = l.length := by omega
    subst this
    exact (LoopOK.stop (fun e => by cases e) stop9).less (Sub0.of_list (.cons (by kernel_rfl) .nil))
  | succ j ih =>
    intro i hj hi
    obtain ⟨x, hx⟩ : ∃ x, l[i]? = some x := ⟨l[i]'(by omega), List.getElem?_eq_getElem _⟩
    obtain ⟨tm1, hc, ht⟩ := next9 (c1 := c1) (c2 := c2) (s1 := s1) (s2 := s2) (r1 := r1) (r2 := r2) (show i < l.length by omega) hx hn
    exact .next hc ((ih (i + 1) (by omega) (by omega)).sub0 (Sub0.of_list ht))

/-- Two rows that are the same are told to be. -/
theorem same_ok {c1 c2 : Nat} {s1 s2 r1 r2 : Bool} {l : List (List Nat)} (hn : l.length < 400000) :
    FunOK Try.prog 7 [.slice (.ofNat 0) 0 l.length c1 s1, .slice (.ofNat 1) 0 l.length c2 s2] (mkH [some (.cells (strs l) 1 r1), some (.cells (strs l) 1 r2)]) (.bool true) (mkH [some (.cells (strs l) 1 r1), some (.cells (strs l) 1 r2)]) := by
  have hB : CodeOK Try.prog ⟨none, 7, 31⟩ cL9 (mkTm (tm9 l.length c1 c2 0 s1 s2)) (mkH [some (.cells (strs l) 1 r1), some (.cells (strs l) 1 r2)]) [] .normal (mkTm [(5, .bool true)]) (mkH [some (.cells (strs l) 1 r1), some (.cells (strs l) 1 r2)]) [] := by
    rw [show cL9 = .block 0 (.loop body9) by kernel_rfl]
    exact .block hmix (loop9 hn l.length 0 rfl (Nat.zero_le _)).code
  refine FunOK.of_runH hmix .leaf (HolesOK.one (f := 7) (id := 0) (exSub_ok hB)) (N := 1000) (f := 7) fun k => ?_
  refine (same9 l.length c1 c2 s1 s2 r1 r2 (strs l) (strs l) k).trans ?_
  simp only [fInt_eq, fNat_eq, ieq_nat, beq_true rfl, brec_true]
  refine (guardK_pos ⟨by simp, by simp, Sub0.of_list (.cons (by kernel_rfl) (.cons (by kernel_rfl) (.cons (by kernel_rfl) (.cons (by kernel_rfl) .nil)))), by simp, rfl⟩ _ _).trans ?_
  rfl

theorem same_nil {c2 : Nat} {s2 r2 : Bool} {l : List (List Nat)} :
    FunOK Try.prog 7 [.nils, .slice (.ofNat 0) 0 0 c2 s2] (mkH [some (.cells (strs l) 1 r2)]) (.bool true) (mkH [some (.cells (strs l) 1 r2)]) :=
  FunOK.of_runH hmix .leaf .nil (N := 1000) (f := 7) fun k => by
    refine (same9N ..).trans ?_
    simp only [fNat_eq]

end Bag

