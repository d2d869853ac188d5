import Derived.Test.YtdkbkhfmnajjiaaBag5
import Derived.Test.YtdkbkhfmnajjiaaAmLoc
import Derived.KernelRfl
set_option maxHeartbeats 0
set_option maxRecDepth 1000000
set_option linter.unusedSimpArgs false
set_option linter.unusedVariables false
open Go Go.AM Go.Proofs
namespace Bag

theorem known_run : runLawF Try.prog .leaf (Pos.ofNat 4) [] (mkH []) = .ok := by kernel_rfl

theorem known_ok : FunOK Try.prog 4 [] (mkH []) (.bool true) (mkH []) := .of_closed hmix .leaf known_run

noncomputable def c3 : Code := bodyC Try.f3

noncomputable def fx3 : Fx := ⟨none, 3, 132⟩

noncomputable def b0 : Code := subC [1,1,1,0,1,1,1] c3

theorem b0_eq : subC [1,1,1,0,1] c3 = .block 0 (.loop b0) := by kernel_rfl

noncomputable def tm0 (n i : Nat) (v1 : AV) : List (Nat × AV) := [(0, .slice (.ofNat 0) 0 n n true), (1, v1), (5, .bool true), (6, .int .i64 (.ofNat i))]

theorem rndA (n i : Nat) (v1 : AV) (ho : Option HObj) (cs : List AV) (k : Kont) :
    execH Try.prog .leaf [] 1000 fx3 b0 (mkTm (tm0 n i v1)) (mkH [some (.cells cs 1 true), ho]) [] k
    = fInt (Int.ofNat i) fun n_1 => fNat n fun len => fNat n fun cap => fInt (Int.ofNat len) fun n_2 => brec (k (AExit.exit 0) (mkTm [(0, AV.slice (Pos.ofNat 0) 0 n n true), (1, v1), (5, AV.bool true), (6, AV.int IntKind.i64 (Int.ofNat i)), (22, AV.int IntKind.i64 n_1), (23, AV.slice (Pos.ofNat 0) 0 len cap true), (24, AV.int IntKind.i64 n_2), (25, AV.bool false)]) (mkH [some (HObj.cells cs 1 true), ho]) []) (fNat n fun len_1 => fNat n fun cap_1 => fInt (Int.ofNat i) fun n_3 => natOf n_3 (fun m => boolK (Nat.blt m len_1) (fNat (Nat.add 0 (Nat.mul m 1)) fun off => nthK cs off (fun v => eStr v (fun s => fNats s fun l => fInt (Int.ofNat (List.length l)) fun n_4 => brec (fInt (Int.ofNat i) fun n_5 => fInt (wrapK IntKind.i64 (Int.add n_5 (Int.ofNat 1))) fun n_6 => fInt n_6 fun n_7 => k AExit.normal (mkTm [(0, AV.slice (Pos.ofNat 0) 0 n n true), (1, v1), (5, AV.bool true), (6, AV.int IntKind.i64 n_7), (22, AV.int IntKind.i64 n_1), (23, AV.slice (Pos.ofNat 0) 0 len cap true), (24, AV.int IntKind.i64 n_2), (25, AV.bool true), (26, AV.int IntKind.i64 n_5), (27, AV.int IntKind.i64 n_6), (28, AV.slice (Pos.ofNat 0) 0 len_1 cap_1 true), (29, AV.int IntKind.i64 n_3), (30, AV.ptr (Pos.ofNat 0) off), (31, AV.str l), (32, AV.int IntKind.i64 n_4), (33, AV.bool false)]) (mkH [some (HObj.cells cs 1 true), ho]) []) (k AExit.ret (mkTm [(0, AV.slice (Pos.ofNat 0) 0 n n true), (1, v1), (4, AV.bool true), (5, AV.bool true), (6, AV.int IntKind.i64 (Int.ofNat i)), (22, AV.int IntKind.i64 n_1), (23, AV.slice (Pos.ofNat 0) 0 len cap true), (24, AV.int IntKind.i64 n_2), (25, AV.bool true), (28, AV.slice (Pos.ofNat 0) 0 len_1 cap_1 true), (29, AV.int IntKind.i64 n_3), (30, AV.ptr (Pos.ofNat 0) off), (31, AV.str l), (32, AV.int IntKind.i64 n_4), (33, AV.bool true), (34, AV.bool true)]) (mkH [some (HObj.cells cs 1 true), ho]) []) (ilt (Int.ofNat 40) n_4)) (Ans.err 3 3 9)) (Ans.err 3 3 9)) (Ans.err 3 2 26)) (Ans.err 3 2 26)) (ilt n_1 n_2) := by kernel_rfl

/-- All texts are looked at, or one is too long. -/
theorem loopA {l : List (List Nat)} {v1 : AV} {ho : Option HObj} (hn : l.length < 400000) : ∀ (j i : Nat), l.length - i = j → i ≤ l.length →
    LoopOK Try.prog fx3 b0 (mkTm (tm0 l.length i v1)) (mkH [some (.cells (strs l) 1 true), ho]) .ret (mkTm [(4, .bool true)]) (mkH [some (.cells (strs l) 1 true), ho]) ∨
    LoopOK Try.prog fx3 b0 (mkTm (tm0 l.length i v1)) (mkH [some (.cells (strs l) 1 true), ho]) (.exit 0) (mkTm [(0, .slice (.ofNat 0) 0 l.length l.length true), (1, v1), (5, .bool true)]) (mkH [some (.cells (strs l) 1 true), ho]) := by
  intro j
  induction j with
  | zero =>
    intro i hj hi
    have : i = l.length := by omega
    subst this
    right
    have e : ∀ k : Kont, _ = _ := fun k => (rndA l.length l.length v1 ho (strs l) k).trans (by
      simp (maxSteps := 4000000) (disch := omega) only [fInt_eq, fNat_eq, fNats_eq, fAVF_eq, fAV_eq, ilt_nat, ieq_nat, blt_true, blt_false, ble_true, ble_false, AM.beq_true, AM.beq_false, brec_true, brec_false, boolK_true, boolK_false, natOf_of, Option.map_some, optK_some, eStr_str, eInt_int, nthK_eq, segK_eq, appK_eq, set1K_eq, strs_len, strs_get, ints_len, ints_get, wrap_nat, wrap_add, wrap_sub, Nat.add_eq, Nat.mul_eq, Nat.sub_eq, Nat.mul_one, Nat.zero_add, Nat.add_zero, Nat.sub_zero, Bool.not_true, Bool.not_false, if_pos]
      exact rfl)
    exact (LoopOK.stop (fun e => by cases e) (CodeOK.of_runH hmix .leaf .nil (N := 1000) e)).less (Sub0.of_list (.cons (by kernel_rfl) (.cons (by kernel_rfl) (.cons (by kernel_rfl) .nil))))
  | succ j ih =>
    intro i hj hi
    obtain ⟨x, hx⟩ : ∃ x, l[i]? = some x := ⟨l[i]'(by omega), List.getElem?_eq_getElem _⟩
    have hil : i < l.length := by omega
    by_cases hlong : 40 < x.length
    · left
      have e : ∀ k : Kont, _ = _ := fun k => (rndA l.length i v1 ho (strs l) k).trans (by
        simp (maxSteps := 4000000) (disch := omega) only [fInt_eq, fNat_eq, fNats_eq, fAVF_eq, fAV_eq, ilt_nat, ieq_nat, blt_true, blt_false, ble_true, ble_false, AM.beq_true, AM.beq_false, brec_true, brec_false, boolK_true, boolK_false, natOf_of, Option.map_some, optK_some, eStr_str, eInt_int, nthK_eq, segK_eq, appK_eq, set1K_eq, strs_len, strs_get, ints_len, ints_get, wrap_nat, wrap_add, wrap_sub, Nat.add_eq, Nat.mul_eq, Nat.sub_eq, Nat.mul_one, Nat.zero_add, Nat.add_zero, Nat.sub_zero, Bool.not_true, Bool.not_false, if_pos, hx]
        exact rfl)
      exact (LoopOK.stop (fun e => by cases e) (CodeOK.of_runH hmix .leaf .nil (N := 1000) e)).less (Sub0.of_list (.cons (by kernel_rfl) .nil))
    · have e : ∀ k : Kont, _ = _ := fun k => (rndA l.length i v1 ho (strs l) k).trans (by
        simp (maxSteps := 4000000) (disch := omega) only [fInt_eq, fNat_eq, fNats_eq, fAVF_eq, fAV_eq, ilt_nat, ieq_nat, blt_true, blt_false, ble_true, ble_false, AM.beq_true, AM.beq_false, brec_true, brec_false, boolK_true, boolK_false, natOf_of, Option.map_some, optK_some, eStr_str, eInt_int, nthK_eq, segK_eq, appK_eq, set1K_eq, strs_len, strs_get, ints_len, ints_get, wrap_nat, wrap_add, wrap_sub, Nat.add_eq, Nat.mul_eq, Nat.sub_eq, Nat.mul_one, Nat.zero_add, Nat.add_zero, Nat.sub_zero, Bool.not_true, Bool.not_false, if_pos, hx]
        exact rfl)
      have hc := CodeOK.of_runH hmix .leaf .nil (N := 1000) e
      rcases ih (i + 1) (by omega) (by omega) with h | h
      · exact .inl (.next (hc.less (Sub0.of_list (.cons (by kernel_rfl) (.cons (by kernel_rfl) (.cons (by kernel_rfl) (.cons (by kernel_rfl) .nil)))))) h)
      · exact .inr (.next (hc.less (Sub0.of_list (.cons (by kernel_rfl) (.cons (by kernel_rfl) (.cons (by kernel_rfl) (.cons (by kernel_rfl) .nil)))))) h)

noncomputable def b2 : Code := subC [1,1,1,1,1,1,1,0,1,1,1] c3

theorem b2_eq : subC [1,1,1,1,1,1,1,0,1] c3 = .block 2 (.loop b2) := by kernel_rfl

noncomputable def tm2 (n fr to i : Nat) (la : AV) : List (Nat × AV) := [(0, .slice (.ofNat 0) 0 n n true), (1, la), (5, .bool true), (7, .ptr (.ofNat 2) 0), (8, .int .i64 (.ofNat fr)), (9, .int .i64 (.ofNat to)), (10, .int .i64 (.ofNat i))]

/-- Booleans as a row. -/
def bools (l : List Bool) : List AV := l.map .bool

theorem bools_len (l : List Bool) : (bools l).length = l.length := by simp [bools]

theorem bools_get (l : List Bool) (i : Nat) : (bools l)[i]? = (l[i]?).map .bool := by simp [bools]

theorem row_ren_b (σ : Pos → Pos) (l : List Bool) (esz : Nat) (ro : Bool) : (HObj.cells (bools l) esz ro).ren σ = .cells (bools l) esz ro := by simp [HObj.ren, bools, AV.ren]

theorem eBool_bool (b : Bool) (f : Bool → Ans) (e : Ans) : eBool (.bool b) f e = f b := rfl

end Bag

