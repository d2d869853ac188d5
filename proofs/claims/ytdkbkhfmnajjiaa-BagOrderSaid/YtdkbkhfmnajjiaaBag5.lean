import Derived.Test.YtdkbkhfmnajjiaaBag4
import Derived.KernelRfl
set_option maxHeartbeats 0
set_option maxRecDepth 1000000
set_option linter.unusedSimpArgs false
set_option linter.unusedVariables false
open Go Go.AM Go.Proofs
namespace Bag

theorem del (n i : Nat) (cs : List AV) (k : AV → H → Ans) :
    bodyF Try.prog (execH Try.prog .leaf [] 1000) (Pos.ofNat 21) [] [] [.slice (.ofNat 0) 0 n n true, .int .i64 (.ofNat i), .int .i64 (.ofNat (i + 1))] (mkH [some (.cells cs 1 false)]) k
    = fNat n fun len => fNat n fun cap => fInt (Int.ofNat i) fun n_1 => fInt (Int.ofNat (Nat.add i 1)) fun n_2 => fNat n fun len => fNat n fun cap_1 => fInt (Int.ofNat len) fun n_3 => natOf n_3 (fun m => boolK (Nat.ble m cap) (natOf n_2 (fun m_1 => boolK (Nat.ble m_1 m) (natOf n_1 (fun m_2 => boolK (Nat.ble m_2 m_1) (fNat (Nat.add 0 (Nat.mul m_2 1)) fun off => fNat (Nat.sub m_1 m_2) fun len => fNat (Nat.sub m m_2) fun cap => fInt (Int.ofNat i) fun n_4 => fInt (Int.ofNat (Nat.add i 1)) fun n_5 => brec (fNat n fun len => fNat n fun cap => fInt (Int.ofNat len) fun n_6 => fInt n_6 fun n_7 => fNat n fun len => fNat n fun cap => fInt (Int.ofNat i) fun n_8 => natOf n_8 (fun m => boolK (Nat.ble m cap) (fNat (Nat.sub m 0) fun len => fNat (Nat.sub cap 0) fun cap => fNat n fun len_1 => fNat n fun cap_2 => fInt (Int.ofNat (Nat.add i 1)) fun n => natOf n (fun m => boolK (Nat.ble m len_1) (fNat (Nat.add 0 (Nat.mul m 1)) fun off => fNat (Nat.sub len_1 m) fun len_2 => fNat (Nat.sub cap_2 m) fun cap_3 => segK off cs (Nat.mul len_2 1) (fun new => boolK (Nat.ble (Nat.add len len_2) cap) (boolK (Nat.beq (Nat.mul len_2 1) 0) (fNat (Nat.add len len_2) fun len => fNat cap fun cap => fNat len fun len => fNat cap fun cap => fNat len fun len_3 => fNat cap fun cap_4 => fNat len fun len_4 => fNat cap fun cap_5 => fInt (Int.ofNat len_4) fun n => fInt n_7 fun n_9 => natOf n_9 (fun m => boolK (Nat.ble m cap_4) (natOf n (fun m_3 => boolK (Nat.ble m_3 m) (fNat (Nat.add 0 (Nat.mul m_3 1)) fun off => fNat (Nat.sub m m_3) fun len_5 => fNat (Nat.sub cap_4 m_3) fun cap_6 => boolK (Nat.beq len_5 0) (fNat len fun len => fNat cap fun cap => fNat len fun len => fNat cap fun cap => k (AV.slice (Pos.ofNat 0) 0 len cap true) (mkH [some (HObj.cells cs 1 false)])) (setsB off (List.flatten (List.replicate len_5 [AV.str []])) cs (fun cs => fNat len fun len => fNat cap fun cap => fNat len fun len => fNat cap fun cap => k (AV.slice (Pos.ofNat 0) 0 len cap true) (mkH [some (HObj.cells cs 1 false)])) (Ans.err 5 0 0))) (Ans.err 21 4 23)) (Ans.err 21 4 23)) (Ans.err 21 4 23)) (Ans.err 21 4 23)) (boolK (onesF new) (setsB (Nat.add 0 (Nat.mul len 1)) new cs (fun cs => fNat (Nat.add len len_2) fun len => fNat cap fun cap => fNat len fun len => fNat cap fun cap => fNat len fun len_3 => fNat cap fun cap_4 => fNat len fun len_4 => fNat cap fun cap_5 => fInt (Int.ofNat len_4) fun n => fInt n_7 fun n_9 => natOf n_9 (fun m => boolK (Nat.ble m cap_4) (natOf n (fun m_3 => boolK (Nat.ble m_3 m) (fNat (Nat.add 0 (Nat.mul m_3 1)) fun off => fNat (Nat.sub m m_3) fun len_5 => fNat (Nat.sub cap_4 m_3) fun cap_6 => boolK (Nat.beq len_5 0) (fNat len fun len => fNat cap fun cap => fNat len fun len => fNat cap fun cap => k (AV.slice (Pos.ofNat 0) 0 len cap true) (mkH [some (HObj.cells cs 1 false)])) (setsB off (List.flatten (List.replicate len_5 [AV.str []])) cs (fun cs => fNat len fun len => fNat cap fun cap => fNat len fun len => fNat cap fun cap => k (AV.slice (Pos.ofNat 0) 0 len cap true) (mkH [some (HObj.cells cs 1 false)])) (Ans.err 5 0 0))) (Ans.err 21 4 23)) (Ans.err 21 4 23)) (Ans.err 21 4 23)) (Ans.err 21 4 23)) (Ans.err 1 1 0)) (Ans.err 1 1 0))) (boolK (roomy (Nat.add len len_2) 16) (segK 0 cs (Nat.mul len 1) (fun old => appK old new fun both => boolK (true && (Nat.beq (Nat.add 0 (Nat.mul cap 1)) (List.length cs) && (true && onesF new))) (fNat (Nat.add len len_2) fun len_3 => fNat (Nat.add len len_2) fun cap => fNat len_3 fun len => fNat cap fun cap => fNat len fun len_4 => fNat cap fun cap_4 => fNat len fun len_5 => fNat cap fun cap_5 => fInt (Int.ofNat len_5) fun n => fInt n_7 fun n_9 => natOf n_9 (fun m => boolK (Nat.ble m cap_4) (natOf n (fun m_3 => boolK (Nat.ble m_3 m) (fNat (Nat.add 0 (Nat.mul m_3 1)) fun off => fNat (Nat.sub m m_3) fun len_6 => fNat (Nat.sub cap_4 m_3) fun cap_6 => boolK (Nat.beq len_6 0) (fNat len fun len => fNat cap fun cap => fNat len fun len => fNat cap fun cap => k (AV.slice (Pos.ofNat 1) 0 len cap true) (mkH [none, some (HObj.cells both 1 false)])) (setsB off (List.flatten (List.replicate len_6 [AV.str []])) both (fun cs => fNat len fun len => fNat cap fun cap => fNat len fun len => fNat cap fun cap => k (AV.slice (Pos.ofNat 1) 0 len cap true) (mkH [none, some (HObj.cells cs 1 false)])) (Ans.err 5 0 0))) (Ans.err 21 4 23)) (Ans.err 21 4 23)) (Ans.err 21 4 23)) (Ans.err 21 4 23)) (Ans.err 1 4 0)) (Ans.err 1 3 0)) (Ans.err 1 6 0))) (Ans.err 3 2 0)) (Ans.err 21 5 3024)) (Ans.err 21 5 3024)) (Ans.err 21 2 3024)) (Ans.err 21 2 3024)) (fNat n fun len => fNat n fun cap => fNat len fun len => fNat cap fun cap => k (AV.slice (Pos.ofNat 0) 0 len cap true) (mkH [some (HObj.cells cs 1 false)])) (ieq n_4 n_5)) (Ans.err 21 5 23)) (Ans.err 21 5 23)) (Ans.err 21 5 23)) (Ans.err 21 5 23)) (Ans.err 21 5 23)) (Ans.err 21 5 23) := by kernel_rfl

theorem take0 (m first many room : Nat) (cs : List AV) (k : AV → H → Ans) :
    bodyF Try.prog (execH Try.prog (mkO [(8, orcErr)]) [] 1000) (Pos.ofNat 9) [] [] [.ptr .z 0, .int .i64 (.ofNat 0)] (mkH [some (bagO m first many room), some (.cells cs 1 false)]) k
    = fInt (Int.ofNat many) fun n => brec (fNat m fun len => fNat m fun cap => fNat len fun len => fNat cap fun cap => fInt (Int.ofNat first) fun n => fInt n fun n => fInt (wrapK IntKind.i64 (Int.add n (Int.ofNat 0))) fun n => fNat m fun len_1 => fNat m fun cap => fNat len_1 fun len_2 => fNat cap fun cap => fInt (Int.ofNat len_2) fun n_1 => boolK (ieq n_1 (Int.ofNat 0)) (Ans.err 20 15 3015) (fInt (remW n n_1) fun n => natOf n (fun m_1 => boolK (Nat.blt m_1 len) (fNat (Nat.add 0 (Nat.mul m_1 1)) fun off => nthK cs off (fun v => eStr v (fun s => fNats s fun l => fNats l fun l => fNats l fun l => fNats l fun l => fNats l fun l => fInt (Int.ofNat first) fun n => fInt n fun n => fInt (wrapK IntKind.i64 (Int.add n (Int.ofNat 1))) fun n => fNat m fun len => fNat m fun cap => fNat len fun len => fNat cap fun cap => fInt (Int.ofNat len) fun n_2 => boolK (ieq n_2 (Int.ofNat 0)) (Ans.err 9 11 3015) (fInt (remW n n_2) fun n => fInt (Int.ofNat many) fun n_3 => fInt (wrapK IntKind.i64 (Int.sub n_3 (Int.ofNat 1))) fun n_4 => fNats l fun l => fNats l fun l => k (AV.tup [AV.str l, AV.int IntKind.i64 (Int.ofNat 0)]) (mkH [some (HObj.cells [AV.slice (Pos.ofNat 1) 0 m m true, AV.int IntKind.i64 n, AV.int IntKind.i64 n_4, AV.int IntKind.i64 (Int.ofNat room), AV.bool true] 5 false), some (HObj.cells cs 1 false)]))) (Ans.err 20 17 3010)) (Ans.err 20 17 3010)) (Ans.err 20 16 3027)) (Ans.err 20 16 3027))) (k (AV.tup [AV.str [], AV.int IntKind.i64 (Int.ofNat 5)]) (mkH [some (HObj.cells [AV.slice (Pos.ofNat 1) 0 m m true, AV.int IntKind.i64 (Int.ofNat first), AV.int IntKind.i64 (Int.ofNat many), AV.int IntKind.i64 (Int.ofNat room), AV.bool true] 5 false), some (HObj.cells cs 1 false)])) !ilt (Int.ofNat 0) n := by kernel_rfl

theorem strs_drop (l : List (List Nat)) (n : Nat) : (strs l).drop n = strs (l.drop n) := by simp [strs]

theorem strs_take (l : List (List Nat)) (n : Nat) : (strs l).take n = strs (l.take n) := by simp [strs]

theorem strs_sets (a l : List (List Nat)) (i : Nat) (h : i + a.length ≤ l.length) : sets (strs a) (strs l) i = strs (l.take i ++ a ++ l.drop (i + a.length)) := by
  rw [sets_layIn _ _ _ (by rw [strs_len, strs_len]; exact h)]
  unfold layIn
  rw [strs_len, strs_take, strs_drop, strs_app, strs_app]

/-- One is cut out: those behind it move up; the last cell is cleared. -/
theorem del_ok {l : List (List Nat)} {i : Nat} (hi : i < l.length) (hb : l.length < 400000) :
    FunOK Try.prog 21 [.slice (.ofNat 0) 0 l.length l.length true, .int .i64 (.ofNat i), .int .i64 (.ofNat (i + 1))] (mkH [some (.cells (strs l) 1 false)]) (.slice (.ofNat 0) 0 (l.length - 1) l.length true) (mkH [some (.cells (strs (l.eraseIdx i ++ [[]])) 1 false)]) := by
  refine FunOK.of_runH hmix .leaf .nil (N := 1000) (f := 21) fun k => ?_
  refine (del l.length i (strs l) k).trans ?_
  have e0 : ∀ n, Nat.add 0 (Nat.mul n 1) = n := fun n => by show 0 + n * 1 = n; omega
  have e1 : Nat.mul (Nat.sub l.length (Nat.add i 1)) 1 = l.length - (i + 1) := by show (l.length - (i + 1)) * 1 = _; omega
  have e2 : Nat.add i 1 = i + 1 := rfl
  have e3 : Nat.sub i 0 = i := rfl
  have e4 : Nat.add i (Nat.sub l.length (Nat.add i 1)) = l.length - 1 := by show i + (l.length - (i + 1)) = _; omega
  have e5 : Nat.sub l.length 0 = l.length := rfl
  have e6 : Nat.sub l.length (l.length - 1) = 1 := by show l.length - (l.length - 1) = 1; omega
  simp only [fInt_eq, fNat_eq, natOf_of, ble_true (Nat.le_refl l.length), boolK_true, e2, ble_true (show i + 1 ≤ l.length by omega), ble_true (show i ≤ i + 1 by omega), ieq_nat, beq_false (show i ≠ i + 1 by omega), brec_false, ble_true (show i ≤ l.length by omega), e3, e5]
  rw [segK_eq]
  have hE : Nat.add i (Nat.sub l.length (i + 1)) = l.length - 1 := e4
  have hnew : List.take (Nat.mul (Nat.sub l.length (i + 1)) 1) (List.drop (i + 1) (strs l)) = strs (l.drop (i + 1)) := by
    rw [strs_drop, e1]; exact List.take_of_length_le (by rw [strs_len, List.length_drop]; omega)
  have hrep : (List.replicate (Nat.sub l.length (l.length - 1)) [AV.str []]).flatten = strs [[]] := by rw [e6]; rfl
  have hcond : Nat.add 0 (Nat.mul (i + 1) 1) + Nat.mul (Nat.sub l.length (i + 1)) 1 ≤ (strs l).length := by rw [e0, e1, strs_len]; omega
  have her : l.eraseIdx i = l.take i ++ l.drop (i + 1) := List.eraseIdx_eq_take_drop_succ ..
  rw [if_pos hcond]
  simp only [hE, hnew, hrep, e0, ble_true (show l.length - 1 ≤ l.length by omega), boolK_true, beq_false (show Nat.sub l.length (l.length - 1) ≠ 0 by rw [e6]; omega), boolK_false, strs_ones, setsB_eq]
  by_cases hlast : i + 1 = l.length
  · rw [beq_true (show Nat.mul (Nat.sub l.length (i + 1)) 1 = 0 by rw [e1]; omega), boolK_true, if_pos (by simp [strs_len]; omega), strs_sets _ _ _ (by simp; omega)]
    have : l.take (l.length - 1) ++ [[]] ++ l.drop (l.length - 1 + ([[]] : List (List Nat)).length) = l.eraseIdx i ++ [[]] := by
      rw [her, show l.length - 1 = i by omega, List.drop_of_length_le (by simp; omega), List.drop_of_length_le (by omega)]; simp
    rw [this]
  · rw [beq_false (show Nat.mul (Nat.sub l.length (i + 1)) 1 ≠ 0 by rw [e1]; omega), boolK_false, if_pos (by simp [strs_len]; omega), strs_sets _ _ _ (by simp; omega), if_pos (by simp [strs_len]; omega), strs_sets _ _ _ (by simp; omega)]
    have : (l.take i ++ l.drop (i + 1) ++ l.drop (i + (l.drop (i + 1)).length)).take (l.length - 1) ++ [[]] ++ (l.take i ++ l.drop (i + 1) ++ l.drop (i + (l.drop (i + 1)).length)).drop (l.length - 1 + ([[]] : List (List Nat)).length) = l.eraseIdx i ++ [[]] := by
      have hl1 : (l.take i ++ l.drop (i + 1)).length = l.length - 1 := by simp; omega
      have hl2 : (l.take i ++ l.drop (i + 1) ++ l.drop (i + (l.drop (i + 1)).length)).length = l.length := by rw [List.length_append, hl1]; simp; omega
      rw [her, List.take_append_of_le_length (by rw [hl1]; exact Nat.le_refl _), List.take_of_length_le (l := l.take i ++ l.drop (i + 1)) (by rw [hl1]; exact Nat.le_refl _), List.drop_of_length_le (l := l.take i ++ l.drop (i + 1) ++ l.drop (i + (l.drop (i + 1)).length)) (by rw [hl2]; show l.length ≤ l.length - 1 + 1; omega), List.append_nil]
    rw [this]

theorem held_tail {l : List (List Nat)} {first many : Nat} (hf : first < l.length) (hm : many ≤ l.length) (h0 : 0 < many) : held l ((first + 1) % l.length) (many - 1) = (held l first many).eraseIdx 0 := by
  have hf' : (first + 1) % l.length < l.length := Nat.mod_lt _ (by omega)
  apply List.ext_getElem?
  intro i
  rw [List.eraseIdx_zero, List.getElem?_tail]
  by_cases hi : i < many - 1
  · rw [held_get hf' (by omega) hi, held_get hf hm (by omega)]
    congr 1
    rw [Nat.mod_add_mod]
    congr 1; omega
  · rw [List.getElem?_eq_none (by rw [held_len (by omega)]; omega), List.getElem?_eq_none (by rw [held_len hm]; omega)]

theorem take_first {first many room : Nat} {l : List (List Nat)} {x : List Nat} (hf : first < l.length) (hmany : many ≤ l.length) (h0 : 0 < many) (hb : l.length < 400000) (hx : (held l first many)[0]? = some x) :
    FunOK Try.prog 9 [.ptr .z 0, .int .i64 (.ofNat 0)] (mkH [some (bagO l.length first many room), some (.cells (strs l) 1 false)]) (.tup [.str x, .int .i64 (.ofNat 0)]) (mkH [some (bagA 2 l.length ((first + 1) % l.length) (many - 1) room), none, some (.cells (strs l) 1 false)]) := by
  have e0 : ∀ n, Nat.add 0 (Nat.mul n 1) = n := fun n => by show 0 + n * 1 = n; omega
  have hx' : l[first % l.length]? = some x := by rw [held_get hf hmany h0] at hx; exact hx
  have hlt : first % l.length < l.length := Nat.mod_lt _ (by omega)
  have R := FunOK.of_runH (P := Try.prog) hmix (O := mkO [(8, orcErr)]) (OrOK.cons good_err .nil) .nil (N := 1000) (f := 9) (args := [.ptr .z 0, .int .i64 (.ofNat 0)]) (A := mkH [some (bagO l.length first many room), some (.cells (strs l) 1 false)]) (v := .tup [.str x, .int .i64 (.ofNat 0)]) (A' := mkH [some (bagO l.length ((first + 1) % l.length) (many - 1) room), some (.cells (strs l) 1 false)]) fun k => by
    refine (take0 l.length first many room (strs l) k).trans ?_
    simp only [fInt_eq, fNat_eq, fNats_eq, ilt_nat, blt_false (Nat.le_refl 0), blt_true h0, Bool.not_true, Bool.not_false, brec_true, brec_false, wrap_add (show first + 0 < 9223372036854775808 by omega), Nat.add_zero, ieq_nat, beq_false (show l.length ≠ 0 by omega), boolK_false, remW_nat, natOf_of, blt_true hlt, boolK_true, e0, nthK_eq, strs_get, hx', Option.map_some, optK_some, eStr_str, beq_true rfl, wrap_add (show first + 1 < 9223372036854775808 by omega), wrap_sub (show 1 ≤ many by omega) (show many < 9223372036854775808 by omega)]
    rfl
  refine FunOK.sel (τ := seat [0, 1, 1] 2) R ?_ (by kernel_rfl)
  refine Sel.of_listN (n := 2) (N := 2) (A1 := [some (bagO l.length ((first + 1) % l.length) (many - 1) room), some (.cells (strs l) 1 false)]) (B := [some (bagA 2 l.length ((first + 1) % l.length) (many - 1) room), none, some (.cells (strs l) 1 false)]) (t := [0, 1, 1]) rfl rfl ?_ (by show [0, 1].Nodup; decide) ⟨rfl, rfl, trivial⟩
  exact .some rfl (by kernel_rfl) (.none (.some rfl (row_ren _ _ _ _).symm .nil))

theorem takeI (m first many room i : Nat) (cs rows rows2 : List AV) (k : AV → H → Ans) :
    bodyF Try.prog (execH Try.prog (mkO [(8, orcAt [.ptr .z 0] (mkH [some (bagO m first many room), some (.cells cs 1 false)]) (.slice (.ofNat 2) 0 many many true) (mkH [some (bagO m first many room), some (.cells cs 1 false), some (.cells rows 1 false)])),
    (21, orcAt [.slice (.ofNat 2) 0 many many true, .int .i64 (.ofNat (i + 1)), .int .i64 (.ofNat (i + 1 + 1))] (mkH [some (bagO m first many room), some (.cells cs 1 false), some (.cells rows 1 false)]) (.slice (.ofNat 2) 0 (many - 1) many true) (mkH [some (bagO m first many room), some (.cells cs 1 false), some (.cells rows2 1 false)]))]) [] 1000) (Pos.ofNat 9) [] [] [.ptr .z 0, .int .i64 (.ofNat (i + 1))] (mkH [some (bagO m first many room), some (.cells cs 1 false)]) k
    = fInt (Int.ofNat (Nat.add i 1)) fun n => fInt n fun n_1 => brec (fInt n fun n_2 => fInt (Int.ofNat many) fun n_3 => brec (fNat m fun len => fNat m fun cap => fNat len fun len => fNat cap fun cap => fInt (Int.ofNat first) fun n_4 => fInt n_4 fun n_5 => fInt n fun n => fInt (wrapK IntKind.i64 (Int.add n_5 n)) fun n => fNat m fun len_1 => fNat m fun cap => fNat len_1 fun len_2 => fNat cap fun cap => fInt (Int.ofNat len_2) fun n_6 => boolK (ieq n_6 (Int.ofNat 0)) (Ans.err 20 15 3015) (fInt (remW n n_6) fun n => natOf n (fun m_1 => boolK (Nat.blt m_1 len) (fNat (Nat.add 0 (Nat.mul m_1 1)) fun off => nthK cs off (fun v => eStr v (fun s => fNats s fun l => fNats l fun l => fNats l fun l => fNats l fun l => fNats l fun l => fInt (Int.ofNat (Nat.add i 1)) fun n => brec (guardK ([AV.ptr (Pos.ofNat 0) 0] = [AV.ptr Pos.z 0] ∧ mkH [some (HObj.cells [AV.slice (Pos.ofNat 1) 0 m m true, AV.int IntKind.i64 (Int.ofNat first), AV.int IntKind.i64 (Int.ofNat many), AV.int IntKind.i64 (Int.ofNat room), AV.bool true] 5 false), some (HObj.cells cs 1 false)] = mkH [some (bagO m first many room), some (HObj.cells cs 1 false)]) (fNat many fun len => fNat many fun cap => fInt (Int.ofNat (Nat.add i 1)) fun n => fInt (Int.ofNat (Nat.add i 1)) fun n_7 => fInt (wrapK IntKind.i64 (Int.add n_7 (Int.ofNat 1))) fun n_8 => guardK ([AV.slice (Pos.ofNat 2) 0 len cap true, AV.int IntKind.i64 n, AV.int IntKind.i64 n_8] = [AV.slice (Pos.ofNat 2) 0 many many true, AV.int IntKind.i64 (Int.ofNat (i + 1)), AV.int IntKind.i64 (Int.ofNat (i + 1 + 1))] ∧ mkH [some (HObj.cells [AV.slice (Pos.ofNat 1) 0 m m true, AV.int IntKind.i64 (Int.ofNat first), AV.int IntKind.i64 (Int.ofNat many), AV.int IntKind.i64 (Int.ofNat room), AV.bool true] 5 false), some (HObj.cells cs 1 false), some (HObj.cells rows 1 false)] = mkH [some (bagO m first many room), some (HObj.cells cs 1 false), some (HObj.cells rows 1 false)]) (fNat (Nat.sub many 1) fun len => fNat many fun cap => fNat len fun len => fNat cap fun cap => fNat len fun len => fNat cap fun cap => fNats l fun l_1 => fInt (Int.ofNat many) fun n => fInt n fun n_9 => fInt (wrapK IntKind.i64 (Int.sub n_9 (Int.ofNat 1))) fun n_10 => boolK (Nat.ble (Nat.add len 1) cap) (setsB (Nat.add 0 (Nat.mul len 1)) [AV.str l_1] rows2 (fun cs_1 => fNat (Nat.add len 1) fun len => fNat cap fun cap => boolK (ieq (Int.ofNat many) n) (fNats l fun l => fNats l fun l => k (AV.tup [AV.str l, AV.int IntKind.i64 (Int.ofNat 0)]) (mkH [some (HObj.cells [AV.slice (Pos.ofNat 2) 0 len cap true, AV.int IntKind.i64 (Int.ofNat 0), AV.int IntKind.i64 n_10, AV.int IntKind.i64 (Int.ofNat room), AV.bool true] 5 false), some (HObj.cells cs 1 false), some (HObj.cells cs_1 1 false), some (HObj.cells [AV.str l_1] 1 false)])) (Ans.err 9 14 3000)) (Ans.err 1 1 0)) (boolK (roomy (Nat.add len 1) 16) (segK 0 rows2 (Nat.mul len 1) (fun old => appK old [Prod.snd (Prod.fst (0, Operand.tmp 53), AV.str l_1)] fun both => boolK (true && (Nat.beq (Nat.add 0 (Nat.mul cap 1)) (List.length rows2) && true)) (fNat (Nat.add len 1) fun len_3 => fNat (Nat.add len 1) fun cap => boolK (ieq (Int.ofNat many) n) (fNats l fun l => fNats l fun l => k (AV.tup [AV.str l, AV.int IntKind.i64 (Int.ofNat 0)]) (mkH [some (HObj.cells [AV.slice (Pos.ofNat 4) 0 len_3 cap true, AV.int IntKind.i64 (Int.ofNat 0), AV.int IntKind.i64 n_10, AV.int IntKind.i64 (Int.ofNat room), AV.bool true] 5 false), some (HObj.cells cs 1 false), none, some (HObj.cells [AV.str l_1] 1 false), some (HObj.cells both 1 false)])) (Ans.err 9 14 3000)) (Ans.err 1 4 0)) (Ans.err 1 3 0)) (Ans.err 1 6 0))) (Ans.err 0 0 0)) (Ans.err 0 0 0)) (fInt (Int.ofNat first) fun n => fInt n fun n => fInt (wrapK IntKind.i64 (Int.add n (Int.ofNat 1))) fun n => fNat m fun len => fNat m fun cap => fNat len fun len => fNat cap fun cap => fInt (Int.ofNat len) fun n_7 => boolK (ieq n_7 (Int.ofNat 0)) (Ans.err 9 11 3015) (fInt (remW n n_7) fun n => fInt (Int.ofNat many) fun n_8 => fInt (wrapK IntKind.i64 (Int.sub n_8 (Int.ofNat 1))) fun n_9 => fNats l fun l => fNats l fun l => k (AV.tup [AV.str l, AV.int IntKind.i64 (Int.ofNat 0)]) (mkH [some (HObj.cells [AV.slice (Pos.ofNat 1) 0 m m true, AV.int IntKind.i64 n, AV.int IntKind.i64 n_9, AV.int IntKind.i64 (Int.ofNat room), AV.bool true] 5 false), some (HObj.cells cs 1 false)]))) (ieq n (Int.ofNat 0))) (Ans.err 20 17 3010)) (Ans.err 20 17 3010)) (Ans.err 20 16 3027)) (Ans.err 20 16 3027))) (k (AV.tup [AV.str [], AV.int IntKind.i64 (Int.ofNat 5)]) (mkH [some (HObj.cells [AV.slice (Pos.ofNat 1) 0 m m true, AV.int IntKind.i64 (Int.ofNat first), AV.int IntKind.i64 (Int.ofNat many), AV.int IntKind.i64 (Int.ofNat room), AV.bool true] 5 false), some (HObj.cells cs 1 false)])) !ilt n_2 n_3) (k (AV.tup [AV.str [], AV.int IntKind.i64 (Int.ofNat 5)]) (mkH [some (HObj.cells [AV.slice (Pos.ofNat 1) 0 m m true, AV.int IntKind.i64 (Int.ofNat first), AV.int IntKind.i64 (Int.ofNat many), AV.int IntKind.i64 (Int.ofNat room), AV.bool true] 5 false), some (HObj.cells cs 1 false)])) (ilt n_1 (Int.ofNat 0)) := by kernel_rfl

theorem del_in {l h : List (List Nat)} {b : HObj} {i : Nat} (hi : i < h.length) (hb : h.length < 400000) :
    FunOK Try.prog 21 [.slice (.ofNat 2) 0 h.length h.length true, .int .i64 (.ofNat i), .int .i64 (.ofNat (i + 1))] (mkH [some b, some (.cells (strs l) 1 false), some (.cells (strs h) 1 false)]) (.slice (.ofNat 2) 0 (h.length - 1) h.length true) (mkH [some b, some (.cells (strs l) 1 false), some (.cells (strs (h.eraseIdx i ++ [[]])) 1 false)]) := by
  have e := FunOK.frame (σ := seat [2] 3) (A := mkH [some b, some (.cells (strs l) 1 false), some (.cells (strs h) 1 false)]) (del_ok hi hb)
    (Emb.of_list (L0 := [some (.cells (strs h) 1 false)]) (L1 := [some b, some (.cells (strs l) 1 false), some (.cells (strs h) 1 false)]) (s := [2]) rfl (.some rfl (row_ren _ _ _ _).symm .nil) (by decide) (by show ∀ i ∈ [2], i < 3; decide))
    (Glue.of_list (L0 := [some (.cells (strs h) 1 false)]) (L1 := [some b, some (.cells (strs l) 1 false), some (.cells (strs h) 1 false)]) (F := [some (.cells (strs (h.eraseIdx i ++ [[]])) 1 false)]) (s := [2]) rfl (by decide) (by show 1 ≤ 1; decide) noRo.nil)
  have e2 : glueL (seat [2] 3) [2] [some (.cells (strs h) 1 false)] [some (.cells (strs (h.eraseIdx i ++ [[]])) 1 false)] [some b, some (.cells (strs l) 1 false), some (.cells (strs h) 1 false)] = [some b, some (.cells (strs l) 1 false), some ((HObj.cells (strs (h.eraseIdx i ++ [[]])) 1 false).ren (seat [2] 3))] := by kernel_rfl
  rw [show ([some b, some (HObj.cells (strs l) 1 false), some (HObj.cells (strs h) 1 false)] : HL).length = 3 from rfl, e2, row_ren] at e
  exact e

theorem take_other {first many room i : Nat} {l : List (List Nat)} {x : List Nat} (hf : first < l.length) (hmany : many ≤ l.length) (hi : i + 1 < many) (hb : l.length < 400000) (hx : (held l first many)[i + 1]? = some x) :
    FunOK Try.prog 9 [.ptr .z 0, .int .i64 (.ofNat (i + 1))] (mkH [some (bagO l.length first many room), some (.cells (strs l) 1 false)]) (.tup [.str x, .int .i64 (.ofNat 0)]) (mkH [some (bagA 2 many 0 (many - 1) room), none, some (.cells (strs ((held l first many).eraseIdx (i + 1) ++ [x])) 1 false)]) := by
  have hall := allC_ok (room := room) rfl hf hmany (by omega) hb
  have hlen : (held l first many).length = many := held_len hmany
  have hdel := del_in (l := l) (h := held l first many) (b := bagO l.length first many room) (i := i + 1) (by rw [hlen]; exact hi) (by rw [hlen]; omega)
  rw [hlen] at hdel
  have e0 : ∀ n, Nat.add 0 (Nat.mul n 1) = n := fun n => by show 0 + n * 1 = n; omega
  have hx' : l[(first + (i + 1)) % l.length]? = some x := by rw [held_get hf hmany hi] at hx; exact hx
  have hlt : (first + (i + 1)) % l.length < l.length := Nat.mod_lt _ (by omega)
  have hel : ((held l first many).eraseIdx (i + 1)).length = many - 1 := by rw [List.length_eraseIdx_of_lt (by rw [hlen]; exact hi), hlen]
  have hsets : sets [AV.str x] (strs ((held l first many).eraseIdx (i + 1) ++ [[]])) (many - 1) = strs ((held l first many).eraseIdx (i + 1) ++ [x]) := by
    rw [show [AV.str x] = strs [x] from rfl, strs_sets _ _ _ (by simp [hel]), List.take_append_of_le_length (by rw [hel]; exact Nat.le_refl _), List.take_of_length_le (by rw [hel]; exact Nat.le_refl _), List.drop_of_length_le (by simp [hel]), List.append_nil]
  have R := FunOK.of_runH (P := Try.prog) hmix (OrOK.cons hall.good (OrOK.cons hdel.good .nil)) .nil (N := 1000) (f := 9) (args := [.ptr .z 0, .int .i64 (.ofNat (i + 1))]) (A := mkH [some (bagO l.length first many room), some (.cells (strs l) 1 false)]) (v := .tup [.str x, .int .i64 (.ofNat 0)]) (A' := mkH [some (bagA 2 many 0 (many - 1) room), some (.cells (strs l) 1 false), some (.cells (strs ((held l first many).eraseIdx (i + 1) ++ [x])) 1 false), some (.cells [.str x] 1 false)]) fun k => by
    refine (takeI l.length first many room i (strs l) (strs (held l first many)) (strs ((held l first many).eraseIdx (i + 1) ++ [[]])) k).trans ?_
    simp only [fInt_eq, fNat_eq, fNats_eq, ilt_nat, show Nat.add i 1 = i + 1 from rfl, blt_false (Nat.zero_le (i + 1)), blt_true hi, Bool.not_true, Bool.not_false, brec_true, brec_false, wrap_add (show first + (i + 1) < 9223372036854775808 by omega), ieq_nat, beq_false (show l.length ≠ 0 by omega), boolK_false, remW_nat, natOf_of, blt_true hlt, boolK_true, e0, nthK_eq, strs_get, hx', Option.map_some, optK_some, eStr_str, beq_false (show i + 1 ≠ 0 by omega)]
    refine (guardK_pos (by constructor <;> first | trivial | kernel_rfl) _ _).trans ?_
    rw [wrap_add (show i + 1 + 1 < 9223372036854775808 by omega)]
    refine (guardK_pos (by constructor <;> first | trivial | kernel_rfl) _ _).trans ?_
    have e1 : Nat.add (Nat.sub many 1) 1 = many := by show many - 1 + 1 = many; omega
    have e2 : (strs ((held l first many).eraseIdx (i + 1) ++ [[]])).length = many := by rw [strs_len, List.length_append, hel]; show many - 1 + 1 = many; omega
    simp only [e1, ble_true (Nat.le_refl many), boolK_true, setsB_eq, beq_true rfl, wrap_sub (show 1 ≤ many by omega) (show many < 9223372036854775808 by omega)]
    rw [if_pos (by rw [e2]; show many - 1 + 1 ≤ many; omega), show Nat.sub many 1 = many - 1 from rfl, hsets]
    rfl
  refine FunOK.sel (τ := seat [0, 1, 2] 4) R ?_ (by kernel_rfl)
  refine Sel.of_listN (n := 2) (N := 4) (A1 := [some (bagA 2 many 0 (many - 1) room), some (.cells (strs l) 1 false), some (.cells (strs ((held l first many).eraseIdx (i + 1) ++ [x])) 1 false), some (.cells [.str x] 1 false)]) (B := [some (bagA 2 many 0 (many - 1) room), none, some (.cells (strs ((held l first many).eraseIdx (i + 1) ++ [x])) 1 false)]) (t := [0, 1, 2]) rfl rfl ?_ (by show [0, 2].Nodup; decide) ⟨rfl, rfl, trivial⟩
  exact .some rfl (by kernel_rfl) (.none (.some rfl (row_ren _ _ _ _).symm .nil))

/-- Take: what stands there is taken out, all else stays in its order. -/
theorem take_ok {first many room i : Nat} {l : List (List Nat)} {x : List Nat} (hf : first < l.length) (hmany : many ≤ l.length) (hi : i < many) (hb : l.length < 400000) (hx : (held l first many)[i]? = some x) :
    ∃ (l' : List (List Nat)) (f' : Nat), f' < l'.length ∧ many - 1 ≤ l'.length ∧ l'.length ≤ l.length ∧ held l' f' (many - 1) = (held l first many).eraseIdx i ∧
      FunOK Try.prog 9 [.ptr .z 0, .int .i64 (.ofNat i)] (mkH [some (bagO l.length first many room), some (.cells (strs l) 1 false)]) (.tup [.str x, .int .i64 (.ofNat 0)]) (mkH [some (bagA 2 l'.length f' (many - 1) room), none, some (.cells (strs l') 1 false)]) := by
  cases i with
  | zero => exact ⟨l, (first + 1) % l.length, Nat.mod_lt _ (by omega), by omega, Nat.le_refl _, held_tail hf hmany hi, take_first hf hmany hi hb hx⟩
  | succ i =>
    have hlen : (held l first many).length = many := held_len hmany
    have hel : ((held l first many).eraseIdx (i + 1)).length = many - 1 := by rw [List.length_eraseIdx_of_lt (by rw [hlen]; exact hi), hlen]
    have hl : ((held l first many).eraseIdx (i + 1) ++ [x]).length = many := by rw [List.length_append, hel]; show many - 1 + 1 = many; omega
    refine ⟨(held l first many).eraseIdx (i + 1) ++ [x], 0, by rw [hl]; omega, by rw [hl]; omega, by rw [hl]; exact hmany, ?_, ?_⟩
    · rw [held_zero (by rw [hl]; omega), List.take_append_of_le_length (by rw [hel]; exact Nat.le_refl _), List.take_of_length_le (by rw [hel]; exact Nat.le_refl _)]
    · rw [hl]; exact take_other hf hmany hi hb hx

end Bag

