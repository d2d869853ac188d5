import Derived.Test.YtcjilddpkekcgaaBag1
import Derived.Test.YtcjilddpkekcgaaAmFz
import Derived.Test.YtcjilddpkekcgaaAmPick
import Derived.KernelRfl
set_option maxHeartbeats 0
set_option maxRecDepth 1000000
set_option linter.unusedSimpArgs false
set_option linter.unusedVariables false
open Go Go.AM Go.Proofs
namespace Pro

theorem max2 (a b c d : Int) : FunOK Try.prog 31 [.slice (.ofNat 0) 0 2 2 false] (mkH [some (.cells [.int .i64 a, .int .i64 b, .int .i64 c, .int .i64 d] 2 false)]) (avB (bmx (bmx (0, 0) (a, b)) (c, d))) (mkH [some (.cells [.int .i64 a, .int .i64 b, .int .i64 c, .int .i64 d] 2 false)]) := by
  have fin : ∀ {x : Int × Int} {G : HL}, (∀ k : AV → H → Ans, bodyF Try.prog (execH Try.prog (mkO [(47, orcOrder)]) [] 1000) (Pos.ofNat 31) [] [] [.slice (.ofNat 0) 0 2 2 false] (mkH [some (.cells [.int .i64 a, .int .i64 b, .int .i64 c, .int .i64 d] 2 false)]) k = k (avB x) (mkH (some (.cells [.int .i64 a, .int .i64 b, .int .i64 c, .int .i64 d] 2 false) :: G))) → bmx (bmx (0, 0) (a, b)) (c, d) = x → FunOK Try.prog 31 [.slice (.ofNat 0) 0 2 2 false] (mkH [some (.cells [.int .i64 a, .int .i64 b, .int .i64 c, .int .i64 d] 2 false)]) (avB (bmx (bmx (0, 0) (a, b)) (c, d))) (mkH [some (.cells [.int .i64 a, .int .i64 b, .int .i64 c, .int .i64 d] 2 false)]) := by
    intro x G h hx
    rw [hx]
    exact (FunOK.of_runH hmix (OrOK.cons good_order .nil) .nil (N := 1000) (f := 31) h).bare1 (fun _ => rfl) (fun _ => rfl)
  cases h1 : bless 0 0 a b <;> cases h2 : bless 0 0 c d <;> cases h4 : bless a b c d
  all_goals
    have h1' : bless (Int.ofNat 0) (Int.ofNat 0) a b = _ := h1
    have h2' : bless (Int.ofNat 0) (Int.ofNat 0) c d = _ := h2
    have he : ∀ k : AV → H → Ans, _ = _ := fun k => (max2T a b c d k).trans (by
      simp (maxSteps := 4000000) (disch := omega) only [fInt_eq, fNat_eq, fNats_eq, fAVF_eq, fAV_eq, ilt_nat, ieq_nat, ieq_self, Bool.and_self, blt_true, blt_false, ble_true, ble_false, AM.beq_true, AM.beq_false, brec_true, brec_false, boolK_true, boolK_false, natOf_of, Option.map_some, optK_some, eStr_str, eInt_int, nthK_eq, segK_eq, appK_eq, set1K_eq, strs_len, strs_get, ints_len, ints_get, wrap_nat, wrap_add, wrap_sub, Nat.add_eq, Nat.mul_eq, Nat.sub_eq, Nat.mul_one, Nat.zero_add, Nat.add_zero, Nat.sub_zero, Bool.not_true, Bool.not_false, if_pos, ilt_ord, h1', h2', h4]
      try exact rfl)
    first
    | exact fin (x := (0, 0)) he (by simp [bmx, h1, h2, h4])
    | exact fin (x := (a, b)) he (by simp [bmx, h1, h2, h4])
    | exact fin (x := (c, d)) he (by simp [bmx, h1, h2, h4])

/-- 'Max' of two or three, reckoned. -/
noncomputable def orcMax : Orc := fun args A k els => match args with
  | [.slice p 0 2 2 false] => match A.t.get p with
    | some (.cells [.int .i64 a, .int .i64 b, .int .i64 c, .int .i64 d] 2 false) => k (.agg [.int .i64 (bmx (bmx (0, 0) (a, b)) (c, d)).1, .int .i64 (bmx (bmx (0, 0) (a, b)) (c, d)).2]) A
    | _ => .err 81 0 0
  | args => orcMax3 args A k els

theorem good_max : Good Try.prog 31 orcMax := fun args A k els h => by
  unfold orcMax at h
  split at h
  · rename_i p
    split at h
    · rename_i a b c d hp
      exact .inr ⟨_, A, h, fun ρ w args' hr ha => ((max2 a b c d).every1 (fun _ => rfl) (fun _ => rfl) hp (fun σ hσ => by
        show [AV.slice (σ (.ofNat 0)) 0 2 2 false] = _
        rw [show Pos.ofNat 0 = Pos.z from rfl, hσ])) ρ w args' hr ha⟩
    · cases h
  · exact good_max3 _ A k els h

theorem cloneF (l : List AV) (n : Nat) (k : AV → H → Ans) :
    bodyF Try.prog (execH Try.prog .leaf [] 1000) (Pos.ofNat 17) [] [] [.fz l (Nat.succ n)] (mkH []) k
    = segK 0 l (Nat.mul (Nat.succ n) 1) (fun new => boolK (Nat.ble (Nat.add 0 (Nat.succ n)) 0) (boolK (Nat.beq (Nat.mul (Nat.succ n) 1) 0) (fNat (Nat.add 0 (Nat.succ n)) fun len => fNat len fun len => k (AV.slice (Pos.ofNat 0) 0 len 0 false) (mkH [some (HObj.cells [] 1 false)])) (boolK (onesF new) (setsB 0 new [] (fun cs => fNat (Nat.add 0 (Nat.succ n)) fun len => fNat len fun len => k (AV.slice (Pos.ofNat 0) 0 len 0 false) (mkH [some (HObj.cells cs 1 false)])) (Ans.err 1 1 0)) (Ans.err 1 1 0))) (boolK (roomy (Nat.add 0 (Nat.succ n)) 1) (fNat (Nat.add 0 (Nat.succ n)) fun len => fNat (Nat.add 0 (Nat.succ n)) fun cap => fNat len fun len => fNat cap fun cap => k (AV.slice (Pos.ofNat 1) 0 len cap true) (mkH [some (HObj.cells [] 1 false), some (HObj.cells new 1 false)])) (Ans.err 1 6 0))) (Ans.err 3 2 0) := by kernel_rfl

theorem cloneN (k : AV → H → Ans) :
    bodyF Try.prog (execH Try.prog .leaf [] 1000) (Pos.ofNat 17) [] [] [.nils] (mkH []) k
    = k AV.nils (mkH []) := by kernel_rfl

theorem cloneZ (k : AV → H → Ans) :
    bodyF Try.prog (execH Try.prog .leaf [] 1000) (Pos.ofNat 17) [] [] [.z1] (mkH []) k
    = k (AV.slice (Pos.ofNat 0) 0 0 0 false) (mkH [some (HObj.cells [] 1 false)]) := by kernel_rfl

theorem clone_ok {l : List AV} {n : Nat} (hl : l.length = n) (hn : n < 400000) : FunOK Try.prog 17 [.fz l n] (mkH []) (.fz l n) (mkH []) := by
  refine FunOK.fz1 (fun h => List.eq_nil_of_length_eq_zero (hl.trans h)) (fun h => ?_) (fun h => ?_) (fun h hpf => ?_)
  · obtain rfl : l = [] := List.eq_nil_of_length_eq_zero (hl.trans h)
    subst h
    exact (FunOK.of_runH hmix .leaf .nil (N := 1000) (f := 17) cloneN).wk .nils (.refl _)
  · obtain rfl : l = [] := List.eq_nil_of_length_eq_zero (hl.trans h)
    subst h
    exact ((FunOK.of_runH hmix .leaf .nil (N := 1000) (f := 17) cloneZ).ice 0 (l := []) (esz := 1) rfl rfl rfl (v' := .fz [] 0) (by kernel_rfl)).bare fun _ => rfl
  · obtain ⟨m, rfl⟩ : ∃ m, n = m + 1 := ⟨n - 1, by omega⟩
    have hseg : ∀ (f : List AV → Ans) (e : Ans), segK 0 l (Nat.mul (Nat.succ m) 1) f e = f l := by
      intro f e
      rw [segK_eq, if_pos (show 0 + Nat.mul (Nat.succ m) 1 ≤ l.length by show 0 + (m + 1) * 1 ≤ _; omega), List.drop_zero, List.take_of_length_le (by show l.length ≤ (m + 1) * 1; omega)]
    have hr : roomy (Nat.add 0 (Nat.succ m)) 1 = true := roomy_true (by show (0 + (m + 1)) * 1 ≤ _; omega) (by show 0 + (m + 1) ≤ _; omega)
    have R : FunOK Try.prog 17 [.fz l (m + 1)] (mkH []) (.slice (.ofNat 1) 0 (m + 1) (m + 1) true) (mkH [some (.cells [] 1 false), some (.cells l 1 false)]) := FunOK.of_runH hmix .leaf .nil (N := 1000) (f := 17) fun k => (cloneF l m k).trans (by
      rw [hseg, hr, show Nat.ble (Nat.add 0 (Nat.succ m)) 0 = false from ble_false (by show 0 < 0 + (m + 1); omega)]
      simp only [boolK_false, boolK_true, fNat_eq, Nat.add_eq, Nat.zero_add])
    refine (R.ice 1 (l := l) (esz := 1) rfl hpf rfl (v' := .fz l (m + 1)) ?_).bare fun _ => rfl
    show (match Nat.ble (0 + (m + 1) * 1) l.length with | true => AV.fz ((l.drop 0).take ((m + 1) * 1)) (m + 1) | false => _) = _
    rw [ble_true (show 0 + (m + 1) * 1 ≤ l.length by omega), List.drop_zero, List.take_of_length_le (by omega)]

/-- 'Clone' of bytes. -/
noncomputable def orcClone : Orc := fun args A k _ => match args with
  | [.fz l n] => boolK (Nat.beq l.length n) (boolK (Nat.blt n 400000) (k (.fz l n) A) (.err 82 0 0)) (.err 82 1 0)
  | [.nils] => k (.fz [] 0) A
  | _ => .err 82 2 0

theorem good_clone : Good Try.prog 17 orcClone := good_pure fun args A k els h => by
  unfold orcClone at h
  split at h
  · rename_i l n
    rw [boolK_eq] at h
    split at h
    · rename_i h1
      rw [boolK_eq] at h
      split at h
      · rename_i h2
        exact ⟨_, h, (clone_ok (Nat.eq_of_beq_eq_true h1) ((blt_iff _ _).1 h2)).every (fun _ => rfl) (fun _ => rfl) A⟩
      · cases h
    · cases h
  · exact ⟨_, h, ((clone_ok (l := []) (n := 0) rfl (by decide)).every (fun _ => rfl) (fun _ => rfl) A).more (.cons .nils .nil)⟩
  · cases h

theorem bytes_fz {A : H} {l : List Nat} (hl : isBytes l) : bytesV Try.prog A 24 9 (.fz (u8s l) l.length) = some (.str l) := by
  have hu : Try.prog.underlying 24 = some (.slice 5) := by kernel_rfl
  have hv : Try.prog.underlying 9 = some .string := by kernel_rfl
  have hw : Try.prog.underlying 5 = some (.int .u8) := by kernel_rfl
  have hr : readN (u8s l) 0 l.length = some (u8s l) := by
    unfold readN
    rw [if_pos (ble_true (by rw [u8s_len]; omega)), List.drop_zero, List.take_of_length_le (by rw [u8s_len]; exact Nat.le_refl _)]
  simp only [bytesV, hu, hv, hw, hr, toBytes_u8s hl]

noncomputable def c34 : Code := bodyC Try.f34

noncomputable def fx34 : Fx := ⟨none, 34, 20⟩

noncomputable def b34 : Code := subC [1,1,0,1,1,1] c34

theorem b34_eq : subC [1,1,0,1] c34 = .block 0 (.loop b34) := by kernel_rfl

noncomputable def tm34 (n : Int) (c i : Nat) (bs : List AV) : List (Nat × AV) := [(1, .int .i64 n), (5, .int .i64 (.ofNat c)), (8, .agg bs), (9, .int .i64 (.ofNat i))]

theorem rnd34 (n : Int) (c i : Nat) (o : HObj) (bs : List AV) (k : Kont) :
    execH Try.prog .leaf [] 1000 fx34 b34 (mkTm (tm34 n c i bs)) (mkH [some o]) [] k
    = brec (k (AExit.exit 0) (mkTm [(1, AV.int .i64 n), (5, AV.int .i64 (Int.ofNat c)), (8, AV.agg bs), (9, AV.int .i64 (Int.ofNat i)), (10, AV.bool false)]) (mkH [some o]) []) (optK (indexV Try.prog 66 (AV.agg bs) (AV.int .i64 (Int.ofNat i))) (fun v => fAVF v fun v => fAVF v fun v_1 => fAVF v_1 fun v_2 => eBool v_2 (fun q => boolK q (fInt (Int.ofNat c) fun n_1 => fInt (wrapK .i64 (Int.add n_1 (Int.ofNat 1))) fun n_2 => fInt n_2 fun n_3 => fInt (wrapK .i64 (Int.add (Int.ofNat i) (Int.ofNat 1))) fun n_4 => fInt n_4 fun n_5 => k AExit.normal (mkTm [(1, AV.int .i64 n), (5, AV.int .i64 n_3), (7, v_1), (8, AV.agg bs), (9, AV.int .i64 n_5), (10, AV.bool true), (11, v), (12, v_2), (13, AV.int .i64 n_1), (14, AV.int .i64 n_2), (15, AV.int .i64 n_4)]) (mkH [some o]) []) (fInt (wrapK .i64 (Int.add (Int.ofNat i) (Int.ofNat 1))) fun n_1 => fInt n_1 fun n_2 => k AExit.normal (mkTm [(1, AV.int .i64 n), (5, AV.int .i64 (Int.ofNat c)), (7, v_1), (8, AV.agg bs), (9, AV.int .i64 n_2), (10, AV.bool true), (11, v), (12, v_2), (15, AV.int .i64 n_1)]) (mkH [some o]) [])) (Ans.err 13 0 0)) (Ans.err 34 0 27)) (ilt (Int.ofNat i) (Int.ofNat 65)) := by kernel_rfl

theorem index66 {ys : List Bool} {i : Nat} {b : Bool} (h : i < 65) (hx : ys[i]? = some b) : indexV Try.prog 66 (.agg (bools ys)) (.int .i64 (.ofNat i)) = some (.bool b) := by
  have hu : Try.prog.underlying 66 = some (.array 65 4) := by kernel_rfl
  have hv : Try.prog.underlying 4 = some .bool := by kernel_rfl
  have hs : sizeT Try.prog 4 = some 1 := by kernel_rfl
  have hb : below (.int .i64 (.ofNat i)) 65 = some i := by simp [below, blt_true h]
  simp only [indexV, hu, hs, hb, partV, hv, Nat.mul_one, bools_get, hx, Option.map_some]

/-- How many are true. -/
def cnt (l : List Bool) : Nat := (l.filter id).length

theorem cnt_le (l : List Bool) : cnt l ≤ l.length := List.length_filter_le ..

theorem cnt_snoc (l : List Bool) (b : Bool) : cnt (l ++ [b]) = if b = true then cnt l + 1 else cnt l := by
  cases b <;> simp [cnt]

theorem eBool_b (b : Bool) (f : Bool → Ans) (e : Ans) : eBool (.bool b) f e = f b := rfl

theorem loop34 {n : Int} {ys : List Bool} {o : HObj} (hl : ys.length = 65) : ∀ (j i : Nat), 65 - i = j → i ≤ 65 →
    LoopOK Try.prog fx34 b34 (mkTm (tm34 n (cnt (ys.take i)) i (bools ys))) (mkH [some o]) (.exit 0) (mkTm [(1, .int .i64 n), (5, .int .i64 (.ofNat (cnt ys)))]) (mkH [some o]) := by
  intro j
  induction j with
  | zero =>
    intro i hj hi
    have : i = 65 := by omega
    subst this
    have ht : ys.take 65 = ys := List.take_of_length_le (by omega)
    rw [ht]
    have e : ∀ k : Kont, _ = _ := fun k => (rnd34 n (cnt ys) 65 o (bools ys) k).trans (by
      simp (maxSteps := 4000000) (disch := omega) only [fInt_eq, fNat_eq, fNats_eq, fAVF_eq, fAV_eq, ilt_nat, ieq_nat, ieq_self, Bool.and_self, blt_true, blt_false, ble_true, ble_false, AM.beq_true, AM.beq_false, brec_true, brec_false, boolK_true, boolK_false, natOf_of, Option.map_some, optK_some, eStr_str, eInt_int, nthK_eq, segK_eq, appK_eq, set1K_eq, strs_len, strs_get, ints_len, ints_get, wrap_nat, wrap_add, wrap_sub, Nat.add_eq, Nat.mul_eq, Nat.sub_eq, Nat.mul_one, Nat.zero_add, Nat.add_zero, Nat.sub_zero, Bool.not_true, Bool.not_false, if_pos]
      try exact rfl)
    exact (LoopOK.stop (fun e => by cases e) (CodeOK.of_runH hmix .leaf .nil (N := 1000) e)).less (Sub0.of_list (.cons (by kernel_rfl) (.cons (by kernel_rfl) .nil)))
  | succ j ih =>
    intro i hj hi
    have hi' : i < 65 := by omega
    obtain ⟨b, hx⟩ : ∃ b, ys[i]? = some b := ⟨ys[i]'(by omega), List.getElem?_eq_getElem _⟩
    have hc : cnt (ys.take i) ≤ 65 := Nat.le_trans (cnt_le _) (by rw [List.length_take]; omega)
    have hs : cnt (ys.take (i + 1)) = if b = true then cnt (ys.take i) + 1 else cnt (ys.take i) := by
      rw [List.take_add_one, hx]; exact cnt_snoc _ _
    have ih' := ih (i + 1) (by omega) (by omega)
    cases b with
    | true =>
      have e : ∀ k : Kont, _ = _ := fun k => (rnd34 n (cnt (ys.take i)) i o (bools ys) k).trans (by
        simp (maxSteps := 4000000) (disch := omega) only [fInt_eq, fNat_eq, fNats_eq, fAVF_eq, fAV_eq, ilt_nat, ieq_nat, ieq_self, Bool.and_self, blt_true, blt_false, ble_true, ble_false, AM.beq_true, AM.beq_false, brec_true, brec_false, boolK_true, boolK_false, natOf_of, Option.map_some, optK_some, eStr_str, eInt_int, nthK_eq, segK_eq, appK_eq, set1K_eq, strs_len, strs_get, ints_len, ints_get, wrap_nat, wrap_add, wrap_sub, Nat.add_eq, Nat.mul_eq, Nat.sub_eq, Nat.mul_one, Nat.zero_add, Nat.add_zero, Nat.sub_zero, Bool.not_true, Bool.not_false, if_pos, index66 hi' hx, eBool_b]
        try exact rfl)
      rw [hs, if_pos rfl] at ih'
      exact .next ((CodeOK.of_runH hmix .leaf .nil (N := 1000) e).less (Sub0.of_list (by repeat first | exact .nil | refine .cons (by kernel_rfl) ?_))) ih'
    | false =>
      have e : ∀ k : Kont, _ = _ := fun k => (rnd34 n (cnt (ys.take i)) i o (bools ys) k).trans (by
        simp (maxSteps := 4000000) (disch := omega) only [fInt_eq, fNat_eq, fNats_eq, fAVF_eq, fAV_eq, ilt_nat, ieq_nat, ieq_self, Bool.and_self, blt_true, blt_false, ble_true, ble_false, AM.beq_true, AM.beq_false, brec_true, brec_false, boolK_true, boolK_false, natOf_of, Option.map_some, optK_some, eStr_str, eInt_int, nthK_eq, segK_eq, appK_eq, set1K_eq, strs_len, strs_get, ints_len, ints_get, wrap_nat, wrap_add, wrap_sub, Nat.add_eq, Nat.mul_eq, Nat.sub_eq, Nat.mul_one, Nat.zero_add, Nat.add_zero, Nat.sub_zero, Bool.not_true, Bool.not_false, if_pos, index66 hi' hx, eBool_b]
        try exact rfl)
      rw [hs, if_neg (by decide)] at ih'
      exact .next ((CodeOK.of_runH hmix .leaf .nil (N := 1000) e).less (Sub0.of_list (by repeat first | exact .nil | refine .cons (by kernel_rfl) ?_))) ih'

theorem mostT (n : Int) (c : Nat) (bs : List AV) (k : AV → H → Ans) :
    bodyF Try.prog (execH Try.prog .leaf [⟨34, 0, exSub fx34 (subC [1,1,0,1] c34) (mkTm (tm34 n 0 0 bs)) (mkH [some (.cells bs 65 false)]) .normal (mkTm [(1, .int .i64 n), (5, .int .i64 (.ofNat c))]) (mkH [some (.cells bs 65 false)])⟩] 1000) (Pos.ofNat 34) [] [] [.agg bs, .int .i64 n] (mkH []) k
    = fList bs fun cs => segK 0 cs 65 (fun l => fList l fun l => guardK (fx34 = fx34 ∧ subC [1, 1, 0, 1] c34 = subC [1, 1, 0, 1] c34 ∧ Sub0 (mkTm (tm34 n 0 0 bs)) (mkTm [(0, AV.agg bs), (1, AV.int .i64 n), (2, AV.ptr (.ofNat 0) 0), (4, AV.bool false), (5, AV.int .i64 (Int.ofNat 0)), (8, AV.agg l), (9, AV.int .i64 (Int.ofNat 0))]) ∧ mkH [some (HObj.cells cs 65 false)] = mkH [some (HObj.cells bs 65 false)] ∧ MkNil []) (fInt (Int.ofNat c) fun n_1 => fInt (wrapK .i64 (Int.mul (Int.ofNat 2) n_1)) fun n_2 => fInt n fun n => brec (k (AV.bool false) (mkH [some (HObj.cells bs 65 false)])) (k (AV.bool true) (mkH [some (HObj.cells bs 65 false)])) (ilt n n_2)) (Ans.err 0 0 0)) (Ans.err 34 0 9) := by kernel_rfl

/-- 'most': a majority of the Booleans. -/
theorem most_ok {n : Int} {ys : List Bool} (hl : ys.length = 65) : FunOK Try.prog 34 [.agg (bools ys), .int .i64 n] (mkH []) (.bool (decide (n < 2 * (cnt ys : Int)))) (mkH []) := by
  have hc : cnt ys ≤ 65 := Nat.le_trans (cnt_le _) (by omega)
  have hB : CodeOK Try.prog fx34 (subC [1,1,0,1] c34) (mkTm (tm34 n 0 0 (bools ys))) (mkH [some (.cells (bools ys) 65 false)]) [] .normal (mkTm [(1, .int .i64 n), (5, .int .i64 (.ofNat (cnt ys)))]) (mkH [some (.cells (bools ys) 65 false)]) [] := by
    rw [b34_eq]
    exact .block hmix (loop34 (n := n) hl 65 0 rfl (Nat.zero_le _)).code
  have hseg : ∀ (f : List AV → Ans) (e : Ans), segK 0 (bools ys) 65 f e = f (bools ys) := by
    intro f e
    rw [segK_eq, if_pos (show 0 + 65 ≤ (bools ys).length by rw [bools_len, hl]; exact Nat.le_refl _), List.drop_zero, List.take_of_length_le (by rw [bools_len, hl]; exact Nat.le_refl _)]
  have hm : wrapK .i64 (Int.mul (Int.ofNat 2) (Int.ofNat (cnt ys))) = .ofNat (2 * cnt ys) := wrap_nat (n := 2 * cnt ys) (by omega)
  by_cases h : n < 2 * (cnt ys : Int)
  · have e : ∀ k : AV → H → Ans, _ = _ := fun k => (mostT n (cnt ys) (bools ys) k).trans (by
      simp only [fList_eq, hseg]
      refine (guardK_pos (by repeat' first | trivial | rfl | exact LTm.nil | refine LTm.cons (by kernel_rfl) ?_ | refine Sub0.of_list ?_ | constructor) _ _).trans ?_
      simp only [fInt_eq, hm, ilt_true (show n < Int.ofNat (2 * cnt ys) by show n < ((2 * cnt ys : Nat) : Int); omega), brec_true]
      try exact rfl)
    rw [decide_eq_true h]
    exact (FunOK.of_runH hmix .leaf (HolesOK.one (exSub_ok hB)) (N := 1000) (f := 34) e).bare fun _ => rfl
  · have e : ∀ k : AV → H → Ans, _ = _ := fun k => (mostT n (cnt ys) (bools ys) k).trans (by
      simp only [fList_eq, hseg]
      refine (guardK_pos (by repeat' first | trivial | rfl | exact LTm.nil | refine LTm.cons (by kernel_rfl) ?_ | refine Sub0.of_list ?_ | constructor) _ _).trans ?_
      simp only [fInt_eq, hm, ilt_false (show Int.ofNat (2 * cnt ys) ≤ n by show ((2 * cnt ys : Nat) : Int) ≤ n; omega), brec_false]
      try exact rfl)
    rw [decide_eq_false h]
    exact (FunOK.of_runH hmix .leaf (HolesOK.one (exSub_ok hB)) (N := 1000) (f := 34) e).bare fun _ => rfl

def isB : AV → Bool
  | .bool _ => true
  | _ => false

def unB : AV → Bool
  | .bool b => b
  | _ => false

/-- A majority of a row of Booleans. -/
def mostB (l : List AV) (n : Int) : Bool := decide (n < 2 * (cnt (l.map unB) : Int))

noncomputable def orcMost : Orc := fun args A k _ => match args with
  | [.agg l, .int .i64 n] => boolK (Nat.beq l.length 65) (boolK (l.all isB) (k (.bool (mostB l n)) A) (.err 83 0 0)) (.err 83 1 0)
  | _ => .err 83 2 0

theorem bools_un : ∀ {l : List AV}, l.all isB = true → l = bools (l.map unB)
  | [], _ => rfl
  | v :: l, h => by
    simp only [List.all_cons, Bool.and_eq_true] at h
    obtain ⟨h1, h2⟩ := h
    cases v <;> first | (cases h1; done) | skip
    have := bools_un (l := l) h2
    show _ = AV.bool _ :: bools (l.map unB)
    rw [← this]; rfl

theorem good_most : Good Try.prog 34 orcMost := good_pure fun args A k els h => by
  unfold orcMost at h
  split at h
  · rename_i l n
    rw [boolK_eq] at h
    split at h
    · rename_i h1
      rw [boolK_eq] at h
      split at h
      · rename_i h2
        refine ⟨_, h, ?_⟩
        have hl : (l.map unB).length = 65 := by rw [List.length_map]; exact Nat.eq_of_beq_eq_true h1
        have e := bools_un h2
        have R := most_ok (n := n) hl
        rw [← e] at R
        exact R.every (fun σ => by show [AV.agg (AV.rens σ l), AV.int .i64 n] = _; rw [AV.rens_pf σ l (by rw [e]; exact bools_pf _)]) (fun _ => rfl) A
      · cases h
    · cases h
  · cases h

/-- So many Booleans, from a function. -/
def yl (ys : Nat → Bool) : Nat → Nat → List AV → List AV
  | 0, _, r => r
  | n + 1, k, r => .bool (ys k) :: yl ys n (k + 1) r

def bz (l : List Nat) : AV := .fz (u8s l) l.length

/-- What a proposer is. -/
structure PS where
  set : Int
  me : Nat
  nodes : Nat
  c1 : Int
  c2 : Int
  c3 : Int
  own : List Nat
  retry : Int
  phase : Int
  b1 : Int
  b2 : Int
  s1 : Int
  s2 : Int
  e1 : Int
  e2 : Int
  ys : Nat → Bool
  told : List Nat
  value : List Nat
  ticks : Int
  wait : Int

def propC (s : PS) : List AV := .int .i64 s.set :: .int .i64 (.ofNat s.me) :: .int .i64 (.ofNat s.nodes) :: .int .i64 s.c1 :: .int .i64 s.c2 :: .int .i64 s.c3 :: .fz (u8s s.own) s.own.length :: .int .i64 s.retry :: .int .i64 s.phase :: .int .i64 s.b1 :: .int .i64 s.b2 :: .int .i64 s.s1 :: .int .i64 s.s2 :: .int .i64 s.e1 :: .int .i64 s.e2 :: yl s.ys 65 0 [.fz (u8s s.told) s.told.length, .fz (u8s s.value) s.value.length, .int .i64 s.ticks, .int .i64 s.wait]

def propO (s : PS) : HObj := .cells (propC s) 84 false

noncomputable def c40 : Code := bodyC Try.f40

noncomputable def fx40 : Fx := ⟨none, 40, 74⟩

noncomputable def b40 : Code := subC [1,0,1,1,1] c40

theorem b40_eq : subC [1,0,1] c40 = .block 0 (.loop b40) := by kernel_rfl

noncomputable def tm40 (g : Bool) (n : Nat) (o : AV) : List (Nat × AV) := [(0, .ptr (.ofNat 0) 0), (1, .bool g), (4, o), (5, .int .i64 (.ofNat n))]

/-- 32 zero bytes ahead of a row. -/
def zid (r : List AV) : List AV := List.replicate 32 (.int .u8 (.ofNat 0)) ++ r

theorem rndA (s : PS) (g : Bool) (n : Nat) (k : AExit → List AV → H → Ans) :
    execH Try.prog (mkO [(17, orcClone)]) [] 1000 fx40 b40 (mkTm (tm40 g n .nils)) (mkH [some (propO s)]) [] (pickK [0, 1, 4, 5] [] [4] k)
    = fInt (Int.ofNat n) fun n_1 => fInt (Int.ofNat s.nodes) fun n_2 => brec (k (AExit.exit 0) [AV.nils] (mkH [some (propO s)])) (fInt (Int.ofNat n) fun n_3 => fInt (Int.ofNat s.me) fun n_4 => brec (brec (fInt s.phase fun n_5 => fInt n_5 fun n_6 => fInt (Int.ofNat s.me) fun n_7 => fInt n_7 fun n_8 => fInt (Int.ofNat n) fun n_9 => fInt s.set fun n_10 => fInt n_10 fun n_11 => fInt n_6 fun n_12 => brec (brec (boolK (ieq s.set n_10) (boolK (ieq (Int.ofNat s.me) n_7) (boolK (Nat.beq (List.length (u8s s.value)) (List.length s.value)) (boolK (Nat.blt (List.length s.value) 400000) (fInt (Int.ofNat n) fun n => fInt (wrapK .i64 (Int.add n (Int.ofNat 1))) fun n => fInt n fun n => k AExit.normal [AV.ptr (.ofNat 0) 0, AV.bool g, AV.slice (Pos.ofNat 3) 0 1 1 true, AV.int .i64 n] (mkH [some (propO s), some (HObj.cells (AV.int .i64 (Int.ofNat 13) :: AV.int .i64 n_8 :: AV.int .i64 n_9 :: AV.int .i64 (Int.ofNat 0) :: AV.int .i64 (Int.ofNat 0) :: AV.int .i64 (Int.ofNat 0) :: AV.int .i64 n_11 :: AV.int .i64 (Int.ofNat 0) :: AV.int .i64 (Int.ofNat 0) :: AV.int .i64 (Int.ofNat 0) :: AV.int .i64 (Int.ofNat 0) :: AV.int .i64 (Int.ofNat 0) :: AV.bool false :: zid [AV.fz (u8s s.value) (List.length s.value), AV.nils, AV.nils]) 48 false), some (HObj.cells (AV.int .i64 (Int.ofNat 13) :: AV.int .i64 n_8 :: AV.int .i64 n_9 :: AV.int .i64 (Int.ofNat 0) :: AV.int .i64 (Int.ofNat 0) :: AV.int .i64 (Int.ofNat 0) :: AV.int .i64 n_11 :: AV.int .i64 (Int.ofNat 0) :: AV.int .i64 (Int.ofNat 0) :: AV.int .i64 (Int.ofNat 0) :: AV.int .i64 (Int.ofNat 0) :: AV.int .i64 (Int.ofNat 0) :: AV.bool false :: zid [AV.fz (u8s s.value) (List.length s.value), AV.nils, AV.nils]) 48 false), some (HObj.cells (AV.int .i64 (Int.ofNat 13) :: AV.int .i64 n_8 :: AV.int .i64 n_9 :: AV.int .i64 (Int.ofNat 0) :: AV.int .i64 (Int.ofNat 0) :: AV.int .i64 (Int.ofNat 0) :: AV.int .i64 n_11 :: AV.int .i64 (Int.ofNat 0) :: AV.int .i64 (Int.ofNat 0) :: AV.int .i64 (Int.ofNat 0) :: AV.int .i64 (Int.ofNat 0) :: AV.int .i64 (Int.ofNat 0) :: AV.bool false :: zid [AV.fz (u8s s.value) (List.length s.value), AV.nils, AV.nils]) 48 false)])) (Ans.err 82 0 0)) (Ans.err 82 1 0)) (Ans.err 40 16 3000)) (Ans.err 40 16 3000)) (boolK (ieq s.set n_10) (boolK (ieq (Int.ofNat s.me) n_7) (boolK (boolK (ieq s.b1 s.b1) (boolK (ieq s.b2 s.b2) true false) false) (boolK (Nat.beq (List.length (u8s s.value)) (List.length s.value)) (boolK (Nat.blt (List.length s.value) 400000) (fInt (Int.ofNat n) fun n => fInt (wrapK .i64 (Int.add n (Int.ofNat 1))) fun n => fInt n fun n => k AExit.normal [AV.ptr (.ofNat 0) 0, AV.bool g, AV.slice (Pos.ofNat 3) 0 1 1 true, AV.int .i64 n] (mkH [some (propO s), some (HObj.cells (AV.int .i64 (Int.ofNat 11) :: AV.int .i64 n_8 :: AV.int .i64 n_9 :: AV.int .i64 s.c1 :: AV.int .i64 s.c2 :: AV.int .i64 s.c3 :: AV.int .i64 n_11 :: AV.int .i64 (Int.ofNat 0) :: AV.int .i64 s.b1 :: AV.int .i64 s.b2 :: AV.int .i64 (Int.ofNat 0) :: AV.int .i64 (Int.ofNat 0) :: AV.bool false :: zid [AV.fz (u8s s.value) (List.length s.value), AV.nils, AV.nils]) 48 false), some (HObj.cells (AV.int .i64 (Int.ofNat 11) :: AV.int .i64 n_8 :: AV.int .i64 n_9 :: AV.int .i64 s.c1 :: AV.int .i64 s.c2 :: AV.int .i64 s.c3 :: AV.int .i64 n_11 :: AV.int .i64 (Int.ofNat 0) :: AV.int .i64 s.b1 :: AV.int .i64 s.b2 :: AV.int .i64 (Int.ofNat 0) :: AV.int .i64 (Int.ofNat 0) :: AV.bool false :: zid [AV.fz (u8s s.value) (List.length s.value), AV.nils, AV.nils]) 48 false), some (HObj.cells (AV.int .i64 (Int.ofNat 11) :: AV.int .i64 n_8 :: AV.int .i64 n_9 :: AV.int .i64 s.c1 :: AV.int .i64 s.c2 :: AV.int .i64 s.c3 :: AV.int .i64 n_11 :: AV.int .i64 (Int.ofNat 0) :: AV.int .i64 s.b1 :: AV.int .i64 s.b2 :: AV.int .i64 (Int.ofNat 0) :: AV.int .i64 (Int.ofNat 0) :: AV.bool false :: zid [AV.fz (u8s s.value) (List.length s.value), AV.nils, AV.nils]) 48 false)])) (Ans.err 82 0 0)) (Ans.err 82 1 0)) (Ans.err 40 11 3000)) (Ans.err 40 16 3000)) (Ans.err 40 16 3000)) (ieq n_12 (Int.ofNat 2))) (boolK (ieq s.set n_10) (boolK (ieq (Int.ofNat s.me) n_7) (boolK (boolK (ieq s.b1 s.b1) (boolK (ieq s.b2 s.b2) true false) false) (fInt (Int.ofNat n) fun n => fInt (wrapK .i64 (Int.add n (Int.ofNat 1))) fun n => fInt n fun n => k AExit.normal [AV.ptr (.ofNat 0) 0, AV.bool g, AV.slice (Pos.ofNat 3) 0 1 1 true, AV.int .i64 n] (mkH [some (propO s), some (HObj.cells (AV.int .i64 (Int.ofNat 9) :: AV.int .i64 n_8 :: AV.int .i64 n_9 :: AV.int .i64 s.c1 :: AV.int .i64 s.c2 :: AV.int .i64 s.c3 :: AV.int .i64 n_11 :: AV.int .i64 (Int.ofNat 0) :: AV.int .i64 s.b1 :: AV.int .i64 s.b2 :: AV.int .i64 (Int.ofNat 0) :: AV.int .i64 (Int.ofNat 0) :: AV.bool false :: zid [AV.nils, AV.nils, AV.nils]) 48 false), some (HObj.cells (AV.int .i64 (Int.ofNat 9) :: AV.int .i64 n_8 :: AV.int .i64 n_9 :: AV.int .i64 s.c1 :: AV.int .i64 s.c2 :: AV.int .i64 s.c3 :: AV.int .i64 n_11 :: AV.int .i64 (Int.ofNat 0) :: AV.int .i64 s.b1 :: AV.int .i64 s.b2 :: AV.int .i64 (Int.ofNat 0) :: AV.int .i64 (Int.ofNat 0) :: AV.bool false :: zid [AV.nils, AV.nils, AV.nils]) 48 false), some (HObj.cells (AV.int .i64 (Int.ofNat 9) :: AV.int .i64 n_8 :: AV.int .i64 n_9 :: AV.int .i64 s.c1 :: AV.int .i64 s.c2 :: AV.int .i64 s.c3 :: AV.int .i64 n_11 :: AV.int .i64 (Int.ofNat 0) :: AV.int .i64 s.b1 :: AV.int .i64 s.b2 :: AV.int .i64 (Int.ofNat 0) :: AV.int .i64 (Int.ofNat 0) :: AV.bool false :: zid [AV.nils, AV.nils, AV.nils]) 48 false)])) (Ans.err 40 11 3000)) (Ans.err 40 16 3000)) (Ans.err 40 16 3000)) (ieq n_12 (Int.ofNat 1))) (fInt (Int.ofNat n) fun n_5 => natOf n_5 (fun m => boolK (Nat.blt m 65) (fNat (Nat.add 15 (Nat.mul m 1)) fun off => nthK (propC s) off (fun v => eBool v (fun b => brec (fInt s.phase fun n_6 => fInt n_6 fun n_7 => fInt (Int.ofNat s.me) fun n_8 => fInt n_8 fun n_9 => fInt (Int.ofNat n) fun n_10 => fInt s.set fun n_11 => fInt n_11 fun n_12 => fInt n_7 fun n_13 => brec (brec (boolK (ieq s.set n_11) (boolK (ieq (Int.ofNat s.me) n_8) (boolK (Nat.beq (List.length (u8s s.value)) (List.length s.value)) (boolK (Nat.blt (List.length s.value) 400000) (fInt (Int.ofNat n) fun n => fInt (wrapK .i64 (Int.add n (Int.ofNat 1))) fun n => fInt n fun n => k AExit.normal [AV.ptr (.ofNat 0) 0, AV.bool g, AV.slice (Pos.ofNat 3) 0 1 1 true, AV.int .i64 n] (mkH [some (propO s), some (HObj.cells (AV.int .i64 (Int.ofNat 13) :: AV.int .i64 n_9 :: AV.int .i64 n_10 :: AV.int .i64 (Int.ofNat 0) :: AV.int .i64 (Int.ofNat 0) :: AV.int .i64 (Int.ofNat 0) :: AV.int .i64 n_12 :: AV.int .i64 (Int.ofNat 0) :: AV.int .i64 (Int.ofNat 0) :: AV.int .i64 (Int.ofNat 0) :: AV.int .i64 (Int.ofNat 0) :: AV.int .i64 (Int.ofNat 0) :: AV.bool false :: zid [AV.fz (u8s s.value) (List.length s.value), AV.nils, AV.nils]) 48 false), some (HObj.cells (AV.int .i64 (Int.ofNat 13) :: AV.int .i64 n_9 :: AV.int .i64 n_10 :: AV.int .i64 (Int.ofNat 0) :: AV.int .i64 (Int.ofNat 0) :: AV.int .i64 (Int.ofNat 0) :: AV.int .i64 n_12 :: AV.int .i64 (Int.ofNat 0) :: AV.int .i64 (Int.ofNat 0) :: AV.int .i64 (Int.ofNat 0) :: AV.int .i64 (Int.ofNat 0) :: AV.int .i64 (Int.ofNat 0) :: AV.bool false :: zid [AV.fz (u8s s.value) (List.length s.value), AV.nils, AV.nils]) 48 false), some (HObj.cells (AV.int .i64 (Int.ofNat 13) :: AV.int .i64 n_9 :: AV.int .i64 n_10 :: AV.int .i64 (Int.ofNat 0) :: AV.int .i64 (Int.ofNat 0) :: AV.int .i64 (Int.ofNat 0) :: AV.int .i64 n_12 :: AV.int .i64 (Int.ofNat 0) :: AV.int .i64 (Int.ofNat 0) :: AV.int .i64 (Int.ofNat 0) :: AV.int .i64 (Int.ofNat 0) :: AV.int .i64 (Int.ofNat 0) :: AV.bool false :: zid [AV.fz (u8s s.value) (List.length s.value), AV.nils, AV.nils]) 48 false)])) (Ans.err 82 0 0)) (Ans.err 82 1 0)) (Ans.err 40 16 3000)) (Ans.err 40 16 3000)) (boolK (ieq s.set n_11) (boolK (ieq (Int.ofNat s.me) n_8) (boolK (boolK (ieq s.b1 s.b1) (boolK (ieq s.b2 s.b2) true false) false) (boolK (Nat.beq (List.length (u8s s.value)) (List.length s.value)) (boolK (Nat.blt (List.length s.value) 400000) (fInt (Int.ofNat n) fun n => fInt (wrapK .i64 (Int.add n (Int.ofNat 1))) fun n => fInt n fun n => k AExit.normal [AV.ptr (.ofNat 0) 0, AV.bool g, AV.slice (Pos.ofNat 3) 0 1 1 true, AV.int .i64 n] (mkH [some (propO s), some (HObj.cells (AV.int .i64 (Int.ofNat 11) :: AV.int .i64 n_9 :: AV.int .i64 n_10 :: AV.int .i64 s.c1 :: AV.int .i64 s.c2 :: AV.int .i64 s.c3 :: AV.int .i64 n_12 :: AV.int .i64 (Int.ofNat 0) :: AV.int .i64 s.b1 :: AV.int .i64 s.b2 :: AV.int .i64 (Int.ofNat 0) :: AV.int .i64 (Int.ofNat 0) :: AV.bool false :: zid [AV.fz (u8s s.value) (List.length s.value), AV.nils, AV.nils]) 48 false), some (HObj.cells (AV.int .i64 (Int.ofNat 11) :: AV.int .i64 n_9 :: AV.int .i64 n_10 :: AV.int .i64 s.c1 :: AV.int .i64 s.c2 :: AV.int .i64 s.c3 :: AV.int .i64 n_12 :: AV.int .i64 (Int.ofNat 0) :: AV.int .i64 s.b1 :: AV.int .i64 s.b2 :: AV.int .i64 (Int.ofNat 0) :: AV.int .i64 (Int.ofNat 0) :: AV.bool false :: zid [AV.fz (u8s s.value) (List.length s.value), AV.nils, AV.nils]) 48 false), some (HObj.cells (AV.int .i64 (Int.ofNat 11) :: AV.int .i64 n_9 :: AV.int .i64 n_10 :: AV.int .i64 s.c1 :: AV.int .i64 s.c2 :: AV.int .i64 s.c3 :: AV.int .i64 n_12 :: AV.int .i64 (Int.ofNat 0) :: AV.int .i64 s.b1 :: AV.int .i64 s.b2 :: AV.int .i64 (Int.ofNat 0) :: AV.int .i64 (Int.ofNat 0) :: AV.bool false :: zid [AV.fz (u8s s.value) (List.length s.value), AV.nils, AV.nils]) 48 false)])) (Ans.err 82 0 0)) (Ans.err 82 1 0)) (Ans.err 40 11 3000)) (Ans.err 40 16 3000)) (Ans.err 40 16 3000)) (ieq n_13 (Int.ofNat 2))) (boolK (ieq s.set n_11) (boolK (ieq (Int.ofNat s.me) n_8) (boolK (boolK (ieq s.b1 s.b1) (boolK (ieq s.b2 s.b2) true false) false) (fInt (Int.ofNat n) fun n => fInt (wrapK .i64 (Int.add n (Int.ofNat 1))) fun n => fInt n fun n => k AExit.normal [AV.ptr (.ofNat 0) 0, AV.bool g, AV.slice (Pos.ofNat 3) 0 1 1 true, AV.int .i64 n] (mkH [some (propO s), some (HObj.cells (AV.int .i64 (Int.ofNat 9) :: AV.int .i64 n_9 :: AV.int .i64 n_10 :: AV.int .i64 s.c1 :: AV.int .i64 s.c2 :: AV.int .i64 s.c3 :: AV.int .i64 n_12 :: AV.int .i64 (Int.ofNat 0) :: AV.int .i64 s.b1 :: AV.int .i64 s.b2 :: AV.int .i64 (Int.ofNat 0) :: AV.int .i64 (Int.ofNat 0) :: AV.bool false :: zid [AV.nils, AV.nils, AV.nils]) 48 false), some (HObj.cells (AV.int .i64 (Int.ofNat 9) :: AV.int .i64 n_9 :: AV.int .i64 n_10 :: AV.int .i64 s.c1 :: AV.int .i64 s.c2 :: AV.int .i64 s.c3 :: AV.int .i64 n_12 :: AV.int .i64 (Int.ofNat 0) :: AV.int .i64 s.b1 :: AV.int .i64 s.b2 :: AV.int .i64 (Int.ofNat 0) :: AV.int .i64 (Int.ofNat 0) :: AV.bool false :: zid [AV.nils, AV.nils, AV.nils]) 48 false), some (HObj.cells (AV.int .i64 (Int.ofNat 9) :: AV.int .i64 n_9 :: AV.int .i64 n_10 :: AV.int .i64 s.c1 :: AV.int .i64 s.c2 :: AV.int .i64 s.c3 :: AV.int .i64 n_12 :: AV.int .i64 (Int.ofNat 0) :: AV.int .i64 s.b1 :: AV.int .i64 s.b2 :: AV.int .i64 (Int.ofNat 0) :: AV.int .i64 (Int.ofNat 0) :: AV.bool false :: zid [AV.nils, AV.nils, AV.nils]) 48 false)])) (Ans.err 40 11 3000)) (Ans.err 40 16 3000)) (Ans.err 40 16 3000)) (ieq n_13 (Int.ofNat 1))) (fInt (Int.ofNat n) fun n => fInt (wrapK .i64 (Int.add n (Int.ofNat 1))) fun n => fInt n fun n => k AExit.normal [AV.ptr (.ofNat 0) 0, AV.bool g, AV.nils, AV.int .i64 n] (mkH [some (propO s)])) b) (Ans.err 40 14 9)) (Ans.err 40 14 9)) (Ans.err 40 13 26)) (Ans.err 40 13 26)) g) (fInt (Int.ofNat n) fun n => fInt (wrapK .i64 (Int.add n (Int.ofNat 1))) fun n => fInt n fun n => k AExit.normal [AV.ptr (.ofNat 0) 0, AV.bool g, AV.nils, AV.int .i64 n] (mkH [some (propO s)])) (ieq n_3 n_4)) !ilt n_2 n_1 := by kernel_rfl

theorem rndB (s : PS) (g : Bool) (n : Nat) (m : Nat) (row : List AV) (k : AExit → List AV → H → Ans) :
    execH Try.prog (mkO [(17, orcClone)]) [] 1000 fx40 b40 (mkTm (tm40 g n (.slice (.ofNat 1) 0 m m true))) (mkH [some (propO s), some (.cells row 48 false)]) [] (pickK [0, 1, 4, 5] [] [4] k)
    = fInt (Int.ofNat n) fun n_1 => fInt (Int.ofNat s.nodes) fun n_2 => brec (k (AExit.exit 0) [AV.slice (Pos.ofNat 1) 0 m m true] (mkH [some (propO s), some (HObj.cells row 48 false)])) (fInt (Int.ofNat n) fun n_3 => fInt (Int.ofNat s.me) fun n_4 => brec (brec (fInt s.phase fun n_5 => fInt n_5 fun n_6 => fInt (Int.ofNat s.me) fun n_7 => fInt n_7 fun n_8 => fInt (Int.ofNat n) fun n_9 => fInt s.set fun n_10 => fInt n_10 fun n_11 => fInt n_6 fun n_12 => brec (brec (boolK (ieq s.set n_10) (boolK (ieq (Int.ofNat s.me) n_7) (boolK (Nat.beq (List.length (u8s s.value)) (List.length s.value)) (boolK (Nat.blt (List.length s.value) 400000) (fNat m fun len => fNat m fun cap => boolK (Nat.ble (Nat.add len 1) cap) (setsB (Nat.add 0 (Nat.mul len 48)) (AV.int .i64 (Int.ofNat 13) :: AV.int .i64 n_8 :: AV.int .i64 n_9 :: AV.int .i64 (Int.ofNat 0) :: AV.int .i64 (Int.ofNat 0) :: AV.int .i64 (Int.ofNat 0) :: AV.int .i64 n_11 :: AV.int .i64 (Int.ofNat 0) :: AV.int .i64 (Int.ofNat 0) :: AV.int .i64 (Int.ofNat 0) :: AV.int .i64 (Int.ofNat 0) :: AV.int .i64 (Int.ofNat 0) :: AV.bool false :: zid [AV.fz (u8s s.value) (List.length s.value), AV.nils, AV.nils]) row (fun cs => fNat (Nat.add len 1) fun len => fNat cap fun cap => fNat len fun len => fNat cap fun cap => fInt (Int.ofNat n) fun n => fInt (wrapK .i64 (Int.add n (Int.ofNat 1))) fun n => fInt n fun n => k AExit.normal [AV.ptr (.ofNat 0) 0, AV.bool g, AV.slice (Pos.ofNat 1) 0 len cap true, AV.int .i64 n] (mkH [some (propO s), some (HObj.cells cs 48 false), some (HObj.cells (AV.int .i64 (Int.ofNat 13) :: AV.int .i64 n_8 :: AV.int .i64 n_9 :: AV.int .i64 (Int.ofNat 0) :: AV.int .i64 (Int.ofNat 0) :: AV.int .i64 (Int.ofNat 0) :: AV.int .i64 n_11 :: AV.int .i64 (Int.ofNat 0) :: AV.int .i64 (Int.ofNat 0) :: AV.int .i64 (Int.ofNat 0) :: AV.int .i64 (Int.ofNat 0) :: AV.int .i64 (Int.ofNat 0) :: AV.bool false :: zid [AV.fz (u8s s.value) (List.length s.value), AV.nils, AV.nils]) 48 false), some (HObj.cells (AV.int .i64 (Int.ofNat 13) :: AV.int .i64 n_8 :: AV.int .i64 n_9 :: AV.int .i64 (Int.ofNat 0) :: AV.int .i64 (Int.ofNat 0) :: AV.int .i64 (Int.ofNat 0) :: AV.int .i64 n_11 :: AV.int .i64 (Int.ofNat 0) :: AV.int .i64 (Int.ofNat 0) :: AV.int .i64 (Int.ofNat 0) :: AV.int .i64 (Int.ofNat 0) :: AV.int .i64 (Int.ofNat 0) :: AV.bool false :: zid [AV.fz (u8s s.value) (List.length s.value), AV.nils, AV.nils]) 48 false)])) (Ans.err 1 1 0)) (boolK (roomy (Nat.add len 1) 208) (segK 0 row (Nat.mul len 48) (fun old => appK old (AV.int .i64 (Int.ofNat 13) :: AV.int .i64 n_8 :: AV.int .i64 n_9 :: AV.int .i64 (Int.ofNat 0) :: AV.int .i64 (Int.ofNat 0) :: AV.int .i64 (Int.ofNat 0) :: AV.int .i64 n_11 :: AV.int .i64 (Int.ofNat 0) :: AV.int .i64 (Int.ofNat 0) :: AV.int .i64 (Int.ofNat 0) :: AV.int .i64 (Int.ofNat 0) :: AV.int .i64 (Int.ofNat 0) :: AV.bool false :: zid [AV.fz (u8s s.value) (List.length s.value), AV.nils, AV.nils]) fun both => boolK (true && (Nat.beq (Nat.add 0 (Nat.mul cap 48)) (List.length row) && true)) (fNat (Nat.add len 1) fun len_1 => fNat (Nat.add len 1) fun cap => fNat len_1 fun len => fNat cap fun cap => fInt (Int.ofNat n) fun n => fInt (wrapK .i64 (Int.add n (Int.ofNat 1))) fun n => fInt n fun n => k AExit.normal [AV.ptr (.ofNat 0) 0, AV.bool g, AV.slice (Pos.ofNat 4) 0 len cap true, AV.int .i64 n] (mkH [some (propO s), none, some (HObj.cells (AV.int .i64 (Int.ofNat 13) :: AV.int .i64 n_8 :: AV.int .i64 n_9 :: AV.int .i64 (Int.ofNat 0) :: AV.int .i64 (Int.ofNat 0) :: AV.int .i64 (Int.ofNat 0) :: AV.int .i64 n_11 :: AV.int .i64 (Int.ofNat 0) :: AV.int .i64 (Int.ofNat 0) :: AV.int .i64 (Int.ofNat 0) :: AV.int .i64 (Int.ofNat 0) :: AV.int .i64 (Int.ofNat 0) :: AV.bool false :: zid [AV.fz (u8s s.value) (List.length s.value), AV.nils, AV.nils]) 48 false), some (HObj.cells (AV.int .i64 (Int.ofNat 13) :: AV.int .i64 n_8 :: AV.int .i64 n_9 :: AV.int .i64 (Int.ofNat 0) :: AV.int .i64 (Int.ofNat 0) :: AV.int .i64 (Int.ofNat 0) :: AV.int .i64 n_11 :: AV.int .i64 (Int.ofNat 0) :: AV.int .i64 (Int.ofNat 0) :: AV.int .i64 (Int.ofNat 0) :: AV.int .i64 (Int.ofNat 0) :: AV.int .i64 (Int.ofNat 0) :: AV.bool false :: zid [AV.fz (u8s s.value) (List.length s.value), AV.nils, AV.nils]) 48 false), some (HObj.cells both 48 false)])) (Ans.err 1 4 0)) (Ans.err 1 3 0)) (Ans.err 1 6 0))) (Ans.err 82 0 0)) (Ans.err 82 1 0)) (Ans.err 40 16 3000)) (Ans.err 40 16 3000)) (boolK (ieq s.set n_10) (boolK (ieq (Int.ofNat s.me) n_7) (boolK (boolK (ieq s.b1 s.b1) (boolK (ieq s.b2 s.b2) true false) false) (boolK (Nat.beq (List.length (u8s s.value)) (List.length s.value)) (boolK (Nat.blt (List.length s.value) 400000) (fNat m fun len => fNat m fun cap => boolK (Nat.ble (Nat.add len 1) cap) (setsB (Nat.add 0 (Nat.mul len 48)) (AV.int .i64 (Int.ofNat 11) :: AV.int .i64 n_8 :: AV.int .i64 n_9 :: AV.int .i64 s.c1 :: AV.int .i64 s.c2 :: AV.int .i64 s.c3 :: AV.int .i64 n_11 :: AV.int .i64 (Int.ofNat 0) :: AV.int .i64 s.b1 :: AV.int .i64 s.b2 :: AV.int .i64 (Int.ofNat 0) :: AV.int .i64 (Int.ofNat 0) :: AV.bool false :: zid [AV.fz (u8s s.value) (List.length s.value), AV.nils, AV.nils]) row (fun cs => fNat (Nat.add len 1) fun len => fNat cap fun cap => fNat len fun len => fNat cap fun cap => fInt (Int.ofNat n) fun n => fInt (wrapK .i64 (Int.add n (Int.ofNat 1))) fun n => fInt n fun n => k AExit.normal [AV.ptr (.ofNat 0) 0, AV.bool g, AV.slice (Pos.ofNat 1) 0 len cap true, AV.int .i64 n] (mkH [some (propO s), some (HObj.cells cs 48 false), some (HObj.cells (AV.int .i64 (Int.ofNat 11) :: AV.int .i64 n_8 :: AV.int .i64 n_9 :: AV.int .i64 s.c1 :: AV.int .i64 s.c2 :: AV.int .i64 s.c3 :: AV.int .i64 n_11 :: AV.int .i64 (Int.ofNat 0) :: AV.int .i64 s.b1 :: AV.int .i64 s.b2 :: AV.int .i64 (Int.ofNat 0) :: AV.int .i64 (Int.ofNat 0) :: AV.bool false :: zid [AV.fz (u8s s.value) (List.length s.value), AV.nils, AV.nils]) 48 false), some (HObj.cells (AV.int .i64 (Int.ofNat 11) :: AV.int .i64 n_8 :: AV.int .i64 n_9 :: AV.int .i64 s.c1 :: AV.int .i64 s.c2 :: AV.int .i64 s.c3 :: AV.int .i64 n_11 :: AV.int .i64 (Int.ofNat 0) :: AV.int .i64 s.b1 :: AV.int .i64 s.b2 :: AV.int .i64 (Int.ofNat 0) :: AV.int .i64 (Int.ofNat 0) :: AV.bool false :: zid [AV.fz (u8s s.value) (List.length s.value), AV.nils, AV.nils]) 48 false)])) (Ans.err 1 1 0)) (boolK (roomy (Nat.add len 1) 208) (segK 0 row (Nat.mul len 48) (fun old => appK old (AV.int .i64 (Int.ofNat 11) :: AV.int .i64 n_8 :: AV.int .i64 n_9 :: AV.int .i64 s.c1 :: AV.int .i64 s.c2 :: AV.int .i64 s.c3 :: AV.int .i64 n_11 :: AV.int .i64 (Int.ofNat 0) :: AV.int .i64 s.b1 :: AV.int .i64 s.b2 :: AV.int .i64 (Int.ofNat 0) :: AV.int .i64 (Int.ofNat 0) :: AV.bool false :: zid [AV.fz (u8s s.value) (List.length s.value), AV.nils, AV.nils]) fun both => boolK (true && (Nat.beq (Nat.add 0 (Nat.mul cap 48)) (List.length row) && true)) (fNat (Nat.add len 1) fun len_1 => fNat (Nat.add len 1) fun cap => fNat len_1 fun len => fNat cap fun cap => fInt (Int.ofNat n) fun n => fInt (wrapK .i64 (Int.add n (Int.ofNat 1))) fun n => fInt n fun n => k AExit.normal [AV.ptr (.ofNat 0) 0, AV.bool g, AV.slice (Pos.ofNat 4) 0 len cap true, AV.int .i64 n] (mkH [some (propO s), none, some (HObj.cells (AV.int .i64 (Int.ofNat 11) :: AV.int .i64 n_8 :: AV.int .i64 n_9 :: AV.int .i64 s.c1 :: AV.int .i64 s.c2 :: AV.int .i64 s.c3 :: AV.int .i64 n_11 :: AV.int .i64 (Int.ofNat 0) :: AV.int .i64 s.b1 :: AV.int .i64 s.b2 :: AV.int .i64 (Int.ofNat 0) :: AV.int .i64 (Int.ofNat 0) :: AV.bool false :: zid [AV.fz (u8s s.value) (List.length s.value), AV.nils, AV.nils]) 48 false), some (HObj.cells (AV.int .i64 (Int.ofNat 11) :: AV.int .i64 n_8 :: AV.int .i64 n_9 :: AV.int .i64 s.c1 :: AV.int .i64 s.c2 :: AV.int .i64 s.c3 :: AV.int .i64 n_11 :: AV.int .i64 (Int.ofNat 0) :: AV.int .i64 s.b1 :: AV.int .i64 s.b2 :: AV.int .i64 (Int.ofNat 0) :: AV.int .i64 (Int.ofNat 0) :: AV.bool false :: zid [AV.fz (u8s s.value) (List.length s.value), AV.nils, AV.nils]) 48 false), some (HObj.cells both 48 false)])) (Ans.err 1 4 0)) (Ans.err 1 3 0)) (Ans.err 1 6 0))) (Ans.err 82 0 0)) (Ans.err 82 1 0)) (Ans.err 40 11 3000)) (Ans.err 40 16 3000)) (Ans.err 40 16 3000)) (ieq n_12 (Int.ofNat 2))) (boolK (ieq s.set n_10) (boolK (ieq (Int.ofNat s.me) n_7) (boolK (boolK (ieq s.b1 s.b1) (boolK (ieq s.b2 s.b2) true false) false) (fNat m fun len => fNat m fun cap => boolK (Nat.ble (Nat.add len 1) cap) (setsB (Nat.add 0 (Nat.mul len 48)) (AV.int .i64 (Int.ofNat 9) :: AV.int .i64 n_8 :: AV.int .i64 n_9 :: AV.int .i64 s.c1 :: AV.int .i64 s.c2 :: AV.int .i64 s.c3 :: AV.int .i64 n_11 :: AV.int .i64 (Int.ofNat 0) :: AV.int .i64 s.b1 :: AV.int .i64 s.b2 :: AV.int .i64 (Int.ofNat 0) :: AV.int .i64 (Int.ofNat 0) :: AV.bool false :: zid [AV.nils, AV.nils, AV.nils]) row (fun cs => fNat (Nat.add len 1) fun len => fNat cap fun cap => fNat len fun len => fNat cap fun cap => fInt (Int.ofNat n) fun n => fInt (wrapK .i64 (Int.add n (Int.ofNat 1))) fun n => fInt n fun n => k AExit.normal [AV.ptr (.ofNat 0) 0, AV.bool g, AV.slice (Pos.ofNat 1) 0 len cap true, AV.int .i64 n] (mkH [some (propO s), some (HObj.cells cs 48 false), some (HObj.cells (AV.int .i64 (Int.ofNat 9) :: AV.int .i64 n_8 :: AV.int .i64 n_9 :: AV.int .i64 s.c1 :: AV.int .i64 s.c2 :: AV.int .i64 s.c3 :: AV.int .i64 n_11 :: AV.int .i64 (Int.ofNat 0) :: AV.int .i64 s.b1 :: AV.int .i64 s.b2 :: AV.int .i64 (Int.ofNat 0) :: AV.int .i64 (Int.ofNat 0) :: AV.bool false :: zid [AV.nils, AV.nils, AV.nils]) 48 false), some (HObj.cells (AV.int .i64 (Int.ofNat 9) :: AV.int .i64 n_8 :: AV.int .i64 n_9 :: AV.int .i64 s.c1 :: AV.int .i64 s.c2 :: AV.int .i64 s.c3 :: AV.int .i64 n_11 :: AV.int .i64 (Int.ofNat 0) :: AV.int .i64 s.b1 :: AV.int .i64 s.b2 :: AV.int .i64 (Int.ofNat 0) :: AV.int .i64 (Int.ofNat 0) :: AV.bool false :: zid [AV.nils, AV.nils, AV.nils]) 48 false)])) (Ans.err 1 1 0)) (boolK (roomy (Nat.add len 1) 208) (segK 0 row (Nat.mul len 48) (fun old => appK old (AV.int .i64 (Int.ofNat 9) :: AV.int .i64 n_8 :: AV.int .i64 n_9 :: AV.int .i64 s.c1 :: AV.int .i64 s.c2 :: AV.int .i64 s.c3 :: AV.int .i64 n_11 :: AV.int .i64 (Int.ofNat 0) :: AV.int .i64 s.b1 :: AV.int .i64 s.b2 :: AV.int .i64 (Int.ofNat 0) :: AV.int .i64 (Int.ofNat 0) :: AV.bool false :: zid [AV.nils, AV.nils, AV.nils]) fun both => boolK (true && (Nat.beq (Nat.add 0 (Nat.mul cap 48)) (List.length row) && true)) (fNat (Nat.add len 1) fun len_1 => fNat (Nat.add len 1) fun cap => fNat len_1 fun len => fNat cap fun cap => fInt (Int.ofNat n) fun n => fInt (wrapK .i64 (Int.add n (Int.ofNat 1))) fun n => fInt n fun n => k AExit.normal [AV.ptr (.ofNat 0) 0, AV.bool g, AV.slice (Pos.ofNat 4) 0 len cap true, AV.int .i64 n] (mkH [some (propO s), none, some (HObj.cells (AV.int .i64 (Int.ofNat 9) :: AV.int .i64 n_8 :: AV.int .i64 n_9 :: AV.int .i64 s.c1 :: AV.int .i64 s.c2 :: AV.int .i64 s.c3 :: AV.int .i64 n_11 :: AV.int .i64 (Int.ofNat 0) :: AV.int .i64 s.b1 :: AV.int .i64 s.b2 :: AV.int .i64 (Int.ofNat 0) :: AV.int .i64 (Int.ofNat 0) :: AV.bool false :: zid [AV.nils, AV.nils, AV.nils]) 48 false), some (HObj.cells (AV.int .i64 (Int.ofNat 9) :: AV.int .i64 n_8 :: AV.int .i64 n_9 :: AV.int .i64 s.c1 :: AV.int .i64 s.c2 :: AV.int .i64 s.c3 :: AV.int .i64 n_11 :: AV.int .i64 (Int.ofNat 0) :: AV.int .i64 s.b1 :: AV.int .i64 s.b2 :: AV.int .i64 (Int.ofNat 0) :: AV.int .i64 (Int.ofNat 0) :: AV.bool false :: zid [AV.nils, AV.nils, AV.nils]) 48 false), some (HObj.cells both 48 false)])) (Ans.err 1 4 0)) (Ans.err 1 3 0)) (Ans.err 1 6 0))) (Ans.err 40 11 3000)) (Ans.err 40 16 3000)) (Ans.err 40 16 3000)) (ieq n_12 (Int.ofNat 1))) (fInt (Int.ofNat n) fun n_5 => natOf n_5 (fun m_1 => boolK (Nat.blt m_1 65) (fNat (Nat.add 15 (Nat.mul m_1 1)) fun off => nthK (propC s) off (fun v => eBool v (fun b => brec (fInt s.phase fun n_6 => fInt n_6 fun n_7 => fInt (Int.ofNat s.me) fun n_8 => fInt n_8 fun n_9 => fInt (Int.ofNat n) fun n_10 => fInt s.set fun n_11 => fInt n_11 fun n_12 => fInt n_7 fun n_13 => brec (brec (boolK (ieq s.set n_11) (boolK (ieq (Int.ofNat s.me) n_8) (boolK (Nat.beq (List.length (u8s s.value)) (List.length s.value)) (boolK (Nat.blt (List.length s.value) 400000) (fNat m fun len => fNat m fun cap => boolK (Nat.ble (Nat.add len 1) cap) (setsB (Nat.add 0 (Nat.mul len 48)) (AV.int .i64 (Int.ofNat 13) :: AV.int .i64 n_9 :: AV.int .i64 n_10 :: AV.int .i64 (Int.ofNat 0) :: AV.int .i64 (Int.ofNat 0) :: AV.int .i64 (Int.ofNat 0) :: AV.int .i64 n_12 :: AV.int .i64 (Int.ofNat 0) :: AV.int .i64 (Int.ofNat 0) :: AV.int .i64 (Int.ofNat 0) :: AV.int .i64 (Int.ofNat 0) :: AV.int .i64 (Int.ofNat 0) :: AV.bool false :: zid [AV.fz (u8s s.value) (List.length s.value), AV.nils, AV.nils]) row (fun cs => fNat (Nat.add len 1) fun len => fNat cap fun cap => fNat len fun len => fNat cap fun cap => fInt (Int.ofNat n) fun n => fInt (wrapK .i64 (Int.add n (Int.ofNat 1))) fun n => fInt n fun n => k AExit.normal [AV.ptr (.ofNat 0) 0, AV.bool g, AV.slice (Pos.ofNat 1) 0 len cap true, AV.int .i64 n] (mkH [some (propO s), some (HObj.cells cs 48 false), some (HObj.cells (AV.int .i64 (Int.ofNat 13) :: AV.int .i64 n_9 :: AV.int .i64 n_10 :: AV.int .i64 (Int.ofNat 0) :: AV.int .i64 (Int.ofNat 0) :: AV.int .i64 (Int.ofNat 0) :: AV.int .i64 n_12 :: AV.int .i64 (Int.ofNat 0) :: AV.int .i64 (Int.ofNat 0) :: AV.int .i64 (Int.ofNat 0) :: AV.int .i64 (Int.ofNat 0) :: AV.int .i64 (Int.ofNat 0) :: AV.bool false :: zid [AV.fz (u8s s.value) (List.length s.value), AV.nils, AV.nils]) 48 false), some (HObj.cells (AV.int .i64 (Int.ofNat 13) :: AV.int .i64 n_9 :: AV.int .i64 n_10 :: AV.int .i64 (Int.ofNat 0) :: AV.int .i64 (Int.ofNat 0) :: AV.int .i64 (Int.ofNat 0) :: AV.int .i64 n_12 :: AV.int .i64 (Int.ofNat 0) :: AV.int .i64 (Int.ofNat 0) :: AV.int .i64 (Int.ofNat 0) :: AV.int .i64 (Int.ofNat 0) :: AV.int .i64 (Int.ofNat 0) :: AV.bool false :: zid [AV.fz (u8s s.value) (List.length s.value), AV.nils, AV.nils]) 48 false)])) (Ans.err 1 1 0)) (boolK (roomy (Nat.add len 1) 208) (segK 0 row (Nat.mul len 48) (fun old => appK old (AV.int .i64 (Int.ofNat 13) :: AV.int .i64 n_9 :: AV.int .i64 n_10 :: AV.int .i64 (Int.ofNat 0) :: AV.int .i64 (Int.ofNat 0) :: AV.int .i64 (Int.ofNat 0) :: AV.int .i64 n_12 :: AV.int .i64 (Int.ofNat 0) :: AV.int .i64 (Int.ofNat 0) :: AV.int .i64 (Int.ofNat 0) :: AV.int .i64 (Int.ofNat 0) :: AV.int .i64 (Int.ofNat 0) :: AV.bool false :: zid [AV.fz (u8s s.value) (List.length s.value), AV.nils, AV.nils]) fun both => boolK (true && (Nat.beq (Nat.add 0 (Nat.mul cap 48)) (List.length row) && true)) (fNat (Nat.add len 1) fun len_1 => fNat (Nat.add len 1) fun cap => fNat len_1 fun len => fNat cap fun cap => fInt (Int.ofNat n) fun n => fInt (wrapK .i64 (Int.add n (Int.ofNat 1))) fun n => fInt n fun n => k AExit.normal [AV.ptr (.ofNat 0) 0, AV.bool g, AV.slice (Pos.ofNat 4) 0 len cap true, AV.int .i64 n] (mkH [some (propO s), none, some (HObj.cells (AV.int .i64 (Int.ofNat 13) :: AV.int .i64 n_9 :: AV.int .i64 n_10 :: AV.int .i64 (Int.ofNat 0) :: AV.int .i64 (Int.ofNat 0) :: AV.int .i64 (Int.ofNat 0) :: AV.int .i64 n_12 :: AV.int .i64 (Int.ofNat 0) :: AV.int .i64 (Int.ofNat 0) :: AV.int .i64 (Int.ofNat 0) :: AV.int .i64 (Int.ofNat 0) :: AV.int .i64 (Int.ofNat 0) :: AV.bool false :: zid [AV.fz (u8s s.value) (List.length s.value), AV.nils, AV.nils]) 48 false), some (HObj.cells (AV.int .i64 (Int.ofNat 13) :: AV.int .i64 n_9 :: AV.int .i64 n_10 :: AV.int .i64 (Int.ofNat 0) :: AV.int .i64 (Int.ofNat 0) :: AV.int .i64 (Int.ofNat 0) :: AV.int .i64 n_12 :: AV.int .i64 (Int.ofNat 0) :: AV.int .i64 (Int.ofNat 0) :: AV.int .i64 (Int.ofNat 0) :: AV.int .i64 (Int.ofNat 0) :: AV.int .i64 (Int.ofNat 0) :: AV.bool false :: zid [AV.fz (u8s s.value) (List.length s.value), AV.nils, AV.nils]) 48 false), some (HObj.cells both 48 false)])) (Ans.err 1 4 0)) (Ans.err 1 3 0)) (Ans.err 1 6 0))) (Ans.err 82 0 0)) (Ans.err 82 1 0)) (Ans.err 40 16 3000)) (Ans.err 40 16 3000)) (boolK (ieq s.set n_11) (boolK (ieq (Int.ofNat s.me) n_8) (boolK (boolK (ieq s.b1 s.b1) (boolK (ieq s.b2 s.b2) true false) false) (boolK (Nat.beq (List.length (u8s s.value)) (List.length s.value)) (boolK (Nat.blt (List.length s.value) 400000) (fNat m fun len => fNat m fun cap => boolK (Nat.ble (Nat.add len 1) cap) (setsB (Nat.add 0 (Nat.mul len 48)) (AV.int .i64 (Int.ofNat 11) :: AV.int .i64 n_9 :: AV.int .i64 n_10 :: AV.int .i64 s.c1 :: AV.int .i64 s.c2 :: AV.int .i64 s.c3 :: AV.int .i64 n_12 :: AV.int .i64 (Int.ofNat 0) :: AV.int .i64 s.b1 :: AV.int .i64 s.b2 :: AV.int .i64 (Int.ofNat 0) :: AV.int .i64 (Int.ofNat 0) :: AV.bool false :: zid [AV.fz (u8s s.value) (List.length s.value), AV.nils, AV.nils]) row (fun cs => fNat (Nat.add len 1) fun len => fNat cap fun cap => fNat len fun len => fNat cap fun cap => fInt (Int.ofNat n) fun n => fInt (wrapK .i64 (Int.add n (Int.ofNat 1))) fun n => fInt n fun n => k AExit.normal [AV.ptr (.ofNat 0) 0, AV.bool g, AV.slice (Pos.ofNat 1) 0 len cap true, AV.int .i64 n] (mkH [some (propO s), some (HObj.cells cs 48 false), some (HObj.cells (AV.int .i64 (Int.ofNat 11) :: AV.int .i64 n_9 :: AV.int .i64 n_10 :: AV.int .i64 s.c1 :: AV.int .i64 s.c2 :: AV.int .i64 s.c3 :: AV.int .i64 n_12 :: AV.int .i64 (Int.ofNat 0) :: AV.int .i64 s.b1 :: AV.int .i64 s.b2 :: AV.int .i64 (Int.ofNat 0) :: AV.int .i64 (Int.ofNat 0) :: AV.bool false :: zid [AV.fz (u8s s.value) (List.length s.value), AV.nils, AV.nils]) 48 false), some (HObj.cells (AV.int .i64 (Int.ofNat 11) :: AV.int .i64 n_9 :: AV.int .i64 n_10 :: AV.int .i64 s.c1 :: AV.int .i64 s.c2 :: AV.int .i64 s.c3 :: AV.int .i64 n_12 :: AV.int .i64 (Int.ofNat 0) :: AV.int .i64 s.b1 :: AV.int .i64 s.b2 :: AV.int .i64 (Int.ofNat 0) :: AV.int .i64 (Int.ofNat 0) :: AV.bool false :: zid [AV.fz (u8s s.value) (List.length s.value), AV.nils, AV.nils]) 48 false)])) (Ans.err 1 1 0)) (boolK (roomy (Nat.add len 1) 208) (segK 0 row (Nat.mul len 48) (fun old => appK old (AV.int .i64 (Int.ofNat 11) :: AV.int .i64 n_9 :: AV.int .i64 n_10 :: AV.int .i64 s.c1 :: AV.int .i64 s.c2 :: AV.int .i64 s.c3 :: AV.int .i64 n_12 :: AV.int .i64 (Int.ofNat 0) :: AV.int .i64 s.b1 :: AV.int .i64 s.b2 :: AV.int .i64 (Int.ofNat 0) :: AV.int .i64 (Int.ofNat 0) :: AV.bool false :: zid [AV.fz (u8s s.value) (List.length s.value), AV.nils, AV.nils]) fun both => boolK (true && (Nat.beq (Nat.add 0 (Nat.mul cap 48)) (List.length row) && true)) (fNat (Nat.add len 1) fun len_1 => fNat (Nat.add len 1) fun cap => fNat len_1 fun len => fNat cap fun cap => fInt (Int.ofNat n) fun n => fInt (wrapK .i64 (Int.add n (Int.ofNat 1))) fun n => fInt n fun n => k AExit.normal [AV.ptr (.ofNat 0) 0, AV.bool g, AV.slice (Pos.ofNat 4) 0 len cap true, AV.int .i64 n] (mkH [some (propO s), none, some (HObj.cells (AV.int .i64 (Int.ofNat 11) :: AV.int .i64 n_9 :: AV.int .i64 n_10 :: AV.int .i64 s.c1 :: AV.int .i64 s.c2 :: AV.int .i64 s.c3 :: AV.int .i64 n_12 :: AV.int .i64 (Int.ofNat 0) :: AV.int .i64 s.b1 :: AV.int .i64 s.b2 :: AV.int .i64 (Int.ofNat 0) :: AV.int .i64 (Int.ofNat 0) :: AV.bool false :: zid [AV.fz (u8s s.value) (List.length s.value), AV.nils, AV.nils]) 48 false), some (HObj.cells (AV.int .i64 (Int.ofNat 11) :: AV.int .i64 n_9 :: AV.int .i64 n_10 :: AV.int .i64 s.c1 :: AV.int .i64 s.c2 :: AV.int .i64 s.c3 :: AV.int .i64 n_12 :: AV.int .i64 (Int.ofNat 0) :: AV.int .i64 s.b1 :: AV.int .i64 s.b2 :: AV.int .i64 (Int.ofNat 0) :: AV.int .i64 (Int.ofNat 0) :: AV.bool false :: zid [AV.fz (u8s s.value) (List.length s.value), AV.nils, AV.nils]) 48 false), some (HObj.cells both 48 false)])) (Ans.err 1 4 0)) (Ans.err 1 3 0)) (Ans.err 1 6 0))) (Ans.err 82 0 0)) (Ans.err 82 1 0)) (Ans.err 40 11 3000)) (Ans.err 40 16 3000)) (Ans.err 40 16 3000)) (ieq n_13 (Int.ofNat 2))) (boolK (ieq s.set n_11) (boolK (ieq (Int.ofNat s.me) n_8) (boolK (boolK (ieq s.b1 s.b1) (boolK (ieq s.b2 s.b2) true false) false) (fNat m fun len => fNat m fun cap => boolK (Nat.ble (Nat.add len 1) cap) (setsB (Nat.add 0 (Nat.mul len 48)) (AV.int .i64 (Int.ofNat 9) :: AV.int .i64 n_9 :: AV.int .i64 n_10 :: AV.int .i64 s.c1 :: AV.int .i64 s.c2 :: AV.int .i64 s.c3 :: AV.int .i64 n_12 :: AV.int .i64 (Int.ofNat 0) :: AV.int .i64 s.b1 :: AV.int .i64 s.b2 :: AV.int .i64 (Int.ofNat 0) :: AV.int .i64 (Int.ofNat 0) :: AV.bool false :: zid [AV.nils, AV.nils, AV.nils]) row (fun cs => fNat (Nat.add len 1) fun len => fNat cap fun cap => fNat len fun len => fNat cap fun cap => fInt (Int.ofNat n) fun n => fInt (wrapK .i64 (Int.add n (Int.ofNat 1))) fun n => fInt n fun n => k AExit.normal [AV.ptr (.ofNat 0) 0, AV.bool g, AV.slice (Pos.ofNat 1) 0 len cap true, AV.int .i64 n] (mkH [some (propO s), some (HObj.cells cs 48 false), some (HObj.cells (AV.int .i64 (Int.ofNat 9) :: AV.int .i64 n_9 :: AV.int .i64 n_10 :: AV.int .i64 s.c1 :: AV.int .i64 s.c2 :: AV.int .i64 s.c3 :: AV.int .i64 n_12 :: AV.int .i64 (Int.ofNat 0) :: AV.int .i64 s.b1 :: AV.int .i64 s.b2 :: AV.int .i64 (Int.ofNat 0) :: AV.int .i64 (Int.ofNat 0) :: AV.bool false :: zid [AV.nils, AV.nils, AV.nils]) 48 false), some (HObj.cells (AV.int .i64 (Int.ofNat 9) :: AV.int .i64 n_9 :: AV.int .i64 n_10 :: AV.int .i64 s.c1 :: AV.int .i64 s.c2 :: AV.int .i64 s.c3 :: AV.int .i64 n_12 :: AV.int .i64 (Int.ofNat 0) :: AV.int .i64 s.b1 :: AV.int .i64 s.b2 :: AV.int .i64 (Int.ofNat 0) :: AV.int .i64 (Int.ofNat 0) :: AV.bool false :: zid [AV.nils, AV.nils, AV.nils]) 48 false)])) (Ans.err 1 1 0)) (boolK (roomy (Nat.add len 1) 208) (segK 0 row (Nat.mul len 48) (fun old => appK old (AV.int .i64 (Int.ofNat 9) :: AV.int .i64 n_9 :: AV.int .i64 n_10 :: AV.int .i64 s.c1 :: AV.int .i64 s.c2 :: AV.int .i64 s.c3 :: AV.int .i64 n_12 :: AV.int .i64 (Int.ofNat 0) :: AV.int .i64 s.b1 :: AV.int .i64 s.b2 :: AV.int .i64 (Int.ofNat 0) :: AV.int .i64 (Int.ofNat 0) :: AV.bool false :: zid [AV.nils, AV.nils, AV.nils]) fun both => boolK (true && (Nat.beq (Nat.add 0 (Nat.mul cap 48)) (List.length row) && true)) (fNat (Nat.add len 1) fun len_1 => fNat (Nat.add len 1) fun cap => fNat len_1 fun len => fNat cap fun cap => fInt (Int.ofNat n) fun n => fInt (wrapK .i64 (Int.add n (Int.ofNat 1))) fun n => fInt n fun n => k AExit.normal [AV.ptr (.ofNat 0) 0, AV.bool g, AV.slice (Pos.ofNat 4) 0 len cap true, AV.int .i64 n] (mkH [some (propO s), none, some (HObj.cells (AV.int .i64 (Int.ofNat 9) :: AV.int .i64 n_9 :: AV.int .i64 n_10 :: AV.int .i64 s.c1 :: AV.int .i64 s.c2 :: AV.int .i64 s.c3 :: AV.int .i64 n_12 :: AV.int .i64 (Int.ofNat 0) :: AV.int .i64 s.b1 :: AV.int .i64 s.b2 :: AV.int .i64 (Int.ofNat 0) :: AV.int .i64 (Int.ofNat 0) :: AV.bool false :: zid [AV.nils, AV.nils, AV.nils]) 48 false), some (HObj.cells (AV.int .i64 (Int.ofNat 9) :: AV.int .i64 n_9 :: AV.int .i64 n_10 :: AV.int .i64 s.c1 :: AV.int .i64 s.c2 :: AV.int .i64 s.c3 :: AV.int .i64 n_12 :: AV.int .i64 (Int.ofNat 0) :: AV.int .i64 s.b1 :: AV.int .i64 s.b2 :: AV.int .i64 (Int.ofNat 0) :: AV.int .i64 (Int.ofNat 0) :: AV.bool false :: zid [AV.nils, AV.nils, AV.nils]) 48 false), some (HObj.cells both 48 false)])) (Ans.err 1 4 0)) (Ans.err 1 3 0)) (Ans.err 1 6 0))) (Ans.err 40 11 3000)) (Ans.err 40 16 3000)) (Ans.err 40 16 3000)) (ieq n_13 (Int.ofNat 1))) (fInt (Int.ofNat n) fun n => fInt (wrapK .i64 (Int.add n (Int.ofNat 1))) fun n => fInt n fun n => k AExit.normal [AV.ptr (.ofNat 0) 0, AV.bool g, AV.slice (Pos.ofNat 1) 0 m m true, AV.int .i64 n] (mkH [some (propO s), some (HObj.cells row 48 false)])) b) (Ans.err 40 14 9)) (Ans.err 40 14 9)) (Ans.err 40 13 26)) (Ans.err 40 13 26)) g) (fInt (Int.ofNat n) fun n => fInt (wrapK .i64 (Int.add n (Int.ofNat 1))) fun n => fInt n fun n => k AExit.normal [AV.ptr (.ofNat 0) 0, AV.bool g, AV.slice (Pos.ofNat 1) 0 m m true, AV.int .i64 n] (mkH [some (propO s), some (HObj.cells row 48 false)])) (ieq n_3 n_4)) !ilt n_2 n_1 := by kernel_rfl

theorem yl_len (ys : Nat → Bool) : ∀ (n k : Nat) (r : List AV), (yl ys n k r).length = n + r.length
  | 0, _, _ => by simp [yl]
  | n + 1, k, r => by simp [yl, yl_len ys n (k + 1) r]; omega

theorem yl_get (ys : Nat → Bool) : ∀ (n k i : Nat) (r : List AV), i < n → (yl ys n k r)[i]? = some (.bool (ys (k + i)))
  | 0, _, _, _, h => by omega
  | n + 1, k, 0, r, _ => by simp [yl]
  | n + 1, k, i + 1, r, h => by
    show (yl ys n (k + 1) r)[i]? = _
    rw [yl_get ys n (k + 1) i r (by omega), show k + 1 + i = k + (i + 1) by omega]

theorem prop_ys (s : PS) {n : Nat} (h : n < 65) (f : AV → Ans) (e : Ans) : nthK (propC s) (Nat.add 15 (Nat.mul n 1)) f e = f (.bool (s.ys n)) := by
  rw [nthK_eq, show Nat.add 15 (Nat.mul n 1) = n + 15 by show 15 + n * 1 = _; omega]
  show optK ((yl s.ys 65 0 _)[n]?) f e = _
  rw [yl_get _ _ _ _ _ h, Nat.zero_add]; rfl

theorem yl_pf (ys : Nat → Bool) : ∀ (n k : Nat) {r : List AV}, AV.pfs r = true → AV.pfs (yl ys n k r) = true
  | 0, _, _, h => h
  | n + 1, k, r, h => by show (true && AV.pfs (yl ys n (k + 1) r)) = true; rw [yl_pf ys n (k + 1) h]; rfl

theorem propC_pf (s : PS) : AV.pfs (propC s) = true := by
  show (true && AV.pfs _) = true
  simp only [AV.pfs, AV.pf, Bool.true_and]
  exact yl_pf _ _ _ rfl

theorem prop_ren (σ : Pos → Pos) (s : PS) : (propO s).ren σ = propO s := cells_ren_pf σ (propC_pf s) _ _

/-- A note to a node. -/
def noteC (s : PS) (to : Int) : List AV :=
  if s.phase = 1 then .int .i64 (.ofNat 9) :: .int .i64 (.ofNat s.me) :: .int .i64 to :: .int .i64 s.c1 :: .int .i64 s.c2 :: .int .i64 s.c3 :: .int .i64 s.set :: .int .i64 (.ofNat 0) :: .int .i64 s.b1 :: .int .i64 s.b2 :: .int .i64 (.ofNat 0) :: .int .i64 (.ofNat 0) :: .bool false :: zid [.nils, .nils, .nils]
  else if s.phase = 2 then .int .i64 (.ofNat 11) :: .int .i64 (.ofNat s.me) :: .int .i64 to :: .int .i64 s.c1 :: .int .i64 s.c2 :: .int .i64 s.c3 :: .int .i64 s.set :: .int .i64 (.ofNat 0) :: .int .i64 s.b1 :: .int .i64 s.b2 :: .int .i64 (.ofNat 0) :: .int .i64 (.ofNat 0) :: .bool false :: zid [.fz (u8s s.value) s.value.length, .nils, .nils]
  else .int .i64 (.ofNat 13) :: .int .i64 (.ofNat s.me) :: .int .i64 to :: .int .i64 (.ofNat 0) :: .int .i64 (.ofNat 0) :: .int .i64 (.ofNat 0) :: .int .i64 s.set :: .int .i64 (.ofNat 0) :: .int .i64 (.ofNat 0) :: .int .i64 (.ofNat 0) :: .int .i64 (.ofNat 0) :: .int .i64 (.ofNat 0) :: .bool false :: zid [.fz (u8s s.value) s.value.length, .nils, .nils]

theorem noteC_len (s : PS) (to : Int) : (noteC s to).length = 48 := by
  unfold noteC; split
  · rfl
  · split <;> rfl

theorem noteC_pf (s : PS) (to : Int) : AV.pfs (noteC s to) = true := by
  unfold noteC; split
  · rfl
  · split <;> rfl

theorem noteC_ones (s : PS) (to : Int) : (noteC s to).all AV.one = true := by
  unfold noteC; split
  · rfl
  · split <;> rfl

/-- The notes so far. -/
noncomputable def rowV (p : Nat) : List Int → AV
  | [] => .nils
  | ns => .slice (.ofNat p) 0 ns.length ns.length true

def rowH (s : PS) : List Int → HL
  | [] => []
  | ns => [some (.cells (flat (noteC s) ns) 48 false)]

theorem push40 {ρ0 : RM} {w0 : World} {s : PS} {g : Bool} {n : Nat} {ns : List Int} (hr0 : Rel ρ0 (mkH [some (propO s)]) w0) (hv : s.value.length < 400000) (hn : n < 65) (h1 : ¬ s.nodes < n) (h2 : n ≠ s.me) (h3 : g = true → s.ys n = false) (hl : ns.length < 100) :
    CodeR Try.prog ρ0 (mkH [some (propO s)]) w0 fx40 b40 (mkTm (tm40 g n (rowV 1 ns))) (mkH (some (propO s) :: rowH s ns)) .normal (mkTm (tm40 g (n + 1) (rowV 1 (ns ++ [(n : Int)])))) (mkH (some (propO s) :: rowH s (ns ++ [(n : Int)]))) := by
  have c1 : ilt (Int.ofNat s.nodes) (Int.ofNat n) = false := blt_false (by omega)
  have c2 : ieq (Int.ofNat n) (Int.ofNat s.me) = false := AM.beq_false h2
  have c3 : wrapK .i64 (Int.add (Int.ofNat n) (Int.ofNat 1)) = .ofNat (n + 1) := wrap_add (by omega)
  have c4 : Nat.beq (u8s s.value).length s.value.length = true := AM.beq_true (u8s_len _)
  have c5 : Nat.blt s.value.length 400000 = true := blt_true hv
  have c6 : Nat.blt n 65 = true := blt_true hn
  have hs : rowV 1 (ns ++ [(n : Int)]) = .slice (.ofNat 1) 0 (ns.length + 1) (ns.length + 1) true := by cases ns <;> simp [rowV]
  have hh : rowH s (ns ++ [(n : Int)]) = [some (.cells (flat (noteC s) ns ++ noteC s n) 48 false)] := by
    have : rowH s (ns ++ [(n : Int)]) = [some (.cells (flat (noteC s) (ns ++ [(n : Int)])) 48 false)] := by cases ns <;> rfl
    rw [this, flat_snoc]
  have hpf : AV.pfs (flat (noteC s) ns ++ noteC s n) = true := pfs_append (flat_pf (noteC_pf s) ns) (noteC_pf s n)
  rw [hs, hh]
  have hph : s.phase = 1 ∨ (s.phase ≠ 1 ∧ s.phase = 2) ∨ (s.phase ≠ 1 ∧ s.phase ≠ 2) := by omega
  have e1 : s.phase = 1 → ieq s.phase (Int.ofNat 1) = true := fun h => ieq_true h
  have e2 : s.phase ≠ 1 → ieq s.phase (Int.ofNat 1) = false := fun h => ieq_false h
  have e3 : s.phase = 2 → ieq s.phase (Int.ofNat 2) = true := fun h => ieq_true h
  have e4 : s.phase ≠ 2 → ieq s.phase (Int.ofNat 2) = false := fun h => ieq_false h
  cases ns with
  | nil =>
    have R : CodeOK Try.prog fx40 b40 (mkTm (tm40 g n .nils)) (mkH [some (propO s)]) [] .normal (mkTm ([0, 1, 4, 5].zip [.ptr (.ofNat 0) 0, .bool g, .slice (.ofNat 3) 0 1 1 true, .int .i64 (.ofNat (n + 1))])) (mkH [some (propO s), some (.cells (noteC s n) 48 false), some (.cells (noteC s n) 48 false), some (.cells (noteC s n) 48 false)]) [] := by
      rcases hph with p1 | ⟨p1, p2⟩ | ⟨p1, p2⟩
      · have q1 := e1 p1
        have q2 := True
        have qn : noteC s n = _ := if_pos p1
        rw [qn]
        refine CodeOK.of_pick hmix (OrOK.cons good_clone .nil) .nil (N := 1000) [0, 1, 4, 5] [] [4] fun k => (rndA s g n k).trans ?_
        cases g
        · have h4 := True
          simp only [fInt_eq, fNat_eq, natOf_of, c1, c2, c3, c4, c5, c6, q1, ieq_self, boolK_true, boolK_false, brec_true, brec_false, Bool.not_false, Bool.not_true, prop_ys s hn, eBool_b]
          try exact rfl
        · have h4 := h3 rfl
          simp only [fInt_eq, fNat_eq, natOf_of, c1, c2, c3, c4, c5, c6, q1, ieq_self, boolK_true, boolK_false, brec_true, brec_false, Bool.not_false, Bool.not_true, prop_ys s hn, eBool_b, h4]
          try exact rfl
      · have q1 := e2 p1
        have q2 := e3 p2
        have qn : noteC s n = _ := (if_neg p1).trans (if_pos p2)
        rw [qn]
        refine CodeOK.of_pick hmix (OrOK.cons good_clone .nil) .nil (N := 1000) [0, 1, 4, 5] [] [4] fun k => (rndA s g n k).trans ?_
        cases g
        · have h4 := True
          simp only [fInt_eq, fNat_eq, natOf_of, c1, c2, c3, c4, c5, c6, q1, q2, ieq_self, boolK_true, boolK_false, brec_true, brec_false, Bool.not_false, Bool.not_true, prop_ys s hn, eBool_b]
          try exact rfl
        · have h4 := h3 rfl
          simp only [fInt_eq, fNat_eq, natOf_of, c1, c2, c3, c4, c5, c6, q1, q2, ieq_self, boolK_true, boolK_false, brec_true, brec_false, Bool.not_false, Bool.not_true, prop_ys s hn, eBool_b, h4]
          try exact rfl
      · have q1 := e2 p1
        have q2 := e4 p2
        have qn : noteC s n = _ := (if_neg p1).trans (if_neg p2)
        rw [qn]
        refine CodeOK.of_pick hmix (OrOK.cons good_clone .nil) .nil (N := 1000) [0, 1, 4, 5] [] [4] fun k => (rndA s g n k).trans ?_
        cases g
        · have h4 := True
          simp only [fInt_eq, fNat_eq, natOf_of, c1, c2, c3, c4, c5, c6, q1, q2, ieq_self, boolK_true, boolK_false, brec_true, brec_false, Bool.not_false, Bool.not_true, prop_ys s hn, eBool_b]
          try exact rfl
        · have h4 := h3 rfl
          simp only [fInt_eq, fNat_eq, natOf_of, c1, c2, c3, c4, c5, c6, q1, q2, ieq_self, boolK_true, boolK_false, brec_true, brec_false, Bool.not_false, Bool.not_true, prop_ys s hn, eBool_b, h4]
          try exact rfl
    refine (CodeR.of rfl R).post (Retell.sel hr0 (τ := seat [0, 3] 4) ?_ (SubT.of_list (l := tm40 g (n + 1) (.slice (.ofNat 1) 0 1 1 true)) (by repeat first | exact .nil | refine .cons (by kernel_rfl) ?_)))
    rw [mkH_next]
    refine Sel.of_listN (n := 1) (N := 4) (t := [0, 3]) rfl rfl ?_ (by show [0, 3].Nodup; decide) ⟨rfl, trivial⟩
    exact .some rfl (prop_ren _ _).symm (.some rfl (cells_ren_pf _ hpf _ _).symm .nil)
  | cons a ns =>
    generalize hle : a :: ns = l at hl hpf ⊢
    have hv1 : rowV 1 l = .slice (.ofNat 1) 0 l.length l.length true := by subst hle; rfl
    have hv2 : rowH s l = [some (.cells (flat (noteC s) l) 48 false)] := by subst hle; rfl
    rw [hv1, hv2]
    have R : CodeOK Try.prog fx40 b40 (mkTm (tm40 g n (.slice (.ofNat 1) 0 l.length l.length true))) (mkH [some (propO s), some (.cells (flat (noteC s) l) 48 false)]) [] .normal (mkTm ([0, 1, 4, 5].zip [.ptr (.ofNat 0) 0, .bool g, .slice (.ofNat 4) 0 (l.length + 1) (l.length + 1) true, .int .i64 (.ofNat (n + 1))])) (mkH [some (propO s), none, some (.cells (noteC s n) 48 false), some (.cells (noteC s n) 48 false), some (.cells (flat (noteC s) l ++ noteC s n) 48 false)]) [] := by
      have d2 : roomy (Nat.add l.length 1) 208 = true := roomy_true (by show (l.length + 1) * 208 ≤ _; omega) (by show l.length + 1 ≤ _; omega)
      rcases hph with p1 | ⟨p1, p2⟩ | ⟨p1, p2⟩
      · have q1 := e1 p1
        have q2 := True
        have qn : noteC s n = _ := if_pos p1
        rw [qn]
        refine CodeOK.of_pick hmix (OrOK.cons good_clone .nil) .nil (N := 1000) [0, 1, 4, 5] [] [4] fun k => (rndB s g n l.length (flat (noteC s) l) k).trans ?_
        cases g
        · have h4 := True
          simp only [fInt_eq, fNat_eq, natOf_of, c1, c2, c3, c4, c5, c6, q1, ieq_self, boolK_true, boolK_false, brec_true, brec_false, Bool.not_false, Bool.not_true, prop_ys s hn, eBool_b, full_row, d2, seg_flat (noteC_len s), appK_eq, end_flat (noteC_len s), AM.beq_true rfl, Bool.and_true, Bool.true_and]
          try exact rfl
        · have h4 := h3 rfl
          simp only [fInt_eq, fNat_eq, natOf_of, c1, c2, c3, c4, c5, c6, q1, ieq_self, boolK_true, boolK_false, brec_true, brec_false, Bool.not_false, Bool.not_true, prop_ys s hn, eBool_b, full_row, d2, seg_flat (noteC_len s), appK_eq, end_flat (noteC_len s), AM.beq_true rfl, Bool.and_true, Bool.true_and, h4]
          try exact rfl
      · have q1 := e2 p1
        have q2 := e3 p2
        have qn : noteC s n = _ := (if_neg p1).trans (if_pos p2)
        rw [qn]
        refine CodeOK.of_pick hmix (OrOK.cons good_clone .nil) .nil (N := 1000) [0, 1, 4, 5] [] [4] fun k => (rndB s g n l.length (flat (noteC s) l) k).trans ?_
        cases g
        · have h4 := True
          simp only [fInt_eq, fNat_eq, natOf_of, c1, c2, c3, c4, c5, c6, q1, q2, ieq_self, boolK_true, boolK_false, brec_true, brec_false, Bool.not_false, Bool.not_true, prop_ys s hn, eBool_b, full_row, d2, seg_flat (noteC_len s), appK_eq, end_flat (noteC_len s), AM.beq_true rfl, Bool.and_true, Bool.true_and]
          try exact rfl
        · have h4 := h3 rfl
          simp only [fInt_eq, fNat_eq, natOf_of, c1, c2, c3, c4, c5, c6, q1, q2, ieq_self, boolK_true, boolK_false, brec_true, brec_false, Bool.not_false, Bool.not_true, prop_ys s hn, eBool_b, full_row, d2, seg_flat (noteC_len s), appK_eq, end_flat (noteC_len s), AM.beq_true rfl, Bool.and_true, Bool.true_and, h4]
          try exact rfl
      · have q1 := e2 p1
        have q2 := e4 p2
        have qn : noteC s n = _ := (if_neg p1).trans (if_neg p2)
        rw [qn]
        refine CodeOK.of_pick hmix (OrOK.cons good_clone .nil) .nil (N := 1000) [0, 1, 4, 5] [] [4] fun k => (rndB s g n l.length (flat (noteC s) l) k).trans ?_
        cases g
        · have h4 := True
          simp only [fInt_eq, fNat_eq, natOf_of, c1, c2, c3, c4, c5, c6, q1, q2, ieq_self, boolK_true, boolK_false, brec_true, brec_false, Bool.not_false, Bool.not_true, prop_ys s hn, eBool_b, full_row, d2, seg_flat (noteC_len s), appK_eq, end_flat (noteC_len s), AM.beq_true rfl, Bool.and_true, Bool.true_and]
          try exact rfl
        · have h4 := h3 rfl
          simp only [fInt_eq, fNat_eq, natOf_of, c1, c2, c3, c4, c5, c6, q1, q2, ieq_self, boolK_true, boolK_false, brec_true, brec_false, Bool.not_false, Bool.not_true, prop_ys s hn, eBool_b, full_row, d2, seg_flat (noteC_len s), appK_eq, end_flat (noteC_len s), AM.beq_true rfl, Bool.and_true, Bool.true_and, h4]
          try exact rfl
    refine (CodeR.of rfl R).post (Retell.sel hr0 (τ := seat [0, 4] 5) ?_ (SubT.of_list (l := tm40 g (n + 1) (.slice (.ofNat 1) 0 (l.length + 1) (l.length + 1) true)) (by repeat first | exact .nil | refine .cons (by kernel_rfl) ?_)))
    rw [mkH_next]
    refine Sel.of_listN (n := 1) (N := 5) (t := [0, 4]) rfl rfl ?_ (by show [0, 4].Nodup; decide) ⟨rfl, trivial⟩
    exact .some rfl (prop_ren _ _).symm (.some rfl (cells_ren_pf _ hpf _ _).symm .nil)

theorem skip40 {ρ0 : RM} {A0 : H} {w0 : World} {s : PS} {g : Bool} {n : Nat} {ns : List Int} (hn : n < 65) (h1 : ¬ s.nodes < n) (h2 : n = s.me ∨ (g = true ∧ s.ys n = true)) :
    CodeR Try.prog ρ0 A0 w0 fx40 b40 (mkTm (tm40 g n (rowV 1 ns))) (mkH (some (propO s) :: rowH s ns)) .normal (mkTm (tm40 g (n + 1) (rowV 1 ns))) (mkH (some (propO s) :: rowH s ns)) := by
  have c1 : ilt (Int.ofNat s.nodes) (Int.ofNat n) = false := blt_false (by omega)
  have c3 : wrapK .i64 (Int.add (Int.ofNat n) (Int.ofNat 1)) = .ofNat (n + 1) := wrap_add (by omega)
  have c6 : Nat.blt n 65 = true := blt_true hn
  have R : ∀ (V : AV) (L : HL), (∀ K, execH Try.prog (mkO [(17, orcClone)]) [] 1000 fx40 b40 (mkTm (tm40 g n V)) (mkH (some (propO s) :: L)) [] (pickK [0, 1, 4, 5] [] [4] K) = K .normal [.ptr (.ofNat 0) 0, .bool g, V, .int .i64 (.ofNat (n + 1))] (mkH (some (propO s) :: L))) →
      CodeR Try.prog ρ0 A0 w0 fx40 b40 (mkTm (tm40 g n V)) (mkH (some (propO s) :: L)) .normal (mkTm (tm40 g (n + 1) V)) (mkH (some (propO s) :: L)) := fun V L h =>
    CodeR.of rfl (CodeOK.of_pick hmix (OrOK.cons good_clone .nil) .nil (N := 1000) [0, 1, 4, 5] [] [4] h)
  refine R _ _ fun k => ?_
  rcases h2 with h2 | ⟨rfl, h2⟩
  · have c2 : ieq (Int.ofNat n) (Int.ofNat s.me) = true := AM.beq_true h2
    cases ns with
    | nil =>
      refine (rndA s g n k).trans ?_
      simp only [fInt_eq, fNat_eq, natOf_of, c1, c2, c3, boolK_true, boolK_false, brec_true, brec_false, Bool.not_false, Bool.not_true]
      try exact rfl
    | cons a ns =>
      refine (rndB s g n _ _ k).trans ?_
      simp only [fInt_eq, fNat_eq, natOf_of, c1, c2, c3, boolK_true, boolK_false, brec_true, brec_false, Bool.not_false, Bool.not_true]
      try exact rfl
  · by_cases h3 : n = s.me
    · have c2 : ieq (Int.ofNat n) (Int.ofNat s.me) = true := AM.beq_true h3
      cases ns with
      | nil =>
        refine (rndA s true n k).trans ?_
        simp only [fInt_eq, fNat_eq, natOf_of, c1, c2, c3, boolK_true, boolK_false, brec_true, brec_false, Bool.not_false, Bool.not_true]
        try exact rfl
      | cons a ns =>
        refine (rndB s true n _ _ k).trans ?_
        simp only [fInt_eq, fNat_eq, natOf_of, c1, c2, c3, boolK_true, boolK_false, brec_true, brec_false, Bool.not_false, Bool.not_true]
        try exact rfl
    · have c2 : ieq (Int.ofNat n) (Int.ofNat s.me) = false := AM.beq_false h3
      cases ns with
      | nil =>
        refine (rndA s true n k).trans ?_
        simp only [fInt_eq, fNat_eq, natOf_of, c1, c2, c3, c6, boolK_true, boolK_false, brec_true, brec_false, Bool.not_false, Bool.not_true, prop_ys s hn, eBool_b, h2]
        try exact rfl
      | cons a ns =>
        refine (rndB s true n _ _ k).trans ?_
        simp only [fInt_eq, fNat_eq, natOf_of, c1, c2, c3, c6, boolK_true, boolK_false, brec_true, brec_false, Bool.not_false, Bool.not_true, prop_ys s hn, eBool_b, h2]
        try exact rfl

theorem stop40 {ρ0 : RM} {A0 : H} {w0 : World} {s : PS} {g : Bool} {n : Nat} {ns : List Int} (h1 : s.nodes < n) :
    CodeR Try.prog ρ0 A0 w0 fx40 b40 (mkTm (tm40 g n (rowV 1 ns))) (mkH (some (propO s) :: rowH s ns)) (.exit 0) (mkTm [(4, rowV 1 ns)]) (mkH (some (propO s) :: rowH s ns)) := by
  have c1 : ilt (Int.ofNat s.nodes) (Int.ofNat n) = true := blt_true h1
  refine CodeR.of rfl (CodeOK.of_pick (l := [rowV 1 ns]) hmix (OrOK.cons good_clone .nil) .nil (N := 1000) [0, 1, 4, 5] [] [4] fun k => ?_)
  cases ns with
  | nil =>
    refine (rndA s g n k).trans ?_
    simp only [fInt_eq, fNat_eq, c1, brec_true, brec_false, Bool.not_true]
    try exact rfl
  | cons a ns =>
    refine (rndB s g n _ _ k).trans ?_
    simp only [fInt_eq, fNat_eq, c1, brec_true, brec_false, Bool.not_true]
    try exact rfl

theorem loop40 {s : PS} {g : Bool} (hv : s.value.length < 400000) (hN : s.nodes ≤ 64) : ∀ (j n : Nat) (ns : List Int), 65 - n = j → n ≤ 65 → ns.length ≤ n →
    ∃ ms : List Int, ms.length ≤ 65 ∧ ((∀ x ∈ ms, x ∈ ns ∨ x ≠ (s.me : Int)) ∧ (∀ x ∈ ns, x ∈ ms) ∧ (g = false → ∀ m : Nat, n ≤ m → m ≤ s.nodes → m ≠ s.me → (m : Int) ∈ ms)) ∧ ∀ (ρ0 : RM) (w0 : World), Rel ρ0 (mkH [some (propO s)]) w0 → LoopR Try.prog ρ0 (mkH [some (propO s)]) w0 fx40 b40 (mkTm (tm40 g n (rowV 1 ns))) (mkH (some (propO s) :: rowH s ns)) (.exit 0) (mkTm [(4, rowV 1 ms)]) (mkH (some (propO s) :: rowH s ms)) := by
  intro j
  induction j with
  | zero =>
    intro n ns hj hn hl
    exact ⟨ns, by omega, ⟨fun x hx => .inl hx, fun x hx => hx, fun _ m h1 h2 _ => by omega⟩, fun _ _ _ => .stop (fun e => by cases e) (stop40 (by omega))⟩
  | succ j ih =>
    intro n ns hj hn hl
    by_cases h1 : s.nodes < n
    · exact ⟨ns, by omega, ⟨fun x hx => .inl hx, fun x hx => hx, fun _ m h3 h4 _ => by omega⟩, fun _ _ _ => .stop (fun e => by cases e) (stop40 h1)⟩
    by_cases h2 : n = s.me ∨ (g = true ∧ s.ys n = true)
    · obtain ⟨ms, q5, ⟨q1, q3, q4⟩, q2⟩ := ih (n + 1) ns (by omega) (by omega) (by omega)
      refine ⟨ms, q5, ⟨q1, q3, fun hg m h5 h6 h7 => ?_⟩, fun ρ0 w0 hr0 => .next (skip40 (by omega) h1 h2) (q2 ρ0 w0 hr0)⟩
      by_cases h8 : m = n
      · subst h8
        rcases h2 with h2 | ⟨h2, _⟩
        · exact absurd h2 h7
        · rw [hg] at h2; cases h2
      · exact q4 hg m (by omega) h6 h7
    · obtain ⟨ms, q5, ⟨q1, q3, q4⟩, q2⟩ := ih (n + 1) (ns ++ [(n : Int)]) (by omega) (by omega) (by simp; omega)
      have h3 : n ≠ s.me := fun h => h2 (.inl h)
      refine ⟨ms, q5, ⟨fun x hx => ?_, fun x hx => q3 x (by simp [hx]), fun hg m h5 h6 h7 => ?_⟩, fun ρ0 w0 hr0 => .next (push40 hr0 hv (by omega) h1 h3 (fun hg => ?_) (by omega)) (q2 ρ0 w0 hr0)⟩
      · rcases q1 x hx with h | h
        · rcases List.mem_append.1 h with h | h
          · exact .inl h
          · simp at h; subst h; exact .inr (by omega)
        · exact .inr h
      · by_cases h8 : m = n
        · subst h8; exact q3 _ (by simp)
        · exact q4 hg m (by omega) h6 h7
      · cases hy : s.ys n with
        | false => rfl
        | true => exact absurd (.inr ⟨hg, hy⟩) h2

theorem notesN (s : PS) (g : Bool) (k : AV → H → Ans) :
    bodyF Try.prog (execH Try.prog (mkO [(17, orcClone)]) [⟨40, 0, exSub fx40 (subC [1,0,1] c40) (mkTm (tm40 g 1 .nils)) (mkH [some (propO s)]) .normal (mkTm [(4, .nils)]) (mkH [some (propO s)])⟩] 1000) (Pos.ofNat 40) [] [] [.ptr (.ofNat 0) 0, .bool g] (mkH [some (propO s)]) k
    = guardK (fx40 = fx40 ∧ subC [1, 0, 1] c40 = subC [1, 0, 1] c40 ∧ Sub0 (mkTm (tm40 g 1 AV.nils)) (mkTm [(0, AV.ptr (.ofNat 0) 0), (1, AV.bool g), (4, AV.nils), (5, AV.int .i64 (Int.ofNat 1))]) ∧ mkH [some (propO s)] = mkH [some (propO s)] ∧ MkNil []) (k AV.nils (mkH [some (propO s)])) (Ans.err 0 0 0) := by kernel_rfl

theorem notesC (s : PS) (g : Bool) (n : Nat) (o : HObj) (k : AV → H → Ans) :
    bodyF Try.prog (execH Try.prog (mkO [(17, orcClone)]) [⟨40, 0, exSub fx40 (subC [1,0,1] c40) (mkTm (tm40 g 1 .nils)) (mkH [some (propO s)]) .normal (mkTm [(4, .slice (.ofNat 1) 0 n n true)]) (mkH [some (propO s), some o])⟩] 1000) (Pos.ofNat 40) [] [] [.ptr (.ofNat 0) 0, .bool g] (mkH [some (propO s)]) k
    = guardK (fx40 = fx40 ∧ subC [1, 0, 1] c40 = subC [1, 0, 1] c40 ∧ Sub0 (mkTm (tm40 g 1 AV.nils)) (mkTm [(0, AV.ptr (.ofNat 0) 0), (1, AV.bool g), (4, AV.nils), (5, AV.int .i64 (Int.ofNat 1))]) ∧ mkH [some (propO s)] = mkH [some (propO s)] ∧ MkNil []) (fNat n fun len => fNat n fun cap => fNat len fun len => fNat cap fun cap => k (AV.slice (Pos.ofNat 1) 0 len cap true) (mkH [some (propO s), some o])) (Ans.err 0 0 0) := by kernel_rfl

/-- To whom notes go. -/
def MsOK (s : PS) (g : Bool) (ms : List Int) : Prop := (∀ x ∈ ms, x ≠ (s.me : Int)) ∧ (g = false → 2 ≤ s.nodes → ms ≠ []) ∧ ms.length ≤ 65

theorem notes_ok {s : PS} (g : Bool) (hv : s.value.length < 400000) (hN : s.nodes ≤ 64) :
    ∃ ms : List Int, MsOK s g ms ∧ FunOK Try.prog 40 [.ptr (.ofNat 0) 0, .bool g] (mkH [some (propO s)]) (rowV 1 ms) (mkH (some (propO s) :: rowH s ms)) := by
  have hE : ∀ ms : List Int, (∀ x ∈ ms, x ∈ ([] : List Int) ∨ x ≠ (s.me : Int)) → ∀ x ∈ ms, x ≠ (s.me : Int) := fun ms h x hx => (h x hx).resolve_left (by simp)
  have hB : ∃ ms : List Int, MsOK s g ms ∧ CodeOK Try.prog fx40 (subC [1,0,1] c40) (mkTm (tm40 g 1 .nils)) (mkH [some (propO s)]) [] .normal (mkTm [(4, rowV 1 ms)]) (mkH (some (propO s) :: rowH s ms)) [] := by
    obtain ⟨ms, q5, ⟨q1, q3, q4⟩, q2⟩ := loop40 (s := s) (g := g) hv hN 64 1 [] rfl (by omega) (by simp)
    refine ⟨ms, ⟨hE ms q1, (fun hg h2 he => ?_), q5⟩, ?_⟩
    · subst he
      by_cases h8 : s.me = 1
      · have := q4 hg 2 (by omega) h2 (by omega); simp at this
      · have := q4 hg 1 (by omega) (by omega) (by omega); simp at this
    rw [b40_eq]
    exact CodeOK.of_base rfl fun ρ0 w0 hr0 => .block (q2 ρ0 w0 hr0).code
  obtain ⟨ms, h1, h2⟩ := hB
  refine ⟨ms, h1, ?_⟩
  cases ms with
  | nil => exact FunOK.of_runH hmix (OrOK.cons good_clone .nil) (HolesOK.one (exSub_ok h2)) (N := 1000) (f := 40) fun k => (notesN s g k).trans (by
      refine (guardK_pos (by repeat' first | trivial | rfl | exact LTm.nil | refine LTm.cons (by kernel_rfl) ?_ | refine Sub0.of_list ?_ | constructor) _ _).trans ?_
      try exact rfl)
  | cons a ms => exact FunOK.of_runH hmix (OrOK.cons good_clone .nil) (HolesOK.one (exSub_ok h2)) (N := 1000) (f := 40) fun k => (notesC s g _ _ k).trans (by
      refine (guardK_pos (by repeat' first | trivial | rfl | exact LTm.nil | refine LTm.cons (by kernel_rfl) ?_ | refine Sub0.of_list ?_ | constructor) _ _).trans ?_
      simp only [fNat_eq]
      try exact rfl)

end Pro
