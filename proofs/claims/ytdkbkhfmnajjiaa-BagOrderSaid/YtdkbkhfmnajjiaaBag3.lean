import Derived.Test.YtdkbkhfmnajjiaaBag2
import Derived.KernelRfl
set_option maxHeartbeats 0
set_option maxRecDepth 1000000
set_option linter.unusedSimpArgs false
set_option linter.unusedVariables false
open Go Go.AM Go.Proofs
namespace Bag

noncomputable def c5 : Code := bodyC Try.f5

noncomputable def body5 : Code := subC [1,1,1,0,1,0,0] c5

noncomputable def tm5 (n i : Nat) : List (Nat × AV) := [(1, .slice (.ofNat 0) 0 n n true), (5, .ptr (.ofNat 1) 0), (7, .int .i64 (.ofNat i))]

theorem rnd5 (n i : Nat) (b r b' : HObj) (o3 : Option HObj) (r' : HObj) (x : List Nat) (cs : List AV) (k : Kont) :
    execH Try.prog (mkO [(17, orcAt [.ptr (.ofNat 1) 0, .str x] (mkH [some (.cells cs 1 true), some b, some r]) (.int .i64 (.ofNat 0)) (mkH [some (.cells cs 1 true), some b', o3, some r']))]) [] 1000 ⟨none, 5, 33⟩ body5 (mkTm (tm5 n i)) (mkH [some (.cells cs 1 true), some b, some r]) [] k
    = fInt (Int.ofNat i) fun n_1 => fNat n fun len => fNat n fun cap => fInt (Int.ofNat len) fun n_2 => brec (k (AExit.exit 0) (mkTm [(1, AV.slice (Pos.ofNat 0) 0 n n true), (5, AV.ptr (Pos.ofNat 1) 0), (7, AV.int IntKind.i64 (Int.ofNat i)), (19, AV.int IntKind.i64 n_1), (20, AV.slice (Pos.ofNat 0) 0 len cap true), (21, AV.int IntKind.i64 n_2), (22, AV.bool false)]) (mkH [some (HObj.cells cs 1 true), some b, some r]) []) (fNat n fun len_1 => fNat n fun cap_1 => fInt (Int.ofNat i) fun n_3 => natOf n_3 (fun m => boolK (Nat.blt m len_1) (fNat (Nat.add 0 (Nat.mul m 1)) fun off => nthK cs off (fun v => eStr v (fun s => fNats s fun l => guardK ([AV.ptr (Pos.ofNat 1) 0, AV.str l] = [AV.ptr (Pos.ofNat 1) 0, AV.str x] ∧ mkH [some (HObj.cells cs 1 true), some b, some r] = mkH [some (HObj.cells cs 1 true), some b, some r]) (fInt (Int.ofNat i) fun n_4 => fInt (wrapK IntKind.i64 (Int.add n_4 (Int.ofNat 1))) fun n_5 => fInt n_5 fun n_6 => k AExit.normal (mkTm [(1, AV.slice (Pos.ofNat 0) 0 n n true), (5, AV.ptr (Pos.ofNat 1) 0), (7, AV.int IntKind.i64 n_6), (19, AV.int IntKind.i64 n_1), (20, AV.slice (Pos.ofNat 0) 0 len cap true), (21, AV.int IntKind.i64 n_2), (22, AV.bool true), (23, AV.int IntKind.i64 n_4), (24, AV.int IntKind.i64 n_5), (25, AV.ptr (Pos.ofNat 1) 0), (26, AV.slice (Pos.ofNat 0) 0 len_1 cap_1 true), (27, AV.int IntKind.i64 n_3), (28, AV.ptr (Pos.ofNat 0) off), (29, AV.str l), (30, AV.int IntKind.i64 (Int.ofNat 0)), (31, AV.bool false)]) (mkH [some (HObj.cells cs 1 true), some b', o3, some r']) []) (Ans.err 0 0 0)) (Ans.err 5 4 9)) (Ans.err 5 4 9)) (Ans.err 5 3 26)) (Ans.err 5 3 26)) (ilt n_1 n_2) := by kernel_rfl

theorem rnd5E (n i : Nat) (b b' r' : HObj) (x : List Nat) (cs : List AV) (k : Kont) :
    execH Try.prog (mkO [(17, orcAt [.ptr (.ofNat 1) 0, .str x] (mkH [some (.cells cs 1 true), some b]) (.int .i64 (.ofNat 0)) (mkH [some (.cells cs 1 true), some b', some r']))]) [] 1000 ⟨none, 5, 33⟩ body5 (mkTm (tm5 n i)) (mkH [some (.cells cs 1 true), some b]) [] k
    = fInt (Int.ofNat i) fun n_1 => fNat n fun len => fNat n fun cap => fInt (Int.ofNat len) fun n_2 => brec (k (AExit.exit 0) (mkTm [(1, AV.slice (Pos.ofNat 0) 0 n n true), (5, AV.ptr (Pos.ofNat 1) 0), (7, AV.int IntKind.i64 (Int.ofNat i)), (19, AV.int IntKind.i64 n_1), (20, AV.slice (Pos.ofNat 0) 0 len cap true), (21, AV.int IntKind.i64 n_2), (22, AV.bool false)]) (mkH [some (HObj.cells cs 1 true), some b]) []) (fNat n fun len_1 => fNat n fun cap_1 => fInt (Int.ofNat i) fun n_3 => natOf n_3 (fun m => boolK (Nat.blt m len_1) (fNat (Nat.add 0 (Nat.mul m 1)) fun off => nthK cs off (fun v => eStr v (fun s => fNats s fun l => guardK ([AV.ptr (Pos.ofNat 1) 0, AV.str l] = [AV.ptr (Pos.ofNat 1) 0, AV.str x] ∧ mkH [some (HObj.cells cs 1 true), some b] = mkH [some (HObj.cells cs 1 true), some b]) (fInt (Int.ofNat i) fun n_4 => fInt (wrapK IntKind.i64 (Int.add n_4 (Int.ofNat 1))) fun n_5 => fInt n_5 fun n_6 => k AExit.normal (mkTm [(1, AV.slice (Pos.ofNat 0) 0 n n true), (5, AV.ptr (Pos.ofNat 1) 0), (7, AV.int IntKind.i64 n_6), (19, AV.int IntKind.i64 n_1), (20, AV.slice (Pos.ofNat 0) 0 len cap true), (21, AV.int IntKind.i64 n_2), (22, AV.bool true), (23, AV.int IntKind.i64 n_4), (24, AV.int IntKind.i64 n_5), (25, AV.ptr (Pos.ofNat 1) 0), (26, AV.slice (Pos.ofNat 0) 0 len_1 cap_1 true), (27, AV.int IntKind.i64 n_3), (28, AV.ptr (Pos.ofNat 0) off), (29, AV.str l), (30, AV.int IntKind.i64 (Int.ofNat 0)), (31, AV.bool false)]) (mkH [some (HObj.cells cs 1 true), some b', some r']) []) (Ans.err 0 0 0)) (Ans.err 5 4 9)) (Ans.err 5 4 9)) (Ans.err 5 3 26)) (Ans.err 5 3 26)) (ilt n_1 n_2) := by kernel_rfl

noncomputable def cL5 : Code := subC [1,1,1,0,1] c5

theorem fill (n : Nat) (b' r' : HObj) (cs : List AV) (k : AV → H → Ans) :
    bodyF Try.prog (execH Try.prog .leaf [⟨5, 0, exSub ⟨none, 5, 33⟩ cL5 (mkTm (tm5 n 0)) (mkH [some (.cells cs 1 true), some (bagE n)]) .normal (mkTm [(5, .ptr (.ofNat 1) 0)]) (mkH [some (.cells cs 1 true), some b', some r'])⟩] 1000) (Pos.ofNat 5) [] [] [.int .i64 (.ofNat n), .slice (.ofNat 0) 0 n n true] (mkH [some (.cells cs 1 true)]) k
    = fInt (Int.ofNat n) fun n_1 => fInt n_1 fun n_2 => brec (fInt n_1 fun n_3 => brec (fInt n_1 fun n_4 => guardK (Fx.mk none 5 33 = Fx.mk none 5 33 ∧ cL5 = cL5 ∧ Sub0 (mkTm (tm5 n 0)) (mkTm [(0, AV.int IntKind.i64 (Int.ofNat n)), (1, AV.slice (Pos.ofNat 0) 0 n n true), (4, AV.nilp), (5, AV.ptr (Pos.ofNat 1) 0), (6, AV.int IntKind.i64 (Int.ofNat 0)), (7, AV.int IntKind.i64 (Int.ofNat 0)), (8, AV.tup [AV.ptr (Pos.ofNat 1) 0, AV.int IntKind.i64 (Int.ofNat 0)]), (9, AV.int IntKind.i64 n_1), (10, AV.tup [AV.ptr (Pos.ofNat 1) 0, AV.int IntKind.i64 (Int.ofNat 0)]), (11, AV.ptr (Pos.ofNat 1) 0), (12, AV.int IntKind.i64 (Int.ofNat 0)), (13, AV.int IntKind.i64 (Int.ofNat 0)), (14, AV.bool false), (15, AV.bool false), (16, AV.ptr (Pos.ofNat 1) 0), (17, AV.bool false), (18, AV.bool false)]) ∧ mkH [some (HObj.cells cs 1 true), some (HObj.cells [AV.nils, AV.int IntKind.i64 (Int.ofNat 0), AV.int IntKind.i64 (Int.ofNat 0), AV.int IntKind.i64 n_4, AV.bool true] 5 false)] = mkH [some (HObj.cells cs 1 true), some (bagE n)] ∧ MkNil []) (k (AV.ptr (Pos.ofNat 1) 0) (mkH [some (HObj.cells cs 1 true), some b', some r'])) (Ans.err 0 0 0)) (k AV.nilp (mkH [some (HObj.cells cs 1 true)])) (ilt (Int.ofNat 2000) n_3)) (k AV.nilp (mkH [some (HObj.cells cs 1 true)])) (ilt n_2 (Int.ofNat 0)) := by kernel_rfl

noncomputable def hF (l : List (List Nat)) (m f k room : Nat) (row : List (List Nat)) : HL := [some (.cells (strs l) 1 true), some (bagA 2 m f k room), some (.cells (strs row) 1 false)]

noncomputable def hF3 (l : List (List Nat)) (m f k room : Nat) (row : List (List Nat)) : HL := [some (.cells (strs l) 1 true), some (bagA 3 m f k room), none, some (.cells (strs row) 1 false)]

/-- Put, beside the texts. -/
theorem put_in {l row row' : List (List Nat)} {f k f' room : Nat} {x : List Nat}
    (h : FunOK Try.prog 17 [.ptr .z 0, .str x] (mkH [some (bagO row.length f k room), some (.cells (strs row) 1 false)]) (.int .i64 (.ofNat 0)) (mkH [some (bagA 2 row'.length f' (k + 1) room), none, some (.cells (strs row') 1 false)])) :
    FunOK Try.prog 17 [.ptr (.ofNat 1) 0, .str x] (mkH (hF l row.length f k room row)) (.int .i64 (.ofNat 0)) (mkH (hF3 l row'.length f' (k + 1) room row')) := by
  have e := FunOK.frame (σ := seat [1, 2] 3) (A := mkH (hF l row.length f k room row)) h
    (Emb.of_list (L0 := [some (bagO row.length f k room), some (.cells (strs row) 1 false)]) (L1 := hF l row.length f k room row) (s := [1, 2]) rfl (.some rfl (by kernel_rfl) (.some rfl (row_ren _ _ _ _).symm .nil)) (by decide) (by show ∀ i ∈ [1, 2], i < 3; decide))
    (Glue.of_list (L0 := [some (bagO row.length f k room), some (.cells (strs row) 1 false)]) (L1 := hF l row.length f k room row) (F := [some (bagA 2 row'.length f' (k + 1) room), none, some (.cells (strs row') 1 false)]) (s := [1, 2]) rfl (by decide) (by show 2 ≤ 3; decide) (noRo.some (o := .cells (strs row') 1 false) rfl noRo.nil))
  have e2 : glueL (seat [1, 2] 3) [1, 2] [some (bagO row.length f k room), some (.cells (strs row) 1 false)] [some (bagA 2 row'.length f' (k + 1) room), none, some (.cells (strs row') 1 false)] (hF l row.length f k room row) = hF3 l row'.length f' (k + 1) room row' := by
    have e3 : glueL (seat [1, 2] 3) [1, 2] [some (bagO row.length f k room), some (.cells (strs row) 1 false)] [some (bagA 2 row'.length f' (k + 1) room), none, some (.cells (strs row') 1 false)] (hF l row.length f k room row) = [some (.cells (strs l) 1 true), some (bagA 3 row'.length f' (k + 1) room), none, some ((HObj.cells (strs row') 1 false).ren (seat [1, 2] 3))] := by kernel_rfl
    rw [e3, row_ren]; rfl
  rw [show (hF l row.length f k room row).length = 3 from rfl, e2] at e
  exact e

theorem next5 {n i : Nat} {b r b' r' : HObj} {o3 : Option HObj} {x : List Nat} {l : List (List Nat)} (hi : i < n) (hx : l[i]? = some x) (hn : n < 400000)
    (h : FunOK Try.prog 17 [.ptr (.ofNat 1) 0, .str x] (mkH [some (.cells (strs l) 1 true), some b, some r]) (.int .i64 (.ofNat 0)) (mkH [some (.cells (strs l) 1 true), some b', o3, some r'])) :
    ∃ tm1, CodeOK Try.prog ⟨none, 5, 33⟩ body5 (mkTm (tm5 n i)) (mkH [some (.cells (strs l) 1 true), some b, some r]) [] .normal tm1 (mkH [some (.cells (strs l) 1 true), some b', o3, some r']) [] ∧ LTm (tm5 n (i + 1)) tm1 := by
  refine ⟨mkTm [(1, AV.slice (Pos.ofNat 0) 0 n n true), (5, AV.ptr (Pos.ofNat 1) 0), (7, AV.int IntKind.i64 (.ofNat (i + 1))), (19, AV.int IntKind.i64 (.ofNat i)), (20, AV.slice (Pos.ofNat 0) 0 n n true), (21, AV.int IntKind.i64 (.ofNat n)), (22, AV.bool true), (23, AV.int IntKind.i64 (.ofNat i)), (24, AV.int IntKind.i64 (.ofNat (i + 1))), (25, AV.ptr (Pos.ofNat 1) 0), (26, AV.slice (Pos.ofNat 0) 0 n n true), (27, AV.int IntKind.i64 (.ofNat i)), (28, AV.ptr (Pos.ofNat 0) i), (29, AV.str x), (30, AV.int IntKind.i64 (Int.ofNat 0)), (31, AV.bool false)], ?_, .cons (by kernel_rfl) (.cons (by kernel_rfl) (.cons (by kernel_rfl) .nil))⟩
  refine CodeOK.of_runH hmix (OrOK.cons h.good .nil) .nil (N := 1000) fun k => ?_
  refine (rnd5 ..).trans ?_
  have e0 : Nat.add 0 (Nat.mul i 1) = i := by show 0 + i * 1 = i; omega
  simp only [fInt_eq, fNat_eq, fNats_eq, ilt_nat, blt_true hi, brec_true, natOf_of, boolK_true, e0, nthK_eq, strs_get, hx, Option.map_some, optK_some, eStr_str, wrap_add (show i + 1 < 9223372036854775808 by omega)]
  refine (guardK_pos (by simp) _ _).trans ?_
  rfl

theorem rnd5S (n i : Nat) (b r : HObj) (cs : List AV) (k : Kont) :
    execH Try.prog (mkO [(17, orcErr)]) [] 1000 ⟨none, 5, 33⟩ body5 (mkTm (tm5 n i)) (mkH [some (.cells cs 1 true), some b, some r]) [] k
    = fInt (Int.ofNat i) fun n_1 => fNat n fun len => fNat n fun cap => fInt (Int.ofNat len) fun n_2 => brec (k (AExit.exit 0) (mkTm [(1, AV.slice (Pos.ofNat 0) 0 n n true), (5, AV.ptr (Pos.ofNat 1) 0), (7, AV.int IntKind.i64 (Int.ofNat i)), (19, AV.int IntKind.i64 n_1), (20, AV.slice (Pos.ofNat 0) 0 len cap true), (21, AV.int IntKind.i64 n_2), (22, AV.bool false)]) (mkH [some (HObj.cells cs 1 true), some b, some r]) []) (fNat n fun len => fNat n fun cap => fInt (Int.ofNat i) fun n => natOf n (fun m => boolK (Nat.blt m len) (fNat (Nat.add 0 (Nat.mul m 1)) fun off => nthK cs off (fun v => eStr v (fun s => fNats s fun l => Ans.err 77 0 0) (Ans.err 5 4 9)) (Ans.err 5 4 9)) (Ans.err 5 3 26)) (Ans.err 5 3 26)) (ilt n_1 n_2) := by kernel_rfl

theorem stop5 {n : Nat} {b r : HObj} {l : List (List Nat)} :
    CodeOK Try.prog ⟨none, 5, 33⟩ body5 (mkTm (tm5 n n)) (mkH [some (.cells (strs l) 1 true), some b, some r]) [] (.exit 0) (mkTm ((22, .bool false) :: (21, .int .i64 (.ofNat n)) :: (20, .slice (.ofNat 0) 0 n n true) :: (19, .int .i64 (.ofNat n)) :: tm5 n n)) (mkH [some (.cells (strs l) 1 true), some b, some r]) [] := by
  refine CodeOK.of_runH hmix (O := mkO [(17, orcErr)]) (OrOK.cons good_err .nil) .nil (N := 1000) fun k => ?_
  refine (rnd5S ..).trans ?_
  simp only [fInt_eq, fNat_eq, ilt_nat, blt_false (Nat.le_refl n), brec_false]
  rfl

/-- From a bag of which something was put: the others are put behind it. -/
theorem loop5 {l : List (List Nat)} (hn : l.length < 190000) : ∀ (j i : Nat) (row : List (List Nat)) (f : Nat), l.length - i = j → i ≤ l.length → f < row.length → i ≤ row.length → row.length ≤ i + i + 1 → held row f i = l.take i →
    ∃ (row' : List (List Nat)) (f' : Nat), f' < row'.length ∧ l.length ≤ row'.length ∧ row'.length ≤ l.length + l.length + 1 ∧ held row' f' l.length = l ∧
      LoopOK Try.prog ⟨none, 5, 33⟩ body5 (mkTm (tm5 l.length i)) (mkH (hF l row.length f i l.length row)) (.exit 0) (mkTm [(5, .ptr (.ofNat 1) 0)]) (mkH (hF3 l row'.length f' l.length l.length row')) := by
  intro j
  induction j with
  | zero =>
    intro i row f hj hi hf hir hrl hh
    have : i = l.length := by omega
    subst this
    refine ⟨row, f, hf, hir, by omega, by rw [hh, List.take_length], ?_⟩
    refine LoopOK.sel (τ := seat [0, 1, 2, 2] 3) (LoopOK.stop (fun e => by cases e) (stop5 (n := l.length) (b := bagA 2 row.length f l.length l.length) (r := .cells (strs row) 1 false) (l := l))) ?_ ?_
    · refine Sel.of_listN (n := 3) (N := 3) (A1 := hF l row.length f l.length l.length row) (B := hF3 l row.length f l.length l.length row) (t := [0, 1, 2, 2]) rfl rfl ?_ (by show [0, 1, 2].Nodup; decide) ⟨rfl, rfl, rfl, trivial⟩
      exact .some rfl (row_ren _ _ _ _).symm (.some rfl (by kernel_rfl) (.none (.some rfl (row_ren _ _ _ _).symm .nil)))
    · exact SubT.of_list (.cons (by kernel_rfl) .nil)
  | succ j ih =>
    intro i row f hj hi hf hir hrl hh
    obtain ⟨x, hx⟩ : ∃ x, l[i]? = some x := ⟨l[i]'(by omega), List.getElem?_eq_getElem _⟩
    obtain ⟨row1, f1, h1, h2, h3, h4, h5⟩ := put_ok (x := x) (room := l.length) hf hir (show i < l.length by omega) (by omega)
    have hh1 : held row1 f1 (i + 1) = l.take (i + 1) := by
      rw [h4, hh, List.take_add_one, hx]; rfl
    obtain ⟨row', f', g1, g2, g3, g4, g5⟩ := ih (i + 1) row1 f1 (by omega) (by omega) h1 h2 (by omega) hh1
    obtain ⟨tm1, hc, ht⟩ := next5 (n := l.length) (b := bagA 2 row.length f i l.length) (r := .cells (strs row) 1 false) (b' := bagA 3 row1.length f1 (i + 1) l.length) (o3 := none) (r' := .cells (strs row1) 1 false) (show i < l.length by omega) hx (by omega) (put_in h5)
    refine ⟨row', f', g1, g2, g3, g4, ?_⟩
    refine LoopOK.sel (τ := seat [0, 1, 2, 4] 5) (.next hc (LoopOK.frame (σ := seat [0, 1, 3] 4) (A := mkH (hF3 l row1.length f1 (i + 1) l.length row1)) g5 rfl ?_ (SubT.of_list ?_)
      (Glue.of_list (L0 := hF l row1.length f1 (i + 1) l.length row1) (L1 := hF3 l row1.length f1 (i + 1) l.length row1) (F := hF3 l row'.length f' l.length l.length row') (s := [0, 1, 3]) rfl (by decide) (by show 3 ≤ 4; decide) (noRo.some (o := .cells (strs row') 1 false) rfl noRo.nil)))) ?_ ?_
    · refine Emb.of_list (L0 := hF l row1.length f1 (i + 1) l.length row1) (L1 := hF3 l row1.length f1 (i + 1) l.length row1) (s := [0, 1, 3]) rfl ?_ (by decide) (by show ∀ i ∈ [0, 1, 3], i < 4; decide)
      exact .some rfl (row_ren _ _ _ _).symm (.some rfl (by kernel_rfl) (.some rfl (row_ren _ _ _ _).symm .nil))
    · intro y hy
      rw [ht y hy]
      simp only [tm5, List.mem_cons, List.not_mem_nil, or_false] at hy
      rcases hy with rfl | rfl | rfl <;> kernel_rfl
    · refine Sel.of_listN (n := 3) (N := 5) (A1 := glueL (seat [0, 1, 3] 4) [0, 1, 3] (hF l row1.length f1 (i + 1) l.length row1) (hF3 l row'.length f' l.length l.length row') (hF3 l row1.length f1 (i + 1) l.length row1)) (B := hF3 l row'.length f' l.length l.length row') (t := [0, 1, 2, 4]) rfl rfl ?_ (by show [0, 1, 4].Nodup; decide) ⟨rfl, rfl, rfl, trivial⟩
      exact .some (o' := (HObj.cells (strs l) 1 true).ren (seat [0, 1, 3] 4)) (by kernel_rfl) ((row_ren _ _ _ _).trans (row_ren _ _ _ _).symm) (.some (o' := bagA 4 row'.length f' l.length l.length) (by kernel_rfl) (by kernel_rfl) (.none (.some (o' := (HObj.cells (strs row') 1 false).ren (seat [0, 1, 3] 4)) (by kernel_rfl) ((row_ren _ _ _ _).trans (row_ren _ _ _ _).symm) .nil)))
    · exact SubT.of_list (.cons (by kernel_rfl) .nil)

/-- The first one. -/
theorem putE_in {l : List (List Nat)} {room : Nat} {x : List Nat} (hroom : 0 < room) :
    FunOK Try.prog 17 [.ptr (.ofNat 1) 0, .str x] (mkH [some (.cells (strs l) 1 true), some (bagE room)]) (.int .i64 (.ofNat 0)) (mkH (hF l 1 0 1 room [x])) := by
  have e := FunOK.frame (σ := seat [1] 2) (A := mkH [some (.cells (strs l) 1 true), some (bagE room)]) (putE_ok (x := x) hroom)
    (Emb.of_list (L0 := [some (bagE room)]) (L1 := [some (.cells (strs l) 1 true), some (bagE room)]) (s := [1]) rfl (.some rfl (by kernel_rfl) .nil) (by decide) (by show ∀ i ∈ [1], i < 2; decide))
    (Glue.of_list (L0 := [some (bagE room)]) (L1 := [some (.cells (strs l) 1 true), some (bagE room)]) (F := [some (bagO 1 0 1 room), some (.cells (strs [x]) 1 false)]) (s := [1]) rfl (by decide) (by show 1 ≤ 2; decide) (noRo.some (o := .cells (strs [x]) 1 false) rfl noRo.nil))
  have e2 : glueL (seat [1] 2) [1] [some (bagE room)] [some (bagO 1 0 1 room), some (.cells (strs [x]) 1 false)] [some (.cells (strs l) 1 true), some (bagE room)] = hF l 1 0 1 room [x] := by kernel_rfl
  rw [show ([some (HObj.cells (strs l) 1 true), some (bagE room)] : HL).length = 2 from rfl, e2] at e
  exact e

theorem first5 {n : Nat} {x : List Nat} {l : List (List Nat)} (hi : 0 < n) (hx : l[0]? = some x) :
    ∃ tm1, CodeOK Try.prog ⟨none, 5, 33⟩ body5 (mkTm (tm5 n 0)) (mkH [some (.cells (strs l) 1 true), some (bagE n)]) [] .normal tm1 (mkH (hF l 1 0 1 n [x])) [] ∧ LTm (tm5 n 1) tm1 := by
  refine ⟨mkTm [(1, AV.slice (Pos.ofNat 0) 0 n n true), (5, AV.ptr (Pos.ofNat 1) 0), (7, AV.int IntKind.i64 (.ofNat 1)), (19, AV.int IntKind.i64 (.ofNat 0)), (20, AV.slice (Pos.ofNat 0) 0 n n true), (21, AV.int IntKind.i64 (.ofNat n)), (22, AV.bool true), (23, AV.int IntKind.i64 (.ofNat 0)), (24, AV.int IntKind.i64 (.ofNat 1)), (25, AV.ptr (Pos.ofNat 1) 0), (26, AV.slice (Pos.ofNat 0) 0 n n true), (27, AV.int IntKind.i64 (.ofNat 0)), (28, AV.ptr (Pos.ofNat 0) 0), (29, AV.str x), (30, AV.int IntKind.i64 (Int.ofNat 0)), (31, AV.bool false)], ?_, .cons (by kernel_rfl) (.cons (by kernel_rfl) (.cons (by kernel_rfl) .nil))⟩
  refine CodeOK.of_runH hmix (OrOK.cons (putE_in (l := l) (x := x) hi).good .nil) .nil (N := 1000) fun k => ?_
  refine (rnd5E n 0 (bagE n) (bagA 2 1 0 1 n) (.cells (strs [x]) 1 false) x (strs l) k).trans ?_
  have e0 : Nat.add 0 (Nat.mul 0 1) = 0 := rfl
  simp only [fInt_eq, fNat_eq, fNats_eq, ilt_nat, blt_true hi, brec_true, natOf_of, boolK_true, e0, nthK_eq, strs_get, hx, Option.map_some, optK_some, eStr_str, wrap_add (show 0 + 1 < 9223372036854775808 by omega)]
  refine (guardK_pos (by simp) _ _).trans ?_
  rfl

/-- 'filled': a bag that holds the texts, in their order, and has no room left. -/
theorem filled_ok {l : List (List Nat)} (h0 : 0 < l.length) (hn : l.length ≤ 2000) :
    ∃ (row : List (List Nat)) (f : Nat), f < row.length ∧ l.length ≤ row.length ∧ row.length ≤ l.length + l.length + 1 ∧ held row f l.length = l ∧
      FunOK Try.prog 5 [.int .i64 (.ofNat l.length), .slice (.ofNat 0) 0 l.length l.length true] (mkH [some (.cells (strs l) 1 true)]) (.ptr (.ofNat 1) 0) (mkH (hF l row.length f l.length l.length row)) := by
  obtain ⟨x, hx⟩ : ∃ x, l[0]? = some x := ⟨l[0], List.getElem?_eq_getElem _⟩
  obtain ⟨row, f, g1, g2, g3, g4, g5⟩ := loop5 (l := l) (by omega) (l.length - 1) 1 [x] 0 rfl h0 (by simp) (by simp) (by simp) (by
    cases l with
    | nil => simp at h0
    | cons a l => simp at hx; subst hx; simp [held])
  obtain ⟨tm1, hc, ht⟩ := first5 h0 hx
  refine ⟨row, f, g1, g2, g3, g4, ?_⟩
  have hL : LoopOK Try.prog ⟨none, 5, 33⟩ body5 (mkTm (tm5 l.length 0)) (mkH [some (.cells (strs l) 1 true), some (bagE l.length)]) (.exit 0) (mkTm [(5, .ptr (.ofNat 1) 0)]) (mkH (hF l row.length f l.length l.length row)) := by
    refine LoopOK.sel (τ := seat [0, 1, 3] 4) (.next hc (LoopOK.frame (σ := seat [0, 1, 2] 3) (A := mkH (hF l 1 0 1 l.length [x])) g5 rfl ?_ (SubT.of_list ?_)
      (Glue.of_list (L0 := hF l 1 0 1 l.length [x]) (L1 := hF l 1 0 1 l.length [x]) (F := hF3 l row.length f l.length l.length row) (s := [0, 1, 2]) rfl (by decide) (by show 3 ≤ 4; decide) (noRo.some (o := .cells (strs row) 1 false) rfl noRo.nil)))) ?_ ?_
    · refine Emb.of_list (L0 := hF l 1 0 1 l.length [x]) (L1 := hF l 1 0 1 l.length [x]) (s := [0, 1, 2]) rfl ?_ (by decide) (by show ∀ i ∈ [0, 1, 2], i < 3; decide)
      exact .some rfl (row_ren _ _ _ _).symm (.some rfl (by kernel_rfl) (.some rfl (row_ren _ _ _ _).symm .nil))
    · intro y hy
      rw [ht y hy]
      simp only [tm5, List.mem_cons, List.not_mem_nil, or_false] at hy
      rcases hy with rfl | rfl | rfl <;> kernel_rfl
    · refine Sel.of_listN (n := 2) (N := 4) (A1 := glueL (seat [0, 1, 2] 3) [0, 1, 2] (hF l 1 0 1 l.length [x]) (hF3 l row.length f l.length l.length row) (hF l 1 0 1 l.length [x])) (B := hF l row.length f l.length l.length row) (t := [0, 1, 3]) rfl rfl ?_ (by show [0, 1, 3].Nodup; decide) ⟨rfl, rfl, trivial⟩
      exact .some (o' := (HObj.cells (strs l) 1 true).ren (seat [0, 1, 2] 3)) (by kernel_rfl) ((row_ren _ _ _ _).trans (row_ren _ _ _ _).symm) (.some (o' := bagA 3 row.length f l.length l.length) (by kernel_rfl) (by kernel_rfl) (.some (o' := (HObj.cells (strs row) 1 false).ren (seat [0, 1, 2] 3)) (by kernel_rfl) ((row_ren _ _ _ _).trans (row_ren _ _ _ _).symm) .nil))
    · exact SubT.of_list (.cons (by kernel_rfl) .nil)
  have hB : CodeOK Try.prog ⟨none, 5, 33⟩ cL5 (mkTm (tm5 l.length 0)) (mkH [some (.cells (strs l) 1 true), some (bagE l.length)]) [] .normal (mkTm [(5, .ptr (.ofNat 1) 0)]) (mkH (hF l row.length f l.length l.length row)) [] := by
    rw [show cL5 = .block 0 (.loop body5) by kernel_rfl]
    exact .block hmix hL.code
  refine FunOK.of_runH hmix .leaf (HolesOK.one (f := 5) (id := 0) (exSub_ok hB)) (N := 1000) (f := 5) fun k => ?_
  refine (fill l.length (bagA 2 row.length f l.length l.length) (.cells (strs row) 1 false) (strs l) k).trans ?_
  simp only [fInt_eq, ilt_nat, blt_false (Nat.zero_le l.length), blt_false hn, brec_false]
  refine (guardK_pos ⟨by simp, by simp, Sub0.of_list (.cons (by kernel_rfl) (.cons (by kernel_rfl) (.cons (by kernel_rfl) .nil))), by kernel_rfl, rfl⟩ _ _).trans ?_
  rfl

end Bag

