import Derived.Test.YtchkegiebdhciaaBag5
import Derived.KernelRfl
set_option maxHeartbeats 0
set_option maxRecDepth 1000000
open Go Go.AM Go.Proofs
namespace Bag

theorem awake_run : runLawF Try.prog .leaf (Pos.ofNat 4) [] (mkH []) = .ok := by kernel_rfl

theorem awake_ok : FunOK Try.prog 4 [] (mkH []) (.bool true) (mkH []) := .of_closed hmix .leaf awake_run

theorem putFull (m first many room : Nat) (x : List Nat) (cs : List AV) (k : AV → H → Ans) :
    bodyF Try.prog (execH Try.prog (mkO [(19, orcErr)]) [] 1000) (Pos.ofNat 7) [] [] [.ptr .z 0, .str x] (mkH [some (bagO m first many room), some (.cells cs 1 false)]) k
    = fInt (Int.ofNat many) fun n => fInt n fun n => fInt (Int.ofNat room) fun n_1 => fInt n_1 fun n_2 => brec (Ans.err 77 0 0) (k (AV.int IntKind.i64 (Int.ofNat 8)) (mkH [some (HObj.cells [AV.slice (Pos.ofNat 1) 0 m m true, AV.int IntKind.i64 (Int.ofNat first), AV.int IntKind.i64 (Int.ofNat many), AV.int IntKind.i64 (Int.ofNat room), AV.bool true] 5 false), some (HObj.cells cs 1 false)])) !ilt n n_2 := by kernel_rfl

theorem put_full {first many room : Nat} {l : List (List Nat)} {x : List Nat} (h : room ≤ many) :
    FunOK Try.prog 7 [.ptr .z 0, .str x] (mkH [some (bagO l.length first many room), some (.cells (strs l) 1 false)]) (.int .i64 (.ofNat 8)) (mkH [some (bagO l.length first many room), some (.cells (strs l) 1 false)]) :=
  FunOK.of_runH hmix (O := mkO [(19, orcErr)]) (OrOK.cons good_err .nil) .nil (N := 1000) (f := 7) fun k => by
    refine (putFull l.length first many room x (strs l) k).trans ?_
    simp only [fInt_eq, ilt_nat, blt_false h, Bool.not_false, brec_true]
    rfl

theorem pick (x : Int) (n : Nat) (L : HL) (k : AV → H → Ans) :
    bodyF Try.prog (execH Try.prog .leaf [] 1000) (Pos.ofNat 6) [] [] [.int .i64 x, .int .i64 (.ofNat n)] (mkH L) k
    = fInt (Int.ofNat n) fun n_1 => brec (fInt x fun n_2 => fInt (Int.ofNat n) fun n_3 => boolK (ieq n_3 (Int.ofNat 0)) (Ans.err 6 2 14) (fInt (remW n_2 n_3) fun n_4 => fInt n_4 fun n_5 => fInt n_5 fun n_6 => brec (fInt n_5 fun n => fInt n fun n => k (AV.int IntKind.i64 n) (H.mk (Pos.ofNat (List.length L)) (mkT L (Pos.ofNat 0) PT.leaf) 0 true)) (fInt n_5 fun n_7 => fInt (Int.ofNat n) fun n => fInt (wrapK IntKind.i64 (Int.add n_7 n)) fun n => fInt n fun n => fInt n fun n => fInt n fun n => k (AV.int IntKind.i64 n) (H.mk (Pos.ofNat (List.length L)) (mkT L (Pos.ofNat 0) PT.leaf) 0 true)) (ilt n_6 (Int.ofNat 0)))) (k (AV.int IntKind.i64 (Int.ofNat 0)) (H.mk (Pos.ofNat (List.length L)) (mkT L (Pos.ofNat 0) PT.leaf) 0 true)) (ilt n_1 (Int.ofNat 1)) := by kernel_rfl

theorem mkH_mk (L : HL) : H.mk (Pos.ofNat (List.length L)) (mkT L (Pos.ofNat 0) PT.leaf) 0 true = mkH L := rfl

theorem pick_ok {x : Int} {n : Nat} (hn : 0 < n) (hb : n < 4000000) : ∃ w, w < n ∧ ∀ L : HL, FunOK Try.prog 6 [.int .i64 x, .int .i64 (.ofNat n)] (mkH L) (.int .i64 (.ofNat w)) (mkH L) := by
  cases x with
  | ofNat a =>
    refine ⟨a % n, Nat.mod_lt _ hn, fun L => FunOK.of_runH hmix .leaf .nil (N := 1000) (f := 6) fun k => ?_⟩
    refine (pick (.ofNat a) n L k).trans ?_
    simp only [fInt_eq, ilt_nat, blt_false (show 1 ≤ n by omega), brec_false, ieq_nat, beq_false (show n ≠ 0 by omega), boolK_false, remW_nat, blt_false (Nat.zero_le (a % n)), mkH_mk]
  | negSucc a =>
    have hr : remW (.negSucc a) (.ofNat n) = Int.negOfNat ((a + 1) % n) := rfl
    cases h : (a + 1) % n with
    | zero =>
      refine ⟨0, hn, fun L => FunOK.of_runH hmix .leaf .nil (N := 1000) (f := 6) fun k => ?_⟩
      refine (pick (.negSucc a) n L k).trans ?_
      have hr0 : remW (.negSucc a) (.ofNat n) = .ofNat 0 := by rw [hr, h]; rfl
      simp only [fInt_eq, ilt_nat, blt_false (show 1 ≤ n by omega), brec_false, ieq_nat, beq_false (show n ≠ 0 by omega), boolK_false, hr0, blt_false (Nat.le_refl 0), mkH_mk]
    | succ r =>
      have hlt : r + 1 < n := by rw [← h]; exact Nat.mod_lt _ hn
      have hr1 : remW (.negSucc a) (.ofNat n) = .negSucc r := by rw [hr, h]; rfl
      have hadd : Int.add (.negSucc r) (.ofNat n) = .ofNat (n - (r + 1)) := by
        show (Int.negSucc r) + ((n : Nat) : Int) = ((n - (r + 1) : Nat) : Int); omega
      refine ⟨n - (r + 1), by omega, fun L => FunOK.of_runH hmix .leaf .nil (N := 1000) (f := 6) fun k => ?_⟩
      refine (pick (.negSucc a) n L k).trans ?_
      simp only [fInt_eq, ilt_nat, blt_false (show 1 ≤ n by omega), brec_false, ieq_nat, beq_false (show n ≠ 0 by omega), boolK_false, hr1, show ilt (Int.negSucc r) (Int.ofNat 0) = true from rfl, brec_true, hadd, wrap_nat (show n - (r + 1) < 9223372036854775808 by omega), mkH_mk]

/-- A method of the bag's, beside the texts: the bag at 1, its ring at 2; behind it at 3. -/
theorem bag_in {g : Nat} {args : List AV} {v : AV} {l row row' : List (List Nat)} {f k f' k' room : Nat}
    (h : FunOK Try.prog g (.ptr .z 0 :: args) (mkH [some (bagO row.length f k room), some (.cells (strs row) 1 false)]) v (mkH [some (bagA 2 row'.length f' k' room), none, some (.cells (strs row') 1 false)]))
    (ha : AV.rens (seat [1, 2] 3) args = args) (hv : v.ren (seat [1, 2] 3) = v) :
    FunOK Try.prog g (.ptr (.ofNat 1) 0 :: args) (mkH (hF l row.length f k room row)) v (mkH (hF3 l row'.length f' k' room row')) := by
  have e := FunOK.frame (σ := seat [1, 2] 3) (A := mkH (hF l row.length f k room row)) h
    (Emb.of_list (L0 := [some (bagO row.length f k room), some (.cells (strs row) 1 false)]) (L1 := hF l row.length f k room row) (s := [1, 2]) rfl (.some rfl (by kernel_rfl) (.some rfl (row_ren _ _ _ _).symm .nil)) (by decide) (by show ∀ i ∈ [1, 2], i < 3; decide))
    (Glue.of_list (L0 := [some (bagO row.length f k room), some (.cells (strs row) 1 false)]) (L1 := hF l row.length f k room row) (F := [some (bagA 2 row'.length f' k' room), none, some (.cells (strs row') 1 false)]) (s := [1, 2]) rfl (by decide) (by show 2 ≤ 3; decide) (noRo.some (o := .cells (strs row') 1 false) rfl noRo.nil))
  have e2 : glueL (seat [1, 2] 3) [1, 2] [some (bagO row.length f k room), some (.cells (strs row) 1 false)] [some (bagA 2 row'.length f' k' room), none, some (.cells (strs row') 1 false)] (hF l row.length f k room row) = hF3 l row'.length f' k' room row' := by
    have e3 : glueL (seat [1, 2] 3) [1, 2] [some (bagO row.length f k room), some (.cells (strs row) 1 false)] [some (bagA 2 row'.length f' k' room), none, some (.cells (strs row') 1 false)] (hF l row.length f k room row) = [some (.cells (strs l) 1 true), some (bagA 3 row'.length f' k' room), none, some ((HObj.cells (strs row') 1 false).ren (seat [1, 2] 3))] := by kernel_rfl
    rw [e3, row_ren]; rfl
  rw [show (hF l row.length f k room row).length = 3 from rfl, e2, hv] at e
  have e4 : AV.rens (seat [1, 2] 3) (.ptr .z 0 :: args) = .ptr (.ofNat 1) 0 :: args := by
    show AV.ren (seat [1, 2] 3) (.ptr .z 0) :: AV.rens (seat [1, 2] 3) args = _
    rw [ha]; rfl
  rw [e4] at e
  exact e

/-- What is refused leaves all as it was. -/
theorem full_in {l row : List (List Nat)} {f k room : Nat} {x : List Nat} (h : room ≤ k) :
    FunOK Try.prog 7 [.ptr (.ofNat 1) 0, .str x] (mkH (hF l row.length f k room row)) (.int .i64 (.ofNat 8)) (mkH (hF l row.length f k room row)) := by
  have e := FunOK.frame (σ := seat [1, 2] 3) (A := mkH (hF l row.length f k room row)) (put_full (l := row) (first := f) (x := x) h)
    (Emb.of_list (L0 := [some (bagO row.length f k room), some (.cells (strs row) 1 false)]) (L1 := hF l row.length f k room row) (s := [1, 2]) rfl (.some rfl (by kernel_rfl) (.some rfl (row_ren _ _ _ _).symm .nil)) (by decide) (by show ∀ i ∈ [1, 2], i < 3; decide))
    (Glue.of_list (L0 := [some (bagO row.length f k room), some (.cells (strs row) 1 false)]) (L1 := hF l row.length f k room row) (F := [some (bagO row.length f k room), some (.cells (strs row) 1 false)]) (s := [1, 2]) rfl (by decide) (by show 2 ≤ 2; decide) noRo.nil)
  have e2 : glueL (seat [1, 2] 3) [1, 2] [some (bagO row.length f k room), some (.cells (strs row) 1 false)] [some (bagO row.length f k room), some (.cells (strs row) 1 false)] (hF l row.length f k room row) = hF l row.length f k room row := by
    have e3 : glueL (seat [1, 2] 3) [1, 2] [some (bagO row.length f k room), some (.cells (strs row) 1 false)] [some (bagO row.length f k room), some (.cells (strs row) 1 false)] (hF l row.length f k room row) = [some (.cells (strs l) 1 true), some (bagA 2 row.length f k room), some ((HObj.cells (strs row) 1 false).ren (seat [1, 2] 3))] := by kernel_rfl
    rw [e3, row_ren]; rfl
  rw [show (hF l row.length f k room row).length = 3 from rfl, e2] at e
  exact e

end Bag

