import Derived.Test.YtdkbkhfmnajjiaaBag1
import Derived.Test.YtdkbkhfmnajjiaaAmOrc2
import Derived.KernelRfl
set_option maxHeartbeats 0
set_option maxRecDepth 1000000
set_option linter.unusedSimpArgs false
set_option linter.unusedVariables false
open Go Go.AM Go.Proofs
namespace Bag

theorem put (m first many room q : Nat) (x : List Nat) (cs rows : List AV) (k : AV → H → Ans) :
    bodyF Try.prog (execH Try.prog (mkO [(8, orcAt [.ptr .z 0] (mkH [some (bagO m first many room), some (.cells cs 1 false)]) (.slice (.ofNat 2) 0 q q true) (mkH [some (bagO m first many room), some (.cells cs 1 false), some (.cells rows 1 false)]))]) [] 1000) (Pos.ofNat 17) [] [] [.ptr .z 0, .str x] (mkH [some (bagO m first many room), some (.cells cs 1 false)]) k
    = fInt (Int.ofNat many) fun n => fInt n fun n => fInt (Int.ofNat room) fun n_1 => fInt n_1 fun n_2 => brec (fInt (Int.ofNat many) fun n => fInt n fun n => fNat m fun len => fNat m fun cap => fNat len fun len => fNat cap fun cap => fInt (Int.ofNat len) fun n_3 => brec (guardK ([AV.ptr (Pos.ofNat 0) 0] = [AV.ptr Pos.z 0] ∧ mkH [some (HObj.cells [AV.slice (Pos.ofNat 1) 0 m m true, AV.int IntKind.i64 (Int.ofNat first), AV.int IntKind.i64 (Int.ofNat many), AV.int IntKind.i64 (Int.ofNat room), AV.bool true] 5 false), some (HObj.cells cs 1 false)] = mkH [some (bagO m first many room), some (HObj.cells cs 1 false)]) (fNat q fun len => fNat q fun cap => fNat len fun len => fNat cap fun cap => fNat len fun len_1 => fNat cap fun cap_1 => fNat len fun len => fNat cap fun cap => fInt (Int.ofNat len) fun n => fInt (wrapK IntKind.i64 (Int.add n (Int.ofNat 1))) fun n => natOf n (fun n => boolK (Nat.blt n 1073741824) (boolK (roomy n 16) (boolK (Nat.ble (Nat.add len_1 n) cap_1) (boolK (Nat.beq (Nat.mul n 1) 0) (fNat (Nat.add len_1 n) fun len => fNat cap_1 fun cap => fNat len fun len_2 => fNat cap fun cap_2 => fNat len_2 fun len_3 => fNat cap_2 fun cap_3 => fInt (Int.ofNat many) fun n => fInt n fun n => fInt (wrapK IntKind.i64 (Int.add (Int.ofNat 0) n)) fun n => fNat len fun len_4 => fNat cap fun cap_4 => fNat len_4 fun len_5 => fNat cap_4 fun cap_5 => fInt (Int.ofNat len_5) fun n_4 => boolK (ieq n_4 (Int.ofNat 0)) (Ans.err 17 18 3015) (fInt (remW n n_4) fun n => fNats x fun l => natOf n (fun m => boolK (Nat.blt m len_3) (fNat (Nat.add 0 (Nat.mul m 1)) fun off => set1K rows off (AV.str l) (fun cs_1 => fInt (Int.ofNat many) fun n => fInt (wrapK IntKind.i64 (Int.add n (Int.ofNat 1))) fun n => k (AV.int IntKind.i64 (Int.ofNat 0)) (mkH [some (HObj.cells [AV.slice (Pos.ofNat 2) 0 len cap true, AV.int IntKind.i64 (Int.ofNat 0), AV.int IntKind.i64 n, AV.int IntKind.i64 (Int.ofNat room), AV.bool true] 5 false), some (HObj.cells cs 1 false), some (HObj.cells cs_1 1 false)])) (Ans.err 2 0 0)) (Ans.err 17 20 3027)) (Ans.err 17 20 3027))) (boolK (onesF (List.flatten (List.replicate n [AV.str []]))) (setsB (Nat.add 0 (Nat.mul len_1 1)) (List.flatten (List.replicate n [AV.str []])) rows (fun cs_1 => fNat (Nat.add len_1 n) fun len => fNat cap_1 fun cap => fNat len fun len_2 => fNat cap fun cap_2 => fNat len_2 fun len_3 => fNat cap_2 fun cap_3 => fInt (Int.ofNat many) fun n => fInt n fun n => fInt (wrapK IntKind.i64 (Int.add (Int.ofNat 0) n)) fun n => fNat len fun len_4 => fNat cap fun cap_4 => fNat len_4 fun len_5 => fNat cap_4 fun cap_5 => fInt (Int.ofNat len_5) fun n_4 => boolK (ieq n_4 (Int.ofNat 0)) (Ans.err 17 18 3015) (fInt (remW n n_4) fun n => fNats x fun l => natOf n (fun m => boolK (Nat.blt m len_3) (fNat (Nat.add 0 (Nat.mul m 1)) fun off => set1K cs_1 off (AV.str l) (fun cs_2 => fInt (Int.ofNat many) fun n => fInt (wrapK IntKind.i64 (Int.add n (Int.ofNat 1))) fun n => k (AV.int IntKind.i64 (Int.ofNat 0)) (mkH [some (HObj.cells [AV.slice (Pos.ofNat 2) 0 len cap true, AV.int IntKind.i64 (Int.ofNat 0), AV.int IntKind.i64 n, AV.int IntKind.i64 (Int.ofNat room), AV.bool true] 5 false), some (HObj.cells cs 1 false), some (HObj.cells cs_2 1 false)])) (Ans.err 2 0 0)) (Ans.err 17 20 3027)) (Ans.err 17 20 3027))) (Ans.err 1 1 0)) (Ans.err 1 1 0))) (boolK (roomy (Nat.add len_1 n) 16) (segK 0 rows (Nat.mul len_1 1) (fun old => appK old (List.flatten (List.replicate n (Prod.snd (Prod.snd ((fun x => TypeInfo.size x) (Tables.types (Program.toTables Try.prog))[9], (fun x => TypeInfo.bytes x) (Tables.types (Program.toTables Try.prog))[9], AV.cells (AV.str (bytesOf (ByteArray.mk #[])))))))) fun both => boolK (true && (Nat.beq (Nat.add 0 (Nat.mul cap_1 1)) (List.length rows) && (true && onesF (List.flatten (List.replicate n [AV.str []]))))) (fNat (Nat.add len_1 n) fun len => fNat (Nat.add len_1 n) fun cap => fNat len fun len_2 => fNat cap fun cap_2 => fNat len_2 fun len_3 => fNat cap_2 fun cap_3 => fInt (Int.ofNat many) fun n => fInt n fun n => fInt (wrapK IntKind.i64 (Int.add (Int.ofNat 0) n)) fun n => fNat len fun len_4 => fNat cap fun cap_4 => fNat len_4 fun len_5 => fNat cap_4 fun cap_5 => fInt (Int.ofNat len_5) fun n_4 => boolK (ieq n_4 (Int.ofNat 0)) (Ans.err 17 18 3015) (fInt (remW n n_4) fun n => fNats x fun l => natOf n (fun m => boolK (Nat.blt m len_3) (fNat (Nat.add 0 (Nat.mul m 1)) fun off => set1K both off (AV.str l) (fun cs_1 => fInt (Int.ofNat many) fun n => fInt (wrapK IntKind.i64 (Int.add n (Int.ofNat 1))) fun n => k (AV.int IntKind.i64 (Int.ofNat 0)) (mkH [some (HObj.cells [AV.slice (Pos.ofNat 3) 0 len cap true, AV.int IntKind.i64 (Int.ofNat 0), AV.int IntKind.i64 n, AV.int IntKind.i64 (Int.ofNat room), AV.bool true] 5 false), some (HObj.cells cs 1 false), none, some (HObj.cells cs_1 1 false)])) (Ans.err 2 0 0)) (Ans.err 17 20 3027)) (Ans.err 17 20 3027))) (Ans.err 1 4 0)) (Ans.err 1 3 0)) (Ans.err 1 6 0))) (Ans.err 3 0 0)) (Ans.err 3 0 0)) (Ans.err 3 1 0)) (Ans.err 0 0 0)) (fNat m fun len => fNat m fun cap => fNat len fun len => fNat cap fun cap => fInt (Int.ofNat first) fun n => fInt n fun n => fInt (Int.ofNat many) fun n_4 => fInt n_4 fun n_5 => fInt (wrapK IntKind.i64 (Int.add n n_5)) fun n => fNat m fun len_1 => fNat m fun cap => fNat len_1 fun len_2 => fNat cap fun cap => fInt (Int.ofNat len_2) fun n_6 => boolK (ieq n_6 (Int.ofNat 0)) (Ans.err 17 18 3015) (fInt (remW n n_6) fun n => fNats x fun l => natOf n (fun m_1 => boolK (Nat.blt m_1 len) (fNat (Nat.add 0 (Nat.mul m_1 1)) fun off => set1K cs off (AV.str l) (fun cs => fInt (Int.ofNat many) fun n => fInt (wrapK IntKind.i64 (Int.add n (Int.ofNat 1))) fun n => k (AV.int IntKind.i64 (Int.ofNat 0)) (mkH [some (HObj.cells [AV.slice (Pos.ofNat 1) 0 m m true, AV.int IntKind.i64 (Int.ofNat first), AV.int IntKind.i64 n, AV.int IntKind.i64 (Int.ofNat room), AV.bool true] 5 false), some (HObj.cells cs 1 false)])) (Ans.err 2 0 0)) (Ans.err 17 20 3027)) (Ans.err 17 20 3027))) (ilt n n_3)) (k (AV.int IntKind.i64 (Int.ofNat 8)) (mkH [some (HObj.cells [AV.slice (Pos.ofNat 1) 0 m m true, AV.int IntKind.i64 (Int.ofNat first), AV.int IntKind.i64 (Int.ofNat many), AV.int IntKind.i64 (Int.ofNat room), AV.bool true] 5 false), some (HObj.cells cs 1 false)])) !ilt n n_2 := by kernel_rfl

theorem put1 (m first many room : Nat) (x : List Nat) (cs : List AV) (k : AV → H → Ans) :
    bodyF Try.prog (execH Try.prog (mkO [(8, orcErr)]) [] 1000) (Pos.ofNat 17) [] [] [.ptr .z 0, .str x] (mkH [some (bagO m first many room), some (.cells cs 1 false)]) k
    = fInt (Int.ofNat many) fun n => fInt n fun n => fInt (Int.ofNat room) fun n_1 => fInt n_1 fun n_2 => brec (fInt (Int.ofNat many) fun n => fInt n fun n => fNat m fun len => fNat m fun cap => fNat len fun len => fNat cap fun cap => fInt (Int.ofNat len) fun n_3 => brec (Ans.err 77 0 0) (fNat m fun len => fNat m fun cap => fNat len fun len => fNat cap fun cap => fInt (Int.ofNat first) fun n => fInt n fun n => fInt (Int.ofNat many) fun n_4 => fInt n_4 fun n_5 => fInt (wrapK IntKind.i64 (Int.add n n_5)) fun n => fNat m fun len_1 => fNat m fun cap => fNat len_1 fun len_2 => fNat cap fun cap => fInt (Int.ofNat len_2) fun n_6 => boolK (ieq n_6 (Int.ofNat 0)) (Ans.err 17 18 3015) (fInt (remW n n_6) fun n => fNats x fun l => natOf n (fun m_1 => boolK (Nat.blt m_1 len) (fNat (Nat.add 0 (Nat.mul m_1 1)) fun off => set1K cs off (AV.str l) (fun cs => fInt (Int.ofNat many) fun n => fInt (wrapK IntKind.i64 (Int.add n (Int.ofNat 1))) fun n => k (AV.int IntKind.i64 (Int.ofNat 0)) (mkH [some (HObj.cells [AV.slice (Pos.ofNat 1) 0 m m true, AV.int IntKind.i64 (Int.ofNat first), AV.int IntKind.i64 n, AV.int IntKind.i64 (Int.ofNat room), AV.bool true] 5 false), some (HObj.cells cs 1 false)])) (Ans.err 2 0 0)) (Ans.err 17 20 3027)) (Ans.err 17 20 3027))) (ilt n n_3)) (k (AV.int IntKind.i64 (Int.ofNat 8)) (mkH [some (HObj.cells [AV.slice (Pos.ofNat 1) 0 m m true, AV.int IntKind.i64 (Int.ofNat first), AV.int IntKind.i64 (Int.ofNat many), AV.int IntKind.i64 (Int.ofNat room), AV.bool true] 5 false), some (HObj.cells cs 1 false)])) !ilt n n_2 := by kernel_rfl

theorem putE (room : Nat) (x : List Nat) (k : AV → H → Ans) :
    bodyF Try.prog (execH Try.prog (mkO [(8, orcAt [.ptr .z 0] (mkH [some (bagE room)]) .nils (mkH [some (bagE room)]))]) [] 1000) (Pos.ofNat 17) [] [] [.ptr .z 0, .str x] (mkH [some (bagE room)]) k
    = fInt (Int.ofNat room) fun n => fInt n fun n => brec (guardK ([AV.ptr (Pos.ofNat 0) 0] = [AV.ptr Pos.z 0] ∧ mkH [some (HObj.cells [AV.nils, AV.int IntKind.i64 (Int.ofNat 0), AV.int IntKind.i64 (Int.ofNat 0), AV.int IntKind.i64 (Int.ofNat room), AV.bool true] 5 false)] = mkH [some (bagE room)]) (fNats x fun l => k (AV.int IntKind.i64 (Int.ofNat 0)) (mkH [some (HObj.cells [AV.slice (Pos.ofNat 1) 0 1 1 true, AV.int IntKind.i64 (Int.ofNat 0), AV.int IntKind.i64 (Int.ofNat 1), AV.int IntKind.i64 (Int.ofNat room), AV.bool true] 5 false), some (HObj.cells [AV.str l] 1 false)])) (Ans.err 0 0 0)) (k (AV.int IntKind.i64 (Int.ofNat 8)) (mkH [some (HObj.cells [AV.nils, AV.int IntKind.i64 (Int.ofNat 0), AV.int IntKind.i64 (Int.ofNat 0), AV.int IntKind.i64 (Int.ofNat room), AV.bool true] 5 false)])) !ilt (Int.ofNat 0) n := by kernel_rfl

theorem remW_nat (a b : Nat) : remW (.ofNat a) (.ofNat b) = .ofNat (a % b) := rfl

theorem strs_set (l : List (List Nat)) (i : Nat) (x : List Nat) : (strs l).set i (.str x) = strs (l.set i x) := by simp [strs, List.map_set]

/-- A bag of texts whose ring lies at another place. -/
noncomputable def bagA (p m first many room : Nat) : HObj := .cells [.slice (.ofNat p) 0 m m true, .int .i64 (.ofNat first), .int .i64 (.ofNat many), .int .i64 (.ofNat room), .bool true] 5 false

theorem put_fits {m first many room : Nat} {l : List (List Nat)} {x : List Nat} (hm : l.length = m) (hf : first < m) (hmany : many < m) (hroom : many < room) (hb : m < 400000) :
    FunOK Try.prog 17 [.ptr .z 0, .str x] (mkH [some (bagO m first many room), some (.cells (strs l) 1 false)]) (.int .i64 (.ofNat 0)) (mkH [some (bagA 2 m first (many + 1) room), none, some (.cells (strs (l.set ((first + many) % m) x)) 1 false)]) := by
  subst hm
  have hO : OrOK Try.prog (mkO [(8, orcErr)]) := .cons good_err .nil
  have hlt : (first + many) % l.length < l.length := Nat.mod_lt _ (by omega)
  have e0 : Nat.add 0 (Nat.mul ((first + many) % l.length) 1) = (first + many) % l.length := by show 0 + (first + many) % l.length * 1 = _; omega
  have R := FunOK.of_runH (P := Try.prog) hmix (O := mkO [(8, orcErr)]) hO .nil (N := 1000) (f := 17) (args := [.ptr .z 0, .str x]) (A := mkH [some (bagO l.length first many room), some (.cells (strs l) 1 false)]) (v := .int .i64 (.ofNat 0)) (A' := mkH [some (bagO l.length first (many + 1) room), some (.cells (strs (l.set ((first + many) % l.length) x)) 1 false)]) fun k => by
    refine (put1 ..).trans ?_
    simp only [fInt_eq, fNat_eq, fNats_eq, ilt_nat, blt_true hroom, blt_true hmany, Bool.not_true, Bool.not_false, brec_true, brec_false, wrap_add (show first + many < 9223372036854775808 by omega), ieq_nat, beq_false (show l.length ≠ 0 by omega), boolK_false, remW_nat, natOf_of, blt_true hlt, boolK_true, e0, set1K_eq, strs_len, if_pos hlt, strs_set, wrap_add (show many + 1 < 9223372036854775808 by omega)]
    rfl
  refine FunOK.sel (τ := seat [0, 1, 1] 2) R ?_ (by kernel_rfl)
  refine Sel.of_listN (n := 2) (N := 2) (B := [some (bagA 2 l.length first (many + 1) room), none, some (.cells (strs (l.set ((first + many) % l.length) x)) 1 false)]) (t := [0, 1, 1]) rfl rfl ?_ (by show [0, 1].Nodup; decide) ⟨rfl, rfl, trivial⟩
  exact .some rfl (by kernel_rfl) (.none (.some rfl (row_ren _ _ _ _).symm .nil))

theorem rep_strs (n : Nat) : (List.replicate n [AV.str []]).flatten = strs (List.replicate n []) := by
  induction n with
  | zero => rfl
  | succ n ih => rw [List.replicate_succ, List.flatten_cons, ih]; rfl

theorem put_grow {m first room : Nat} {l : List (List Nat)} {x : List Nat} (hm : l.length = m) (hf : first < m) (hroom : m < room) (hb : m < 400000) :
    FunOK Try.prog 17 [.ptr .z 0, .str x] (mkH [some (bagO m first m room), some (.cells (strs l) 1 false)]) (.int .i64 (.ofNat 0)) (mkH [some (bagA 2 (m + (m + 1)) 0 (m + 1) room), none, some (.cells (strs ((held l first m ++ List.replicate (m + 1) []).set m x)) 1 false)]) := by
  subst hm
  have hall := allC_ok (room := room) rfl hf (Nat.le_refl _) (by omega) hb
  have hO : OrOK Try.prog (mkO [(8, orcAt [.ptr .z 0] (mkH [some (bagO l.length first l.length room), some (.cells (strs l) 1 false)]) (.slice (.ofNat 2) 0 l.length l.length true) (mkH [some (bagO l.length first l.length room), some (.cells (strs l) 1 false), some (.cells (strs (held l first l.length)) 1 false)]))]) := .cons hall.good .nil
  have hlen : (held l first l.length).length = l.length := by unfold held; simp
  have hlt : l.length < l.length + (l.length + 1) := by omega
  have R := FunOK.of_runH (P := Try.prog) hmix hO .nil (N := 1000) (f := 17) (args := [.ptr .z 0, .str x]) (A := mkH [some (bagO l.length first l.length room), some (.cells (strs l) 1 false)]) (v := .int .i64 (.ofNat 0)) (A' := mkH [some (bagA 3 (l.length + (l.length + 1)) 0 (l.length + 1) room), some (.cells (strs l) 1 false), none, some (.cells (strs ((held l first l.length ++ List.replicate (l.length + 1) []).set l.length x)) 1 false)]) fun k => by
    refine (put ..).trans ?_
    simp only [fInt_eq, fNat_eq, fNats_eq, ilt_nat, blt_true hroom, blt_false (Nat.le_refl l.length), Bool.not_true, brec_true, brec_false]
    refine (guardK_pos ⟨rfl, by kernel_rfl⟩ _ _).trans ?_
    simp only [wrap_add (show l.length + 1 < 9223372036854775808 by omega), natOf_of, blt_true (show l.length + 1 < 1073741824 by omega), boolK_true, roomy_true (show (l.length + 1) * 16 ≤ 140737488355328 by omega) (show l.length + 1 ≤ 4611686018427387904 by omega), show Nat.add l.length (l.length + 1) = l.length + (l.length + 1) from rfl, ble_false hlt, boolK_false, roomy_true (show (l.length + (l.length + 1)) * 16 ≤ 140737488355328 by omega) (show l.length + (l.length + 1) ≤ 4611686018427387904 by omega), segK_eq, strs_len, hlen, appK_eq]
    have e0 : ∀ n, Nat.add 0 (Nat.mul n 1) = n := fun n => by show 0 + n * 1 = n; omega
    have e1 : (List.replicate (l.length + 1) (AV.str (bytesOf ⟨#[]⟩)).cells).flatten = strs (List.replicate (l.length + 1) []) := rep_strs _
    have e2 : List.take (Nat.mul l.length 1) (List.drop 0 (strs (held l first l.length))) = strs (held l first l.length) := by
      rw [List.drop_zero]; exact List.take_of_length_le (by rw [strs_len, hlen]; show l.length ≤ l.length * 1; omega)
    rw [if_pos (show 0 + Nat.mul l.length 1 ≤ l.length by show 0 + l.length * 1 ≤ l.length; omega), e0, rep_strs, strs_ones, beq_true rfl, e1, e2, strs_app]
    have e3 : wrapK .i64 (Int.add (Int.ofNat 0) (Int.ofNat l.length)) = .ofNat l.length := by rw [wrap_add (by omega), Nat.zero_add]
    simp only [Bool.and_self, boolK_true, ieq_nat, beq_false (show l.length + (l.length + 1) ≠ 0 by omega), boolK_false, e3, remW_nat, Nat.mod_eq_of_lt hlt, natOf_of, blt_true hlt, e0, set1K_eq, strs_len, List.length_append, hlen, List.length_replicate, if_pos hlt, strs_set, wrap_add (show l.length + 1 < 9223372036854775808 by omega)]
    rfl
  refine FunOK.sel (τ := seat [0, 1, 3] 4) R ?_ (by kernel_rfl)
  refine Sel.of_listN (n := 2) (N := 4) (A1 := [some (bagA 3 (l.length + (l.length + 1)) 0 (l.length + 1) room), some (.cells (strs l) 1 false), none, some (.cells (strs ((held l first l.length ++ List.replicate (l.length + 1) []).set l.length x)) 1 false)]) (B := [some (bagA 2 (l.length + (l.length + 1)) 0 (l.length + 1) room), none, some (.cells (strs ((held l first l.length ++ List.replicate (l.length + 1) []).set l.length x)) 1 false)]) (t := [0, 1, 3]) rfl rfl ?_ (by show [0, 3].Nodup; decide) ⟨rfl, rfl, trivial⟩
  exact .some rfl (by kernel_rfl) (.none (.some rfl (row_ren _ _ _ _).symm .nil))

theorem mod_lt2 {m a : Nat} (h : a < m + m) (hm : 0 < m) : a % m = if a < m then a else a - m := by
  split
  · rename_i h1; exact Nat.mod_eq_of_lt h1
  · rename_i h1; rw [Nat.mod_eq_sub_mod (by omega), Nat.mod_eq_of_lt (by omega)]

theorem held_len {l : List (List Nat)} {first many : Nat} (hm : many ≤ l.length) : (held l first many).length = many := by unfold held; simp; omega

theorem held_get {l : List (List Nat)} {first many i : Nat} (hf : first < l.length) (hm : many ≤ l.length) (hi : i < many) : (held l first many)[i]? = l[(first + i) % l.length]? := by
  unfold held
  rw [List.getElem?_take_of_lt hi, List.getElem?_append, List.length_drop, mod_lt2 (by omega) (by omega)]
  split
  · rename_i h; rw [List.getElem?_drop, if_pos (by omega)]
  · rename_i h; rw [if_neg (by omega)]; congr 1; omega

theorem held_fits {l : List (List Nat)} {first many : Nat} {x : List Nat} (hf : first < l.length) (hm : many < l.length) : held (l.set ((first + many) % l.length) x) first (many + 1) = held l first many ++ [x] := by
  apply List.ext_getElem?
  intro i
  have hl : (l.set ((first + many) % l.length) x).length = l.length := List.length_set ..
  by_cases hi : i < many + 1
  · rw [held_get (by rw [hl]; exact hf) (by rw [hl]; omega) hi, hl, List.getElem?_set]
    by_cases hi2 : i < many
    · rw [List.getElem?_append_left (by rw [held_len (by omega)]; exact hi2), held_get hf (by omega) hi2]
      rw [if_neg]
      rw [mod_lt2 (by omega) (by omega), mod_lt2 (by omega) (by omega)]
      split <;> split <;> omega
    · have : i = many := by omega
      subst this
      rw [if_pos rfl, List.getElem?_append_right (by rw [held_len (by omega)]; omega), held_len (by omega), Nat.sub_self, if_pos (Nat.mod_lt _ (by omega))]; rfl
  · rw [List.getElem?_eq_none (by rw [held_len (by rw [hl]; omega)]; omega), List.getElem?_eq_none (by simp [held_len (show many ≤ l.length by omega)]; omega)]

theorem held_zero {l : List (List Nat)} {n : Nat} (h : n ≤ l.length) : held l 0 n = l.take n := by
  unfold held; rw [List.drop_zero, List.take_append_of_le_length h]

theorem held_grow {l : List (List Nat)} {first : Nat} {x : List Nat} : held ((held l first l.length ++ List.replicate (l.length + 1) []).set l.length x) 0 (l.length + 1) = held l first l.length ++ [x] := by
  have hl := held_len (l := l) (first := first) (Nat.le_refl _)
  rw [held_zero (by simp [hl])]
  rw [List.set_append_right _ _ (by rw [hl]; exact Nat.le_refl _), hl, Nat.sub_self, List.replicate_succ, List.set_cons_zero, List.take_append, hl, List.take_of_length_le (by rw [hl]; omega), show l.length + 1 - l.length = 1 by omega]
  rfl

/-- A thing is put into a bag that has room; whether its ring grows or not. -/
theorem put_ok {first many room : Nat} {l : List (List Nat)} {x : List Nat} (hf : first < l.length) (hmany : many ≤ l.length) (hroom : many < room) (hb : l.length < 400000) :
    ∃ (l' : List (List Nat)) (f' : Nat), f' < l'.length ∧ many + 1 ≤ l'.length ∧ (l'.length = l.length ∨ l'.length = many + (many + 1)) ∧ held l' f' (many + 1) = held l first many ++ [x] ∧
      FunOK Try.prog 17 [.ptr .z 0, .str x] (mkH [some (bagO l.length first many room), some (.cells (strs l) 1 false)]) (.int .i64 (.ofNat 0)) (mkH [some (bagA 2 l'.length f' (many + 1) room), none, some (.cells (strs l') 1 false)]) := by
  by_cases h : many < l.length
  · refine ⟨l.set ((first + many) % l.length) x, first, by simpa using hf, by simp; omega, .inl (by simp), held_fits hf h, ?_⟩
    have := put_fits (x := x) (room := room) rfl hf h hroom hb
    rwa [List.length_set]
  · have : many = l.length := by omega
    subst this
    have hl := held_len (l := l) (first := first) (Nat.le_refl _)
    have hlen : ((held l first l.length ++ List.replicate (l.length + 1) []).set l.length x).length = l.length + (l.length + 1) := by simp [hl]
    refine ⟨(held l first l.length ++ List.replicate (l.length + 1) []).set l.length x, 0, by rw [hlen]; omega, by rw [hlen]; omega, .inr hlen, held_grow, ?_⟩
    rw [hlen]
    exact put_grow rfl hf hroom hb

theorem putE_ok {room : Nat} {x : List Nat} (hroom : 0 < room) :
    FunOK Try.prog 17 [.ptr .z 0, .str x] (mkH [some (bagE room)]) (.int .i64 (.ofNat 0)) (mkH [some (bagO 1 0 1 room), some (.cells (strs [x]) 1 false)]) := by
  have hO : OrOK Try.prog (mkO [(8, orcAt [.ptr .z 0] (mkH [some (bagE room)]) .nils (mkH [some (bagE room)]))]) := .cons (allA_ok (room := room)).good .nil
  refine FunOK.of_runH (P := Try.prog) hmix hO .nil (N := 1000) (f := 17) fun k => ?_
  refine (putE ..).trans ?_
  simp only [fInt_eq, fNats_eq, ilt_nat, blt_true hroom, Bool.not_true, brec_false]
  refine (guardK_pos ⟨rfl, by kernel_rfl⟩ _ _).trans ?_
  kernel_rfl

end Bag

