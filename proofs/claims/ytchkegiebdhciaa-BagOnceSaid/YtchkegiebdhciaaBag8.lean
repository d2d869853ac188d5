import Derived.Test.YtchkegiebdhciaaBag7
import Derived.KernelRfl
set_option maxHeartbeats 0
set_option maxRecDepth 1000000
open Go Go.AM Go.Proofs
namespace Bag

/-- The state behind the two appends: the texts, the bag, its ring at 3, what is wanted at 4. -/
noncomputable def h4 (l row want : List (List Nat)) (f k room : Nat) : HL := [some (.cells (strs l) 1 true), some (bagA 3 row.length f k room), none, some (.cells (strs row) 1 false), some (.cells (strs want) 1 false)]

noncomputable def tmB (n v c : Nat) (s : Bool) (o x : List Nat) : List (Nat × AV) := tmA n (.ofNat v) o [(7, .bool true), (8, .ptr (.ofNat 1) 0), (9, .str x), (10, .int .i64 (.ofNat 0)), (11, .slice (.ofNat 4) 0 c c s)]

theorem q9 (n v c k' : Nat) (s : Bool) (o x : List Nat) (b r w r5 : HObj) (cs : List AV) (k : Kont) :
    execH Try.prog (mkO [(10, orcAt [.ptr (.ofNat 1) 0] (mkH [some (.cells cs 1 true), some b, none, some r, some w]) (.slice (.ofNat 5) 0 k' k' true) (mkH [some (.cells cs 1 true), some b, none, some r, some w, some r5])),
    (9, orcAt [.slice (.ofNat 5) 0 k' k' true, .slice (.ofNat 4) 0 c c s] (mkH [some (.cells cs 1 true), some b, none, some r, some w, some r5]) (.bool true) (mkH [some (.cells cs 1 true), some b, none, some r, some w, some r5]))]) [] 1000 fx3 (subC [1,1,1,1,1,1,1,1,1,0] c3) (mkTm (tmB n v c s o x)) (mkH [some (.cells cs 1 true), some b, none, some r, some w]) [] k
    = fNats x fun l => fNat n fun len => fNat n fun cap => fInt (Int.ofNat v) fun n_1 => natOf n_1 (fun m => boolK (Nat.blt m len) (fNat (Nat.add 0 (Nat.mul m 1)) fun off => nthK cs off (fun v_1 => eStr v_1 (fun s_1 => fNats s_1 fun l_1 => brec (guardK ([AV.ptr (Pos.ofNat 1) 0] = [AV.ptr (Pos.ofNat 1) 0] ∧ mkH [some (HObj.cells cs 1 true), some b, none, some r, some w] = mkH [some (HObj.cells cs 1 true), some b, none, some r, some w]) (fNat k' fun len_1 => fNat k' fun cap_1 => fNat c fun len_2 => fNat c fun cap_2 => guardK ([AV.slice (Pos.ofNat 5) 0 len_1 cap_1 true, AV.slice (Pos.ofNat 4) 0 len_2 cap_2 s] = [AV.slice (Pos.ofNat 5) 0 k' k' true, AV.slice (Pos.ofNat 4) 0 c c s] ∧ mkH [some (HObj.cells cs 1 true), some b, none, some r, some w, some r5] = mkH [some (HObj.cells cs 1 true), some b, none, some r, some w, some r5]) (k AExit.normal (mkTm [(0, AV.slice (Pos.ofNat 0) 0 n n true), (1, AV.int IntKind.i64 (Int.ofNat v)), (2, AV.str o), (7, AV.bool true), (8, AV.ptr (Pos.ofNat 1) 0), (9, AV.str x), (10, AV.int IntKind.i64 (Int.ofNat 0)), (11, AV.slice (Pos.ofNat 4) 0 c c s), (57, AV.int IntKind.i64 (Int.ofNat 0)), (58, AV.bool false), (59, AV.bool false), (60, AV.str l), (61, AV.slice (Pos.ofNat 0) 0 len cap true), (62, AV.int IntKind.i64 n_1), (63, AV.ptr (Pos.ofNat 0) off), (64, AV.str l_1), (65, AV.bool false), (66, AV.bool false), (67, AV.bool false), (68, AV.ptr (Pos.ofNat 1) 0), (69, AV.slice (Pos.ofNat 5) 0 len_1 cap_1 true), (70, AV.slice (Pos.ofNat 4) 0 len_2 cap_2 s), (71, AV.bool true), (72, AV.bool false), (73, AV.bool false)]) (mkH [some (HObj.cells cs 1 true), some b, none, some r, some w, some r5]) []) (Ans.err 0 0 0)) (Ans.err 0 0 0)) (k AExit.ret (mkTm [(0, AV.slice (Pos.ofNat 0) 0 n n true), (1, AV.int IntKind.i64 (Int.ofNat v)), (2, AV.str o), (6, AV.bool false), (7, AV.bool true), (8, AV.ptr (Pos.ofNat 1) 0), (9, AV.str x), (10, AV.int IntKind.i64 (Int.ofNat 0)), (11, AV.slice (Pos.ofNat 4) 0 c c s), (57, AV.int IntKind.i64 (Int.ofNat 0)), (58, AV.bool false), (59, AV.bool false), (60, AV.str l), (61, AV.slice (Pos.ofNat 0) 0 len cap true), (62, AV.int IntKind.i64 n_1), (63, AV.ptr (Pos.ofNat 0) off), (64, AV.str l_1), (65, AV.bool true), (66, AV.bool true), (67, AV.bool true), (68, AV.tup []), (69, AV.tup []), (70, AV.tup []), (71, AV.tup []), (72, AV.tup []), (73, AV.bool true)]) (mkH [some (HObj.cells cs 1 true), some b, none, some r, some w]) []) !lbeq l l_1) (Ans.err 3 7 9)) (Ans.err 3 7 9)) (Ans.err 3 6 26)) (Ans.err 3 6 26) := by kernel_rfl

theorem framed {g : Nat} {args args' : List AV} {v v' : AV} {L0 F L1 G : HL} {s : List Nat} (h : FunOK Try.prog g args (mkH L0) v (mkH F)) (hl : s.length = L0.length) (hs : Laid (seat s L1.length) L1 L0 s) (hn : s.Nodup) (hb : ∀ i ∈ s, i < L1.length)
    (hF : L0.length ≤ F.length) (hro : noRo (F.drop L0.length)) (ha : AV.rens (seat s L1.length) args = args') (hv : v.ren (seat s L1.length) = v') (hG : glueL (seat s L1.length) s L0 F L1 = G) : FunOK Try.prog g args' (mkH L1) v' (mkH G) := by
  have e := FunOK.frame (σ := seat s L1.length) (A := mkH L1) h (Emb.of_list hl hs hn hb) (Glue.of_list hl hn hF hro)
  rw [ha, hv, hG] at e
  exact e

/-- All, beside the texts and what is wanted. -/
theorem all_in4 {l row want : List (List Nat)} {f k room : Nat} (hf : f < row.length) (hk : k ≤ row.length) (h0 : 0 < k) (hb : row.length < 400000) :
    FunOK Try.prog 10 [.ptr (.ofNat 1) 0] (mkH (h4 l row want f k room)) (.slice (.ofNat 5) 0 k k true) (mkH (h4 l row want f k room ++ [some (.cells (strs (held row f k)) 1 false)])) := by
  refine framed (s := [1, 3]) (L1 := h4 l row want f k room) (allC_ok (room := room) rfl hf hk h0 hb) rfl (.some rfl (by kernel_rfl) (.some rfl (row_ren _ _ _ _).symm .nil)) (by decide) (by show ∀ i ∈ [1, 3], i < 5; decide) (by show 2 ≤ 3; decide) (noRo.some (o := .cells (strs (held row f k)) 1 false) rfl noRo.nil) rfl rfl ?_
  have e3 : glueL (seat [1, 3] 5) [1, 3] [some (bagO row.length f k room), some (.cells (strs row) 1 false)] [some (bagO row.length f k room), some (.cells (strs row) 1 false), some (.cells (strs (held row f k)) 1 false)] (h4 l row want f k room) = [some (.cells (strs l) 1 true), some (bagA 3 row.length f k room), none, some ((HObj.cells (strs row) 1 false).ren (seat [1, 3] 5)), some (.cells (strs want) 1 false), some ((HObj.cells (strs (held row f k)) 1 false).ren (seat [1, 3] 5))] := by kernel_rfl
  rw [row_ren, row_ren] at e3
  exact e3

theorem all_none4 {l row want : List (List Nat)} {f room : Nat} (hf : f ≤ row.length) (hb : row.length < 400000) :
    FunOK Try.prog 10 [.ptr (.ofNat 1) 0] (mkH (h4 l row want f 0 room)) .nils (mkH (h4 l row want f 0 room)) := by
  refine framed (s := [1, 3]) (L1 := h4 l row want f 0 room) (allB_ok (room := room) rfl hf hb) rfl (.some rfl (by kernel_rfl) (.some rfl (row_ren _ _ _ _).symm .nil)) (by decide) (by show ∀ i ∈ [1, 3], i < 5; decide) (by show 2 ≤ 2; decide) noRo.nil rfl rfl ?_
  have e3 : glueL (seat [1, 3] 5) [1, 3] [some (bagO row.length f 0 room), some (.cells (strs row) 1 false)] [some (bagO row.length f 0 room), some (.cells (strs row) 1 false)] (h4 l row want f 0 room) = [some (.cells (strs l) 1 true), some (bagA 3 row.length f 0 room), none, some ((HObj.cells (strs row) 1 false).ren (seat [1, 3] 5)), some (.cells (strs want) 1 false)] := by kernel_rfl
  rw [row_ren] at e3
  exact e3

theorem q9N (n v c : Nat) (s : Bool) (o x : List Nat) (b r w : HObj) (cs : List AV) (k : Kont) :
    execH Try.prog (mkO [(10, orcAt [.ptr (.ofNat 1) 0] (mkH [some (.cells cs 1 true), some b, none, some r, some w]) .nils (mkH [some (.cells cs 1 true), some b, none, some r, some w])),
    (9, orcAt [.nils, .slice (.ofNat 4) 0 c c s] (mkH [some (.cells cs 1 true), some b, none, some r, some w]) (.bool true) (mkH [some (.cells cs 1 true), some b, none, some r, some w]))]) [] 1000 fx3 (subC [1,1,1,1,1,1,1,1,1,0] c3) (mkTm (tmB n v c s o x)) (mkH [some (.cells cs 1 true), some b, none, some r, some w]) [] k
    = fNats x fun l => fNat n fun len => fNat n fun cap => fInt (Int.ofNat v) fun n_1 => natOf n_1 (fun m => boolK (Nat.blt m len) (fNat (Nat.add 0 (Nat.mul m 1)) fun off => nthK cs off (fun v_1 => eStr v_1 (fun s_1 => fNats s_1 fun l_1 => brec (guardK ([AV.ptr (Pos.ofNat 1) 0] = [AV.ptr (Pos.ofNat 1) 0] ∧ mkH [some (HObj.cells cs 1 true), some b, none, some r, some w] = mkH [some (HObj.cells cs 1 true), some b, none, some r, some w]) (fNat c fun len_1 => fNat c fun cap_1 => guardK ([AV.nils, AV.slice (Pos.ofNat 4) 0 len_1 cap_1 s] = [AV.nils, AV.slice (Pos.ofNat 4) 0 c c s] ∧ mkH [some (HObj.cells cs 1 true), some b, none, some r, some w] = mkH [some (HObj.cells cs 1 true), some b, none, some r, some w]) (k AExit.normal (mkTm [(0, AV.slice (Pos.ofNat 0) 0 n n true), (1, AV.int IntKind.i64 (Int.ofNat v)), (2, AV.str o), (7, AV.bool true), (8, AV.ptr (Pos.ofNat 1) 0), (9, AV.str x), (10, AV.int IntKind.i64 (Int.ofNat 0)), (11, AV.slice (Pos.ofNat 4) 0 c c s), (57, AV.int IntKind.i64 (Int.ofNat 0)), (58, AV.bool false), (59, AV.bool false), (60, AV.str l), (61, AV.slice (Pos.ofNat 0) 0 len cap true), (62, AV.int IntKind.i64 n_1), (63, AV.ptr (Pos.ofNat 0) off), (64, AV.str l_1), (65, AV.bool false), (66, AV.bool false), (67, AV.bool false), (68, AV.ptr (Pos.ofNat 1) 0), (69, AV.nils), (70, AV.slice (Pos.ofNat 4) 0 len_1 cap_1 s), (71, AV.bool true), (72, AV.bool false), (73, AV.bool false)]) (mkH [some (HObj.cells cs 1 true), some b, none, some r, some w]) []) (Ans.err 0 0 0)) (Ans.err 0 0 0)) (k AExit.ret (mkTm [(0, AV.slice (Pos.ofNat 0) 0 n n true), (1, AV.int IntKind.i64 (Int.ofNat v)), (2, AV.str o), (6, AV.bool false), (7, AV.bool true), (8, AV.ptr (Pos.ofNat 1) 0), (9, AV.str x), (10, AV.int IntKind.i64 (Int.ofNat 0)), (11, AV.slice (Pos.ofNat 4) 0 c c s), (57, AV.int IntKind.i64 (Int.ofNat 0)), (58, AV.bool false), (59, AV.bool false), (60, AV.str l), (61, AV.slice (Pos.ofNat 0) 0 len cap true), (62, AV.int IntKind.i64 n_1), (63, AV.ptr (Pos.ofNat 0) off), (64, AV.str l_1), (65, AV.bool true), (66, AV.bool true), (67, AV.bool true), (68, AV.tup []), (69, AV.tup []), (70, AV.tup []), (71, AV.tup []), (72, AV.tup []), (73, AV.bool true)]) (mkH [some (HObj.cells cs 1 true), some b, none, some r, some w]) []) !lbeq l l_1) (Ans.err 3 7 9)) (Ans.err 3 7 9)) (Ans.err 3 6 26)) (Ans.err 3 6 26) := by kernel_rfl

theorem k9 {v f room : Nat} {o x : List Nat} {l row want : List (List Nat)} {s : Bool} (hx : l[v]? = some x)
    (hf : f < row.length) (hk : want.length ≤ row.length) (hb : row.length < 400000) (hh : held row f want.length = want) :
    CodeOK Try.prog fx3 (subC [1,1,1,1,1,1,1,1,1,0] c3) (mkTm (tmB l.length v want.length s o x)) (mkH (h4 l row want f want.length room)) [] .normal (mkTm (tmB l.length v want.length s o x)) (mkH (h4 l row want f want.length room)) [] := by
  have hv : v < l.length := by
    rcases Nat.lt_or_ge v l.length with h | h
    · exact h
    · rw [List.getElem?_eq_none h] at hx; cases hx
  have e0 : Nat.add 0 (Nat.mul v 1) = v := by show 0 + v * 1 = v; omega
  by_cases h0 : 0 < want.length
  · have h9 : FunOK Try.prog 9 [.slice (.ofNat 5) 0 want.length want.length true, .slice (.ofNat 4) 0 want.length want.length s] (mkH (h4 l row want f want.length room ++ [some (.cells (strs (held row f want.length)) 1 false)])) (.bool true) (mkH (h4 l row want f want.length room ++ [some (.cells (strs (held row f want.length)) 1 false)])) := by
      rw [hh]
      refine framed (s := [5, 4]) (L1 := h4 l row want f want.length room ++ [some (.cells (strs want) 1 false)]) (same_ok (c1 := want.length) (c2 := want.length) (s1 := true) (s2 := s) (r1 := false) (r2 := false) (l := want) (by omega)) rfl (.some rfl (row_ren _ _ _ _).symm (.some rfl (row_ren _ _ _ _).symm .nil)) (by decide) (by show ∀ i ∈ [5, 4], i < 6; decide) (by show 2 ≤ 2; decide) noRo.nil rfl rfl ?_
      have e3 : glueL (seat [5, 4] 6) [5, 4] [some (.cells (strs want) 1 false), some (.cells (strs want) 1 false)] [some (.cells (strs want) 1 false), some (.cells (strs want) 1 false)] (h4 l row want f want.length room ++ [some (.cells (strs want) 1 false)]) = [some (.cells (strs l) 1 true), some (bagA 3 row.length f want.length room), none, some (.cells (strs row) 1 false), some ((HObj.cells (strs want) 1 false).ren (seat [5, 4] 6)), some ((HObj.cells (strs want) 1 false).ren (seat [5, 4] 6))] := by kernel_rfl
      rw [row_ren] at e3
      exact e3
    have e : ∀ k : Kont, _ = _ := fun k => (q9 l.length v want.length want.length s o x (bagA 3 row.length f want.length room) (.cells (strs row) 1 false) (.cells (strs want) 1 false) (.cells (strs (held row f want.length)) 1 false) (strs l) k).trans (by
      simp only [fNats_eq, fNat_eq, fInt_eq, natOf_of, blt_true hv, boolK_true, e0, nthK_eq, strs_get, hx, Option.map_some, optK_some, eStr_str, lbeq_self, Bool.not_true, brec_false]
      refine (guardK_pos (by constructor <;> first | trivial | rfl) _ _).trans ?_
      exact guardK_pos (by constructor <;> first | trivial | rfl) _ _)
    refine CodeOK.sel (τ := seat [0, 1, 2, 3, 4] 6) (CodeOK.of_runH hmix (OrOK.cons (all_in4 hf hk h0 hb).good (OrOK.cons h9.good .nil)) .nil (N := 1000) e) ?_ (SubT.of_list (.cons (by kernel_rfl) (.cons (by kernel_rfl) (.cons (by kernel_rfl) (.cons (by kernel_rfl) (.cons (by kernel_rfl) (.cons (by kernel_rfl) (.cons (by kernel_rfl) (.cons (by kernel_rfl) .nil)))))))))
    refine Sel.of_listN (n := 5) (N := 6) (B := h4 l row want f want.length room) (t := [0, 1, 2, 3, 4]) rfl rfl ?_ (by show [0, 1, 3, 4].Nodup; decide) ⟨rfl, rfl, rfl, rfl, rfl, trivial⟩
    exact .some rfl (row_ren _ _ _ _).symm (.some rfl (by kernel_rfl) (.none (.some rfl (row_ren _ _ _ _).symm (.some rfl (row_ren _ _ _ _).symm .nil))))
  · have hz : want = [] := List.eq_nil_of_length_eq_zero (by omega)
    subst hz
    have h9 : FunOK Try.prog 9 [.nils, .slice (.ofNat 4) 0 0 0 s] (mkH (h4 l row [] f 0 room)) (.bool true) (mkH (h4 l row [] f 0 room)) := by
      refine framed (s := [4]) (L1 := h4 l row [] f 0 room) (same_nil (c2 := 0) (s2 := s) (r2 := false) (l := [])) rfl (.some rfl (row_ren _ _ _ _).symm .nil) (by decide) (by show ∀ i ∈ [4], i < 5; decide) (by show 1 ≤ 1; decide) noRo.nil rfl rfl ?_
      have e3 : glueL (seat [4] 5) [4] [some (.cells (strs []) 1 false)] [some (.cells (strs []) 1 false)] (h4 l row [] f 0 room) = [some (.cells (strs l) 1 true), some (bagA 3 row.length f 0 room), none, some (.cells (strs row) 1 false), some ((HObj.cells (strs []) 1 false).ren (seat [4] 5))] := by kernel_rfl
      rw [row_ren] at e3
      exact e3
    have e : ∀ k : Kont, _ = _ := fun k => (q9N l.length v 0 s o x (bagA 3 row.length f 0 room) (.cells (strs row) 1 false) (.cells (strs []) 1 false) (strs l) k).trans (by
      simp only [fNats_eq, fNat_eq, fInt_eq, natOf_of, blt_true hv, boolK_true, e0, nthK_eq, strs_get, hx, Option.map_some, optK_some, eStr_str, lbeq_self, Bool.not_true, brec_false]
      refine (guardK_pos (by constructor <;> first | trivial | rfl) _ _).trans ?_
      exact guardK_pos (by constructor <;> first | trivial | rfl) _ _)
    exact (CodeOK.of_runH hmix (OrOK.cons (all_none4 (by omega) hb).good (OrOK.cons h9.good .nil)) .nil (N := 1000) e).less (Sub0.of_list (.cons (by kernel_rfl) (.cons (by kernel_rfl) (.cons (by kernel_rfl) (.cons (by kernel_rfl) (.cons (by kernel_rfl) (.cons (by kernel_rfl) (.cons (by kernel_rfl) (.cons (by kernel_rfl) .nil)))))))))

end Bag

