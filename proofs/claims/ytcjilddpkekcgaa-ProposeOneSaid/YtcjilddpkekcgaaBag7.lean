import Derived.Test.YtcjilddpkekcgaaBag6
import Derived.KernelRfl
set_option maxHeartbeats 0
set_option maxRecDepth 1000000
set_option linter.unusedSimpArgs false
set_option linter.unusedVariables false
open Go Go.AM Go.Proofs
namespace Pro

noncomputable def r11 : Code := subC [1,1,1,1,1,1,1,0,1,1,1,1,0,1,0] (bodyC Try.f3)

noncomputable def cR : Code := subC [1,1,1,1,1,1,1,0,1,1,1,1,0,1,1,1,1] (bodyC Try.f3)

theorem ra11 (b : BS) (s s' : PS) (x : LS) (y z : List AV) (F : List AV) (n : Nat) (N : List AV) (m : Nat) (k : AExit → List AV → H → Ans) :
    execH Try.prog (mkO [(7, orcObj [.ptr (.ofNat 1) 0, .agg y, .agg z] 1 (propO s) (propO s') (.tup [.fz F n, .fz N m]))]) [] 1000 fx3 r11 (mkTm (tmL x)) (mkH (hL b s x)) [] (pickK [1, 2, 5, 6, 8, 9, 10, 11, 12, 13, 14, 15] [] [] k)
    = fInt (Int.ofNat x.i) fun n_1 => natOf n_1 (fun m_1 => boolK (Nat.blt m_1 (List.length x.l)) (segK (Nat.mul m_1 57) (flat actC x.l) 57 (fun l => fList l fun l => fList l fun l => guardK ([AV.ptr (.ofNat 1) 0, AV.agg l, AV.agg [AV.int .i64 b.set, AV.int .i64 b.me, AV.int .i64 b.nodes, AV.int .i64 b.c1, AV.int .i64 b.c2, AV.int .i64 b.c3, AV.fz (u8s b.data) (List.length b.data), AV.int .i64 b.retry]] = [AV.ptr (.ofNat 1) 0, AV.agg y, AV.agg z] ∧ some (propO s) = some (propO s)) (k AExit.normal [AV.fz (flat actC x.l) (List.length x.l), AV.ptr (.ofNat 0) 0, AV.bool true, AV.ptr (.ofNat 1) 0, AV.ptr (.ofNat 2) 0, AV.fz (u8s x.value) (List.length x.value), AV.fz (u8s x.last) (List.length x.last), AV.bool x.asked, AV.bool x.over, AV.int .i64 (Int.ofNat x.i), AV.fz F n, AV.fz N m] (mkH [some (HObj.cells (beginC b) 8 false), some (propO s'), some (HObj.cells [AV.int .i64 x.a1, AV.int .i64 x.a2] 2 false)])) (Ans.err 84 0 0)) (Ans.err 3 4 3010)) (Ans.err 3 3 3027)) (Ans.err 3 3 3027) := by kernel_rfl

noncomputable def sameS : List AV → Bool
  | [.fz l _, .fz m _] => ceq l m
  | [.nils, .fz m _] => ceq [] m
  | [.fz l _, .nils] => ceq l []
  | _ => false

def okS (args : List AV) : Prop := ∃ a b : List Nat, isBytes a ∧ isBytes b ∧ (args = [.fz (u8s a) a.length, .fz (u8s b) b.length] ∨ (a = [] ∧ args = [.nils, .fz (u8s b) b.length]))

noncomputable def orcS : Orc := fun args A k _ => guardK (okS args) (k (.bool (sameS args)) A) (.err 87 0 0)

noncomputable def r30 : Code := subC [1,1,1,1,1,1,1,0,1,1,1,1,0,1,1,1,1,1,0] (bodyC Try.f3)

/-- What Done tells. -/
noncomputable def donV (s : PS) : AV := if s.phase = 3 then .fz (u8s s.value) s.value.length else .nils

theorem ra30 (b : BS) (s : PS) (x : LS) (d : AV) (t : Bool) (k : AExit → List AV → H → Ans) :
    execH Try.prog (mkO [(9, orcS)]) [] 1000 fx3 r30 (mkTm (tmL x ++ [(19, d), (20, .bool t)])) (mkH (hL b s x)) [] (pickK [1, 2, 5, 6, 8, 9, 10, 11, 12, 13, 19, 20, 21] [] [] k)
    = fInt (Int.ofNat x.i) fun n => natOf n (fun m => boolK (Nat.blt m (List.length x.l)) (nthK (flat actC x.l) (Nat.add (Nat.mul m 57) 0) (fun v => eInt v (fun k_1 n => fInt n fun n => boolK (Nat.beq (kcode k_1) 3) (brec (fInt (Int.ofNat x.i) fun n => natOf n (fun m => boolK (Nat.blt m (List.length x.l)) (nthK (flat actC x.l) (Nat.add (Nat.mul m 57) 0) (fun v => eInt v (fun k_2 n => fInt n fun n => boolK (Nat.beq (kcode k_2) 3) (brec (k AExit.normal [AV.fz (flat actC x.l) (List.length x.l), AV.ptr (.ofNat 0) 0, AV.bool true, AV.ptr (.ofNat 1) 0, AV.ptr (.ofNat 2) 0, AV.fz (u8s x.value) (List.length x.value), AV.fz (u8s x.last) (List.length x.last), AV.bool x.asked, AV.bool x.over, AV.int .i64 (Int.ofNat x.i), d, AV.bool t, AV.bool false] (mkH (hL b s x))) (fInt (Int.ofNat x.i) fun n => natOf n (fun m => boolK (Nat.blt m (List.length x.l)) (nthK (flat actC x.l) (Nat.add (Nat.add (Nat.mul m 57) 1) 0) (fun v => eInt v (fun k_3 n => fInt n fun n => boolK (Nat.beq (kcode k_3) 3) (brec (fInt (Int.ofNat x.i) fun n => natOf n (fun m => boolK (Nat.blt m (List.length x.l)) (nthK (flat actC x.l) (Nat.add (Nat.add (Nat.mul m 57) 1) 0) (fun v => eInt v (fun k_4 n => fInt n fun n => boolK (Nat.beq (kcode k_4) 3) (brec (k AExit.normal [AV.fz (flat actC x.l) (List.length x.l), AV.ptr (.ofNat 0) 0, AV.bool true, AV.ptr (.ofNat 1) 0, AV.ptr (.ofNat 2) 0, AV.fz (u8s x.value) (List.length x.value), AV.fz (u8s x.last) (List.length x.last), AV.bool x.asked, AV.bool x.over, AV.int .i64 (Int.ofNat x.i), d, AV.bool t, AV.bool false] (mkH (hL b s x))) (fAVF d fun v => fInt (Int.ofNat x.i) fun n => natOf n (fun m => boolK (Nat.blt m (List.length x.l)) (nthK (flat actC x.l) (Nat.add (Nat.add (Nat.mul m 57) 1) 45) (fun v_1 => eFz v_1 (fun l n => guardK (okS ([] ++ ([v, AV.fz l n] ++ []))) (brec (k AExit.normal [AV.fz (flat actC x.l) (List.length x.l), AV.ptr (.ofNat 0) 0, AV.bool true, AV.ptr (.ofNat 1) 0, AV.ptr (.ofNat 2) 0, AV.fz (u8s x.value) (List.length x.value), AV.fz (u8s x.last) (List.length x.last), AV.bool x.asked, AV.bool x.over, AV.int .i64 (Int.ofNat x.i), d, AV.bool t, AV.bool false] (mkH (hL b s x))) (k AExit.normal [AV.fz (flat actC x.l) (List.length x.l), AV.ptr (.ofNat 0) 0, AV.bool true, AV.ptr (.ofNat 1) 0, AV.ptr (.ofNat 2) 0, AV.fz (u8s x.value) (List.length x.value), AV.fz (u8s x.last) (List.length x.last), AV.bool x.asked, AV.bool x.over, AV.int .i64 (Int.ofNat x.i), d, AV.bool t, AV.bool true] (mkH (hL b s x))) (sameS [v, AV.fz l n])) (Ans.err 87 0 0)) (Ans.err 3 39 9)) (Ans.err 3 39 9)) (Ans.err 3 36 26)) (Ans.err 3 36 26)) (ieq n (Int.ofNat 15))) (Ans.err 3 29 14)) (Ans.err 3 28 9)) (Ans.err 3 28 9)) (Ans.err 3 25 26)) (Ans.err 3 25 26)) (fAVF d fun v => fInt (Int.ofNat x.i) fun n => natOf n (fun m => boolK (Nat.blt m (List.length x.l)) (nthK (flat actC x.l) (Nat.add (Nat.add (Nat.mul m 57) 1) 45) (fun v_1 => eFz v_1 (fun l n => guardK (okS ([] ++ ([v, AV.fz l n] ++ []))) (brec (k AExit.normal [AV.fz (flat actC x.l) (List.length x.l), AV.ptr (.ofNat 0) 0, AV.bool true, AV.ptr (.ofNat 1) 0, AV.ptr (.ofNat 2) 0, AV.fz (u8s x.value) (List.length x.value), AV.fz (u8s x.last) (List.length x.last), AV.bool x.asked, AV.bool x.over, AV.int .i64 (Int.ofNat x.i), d, AV.bool t, AV.bool false] (mkH (hL b s x))) (k AExit.normal [AV.fz (flat actC x.l) (List.length x.l), AV.ptr (.ofNat 0) 0, AV.bool true, AV.ptr (.ofNat 1) 0, AV.ptr (.ofNat 2) 0, AV.fz (u8s x.value) (List.length x.value), AV.fz (u8s x.last) (List.length x.last), AV.bool x.asked, AV.bool x.over, AV.int .i64 (Int.ofNat x.i), d, AV.bool t, AV.bool true] (mkH (hL b s x))) (sameS [v, AV.fz l n])) (Ans.err 87 0 0)) (Ans.err 3 39 9)) (Ans.err 3 39 9)) (Ans.err 3 36 26)) (Ans.err 3 36 26)) (ieq n (Int.ofNat 13))) (Ans.err 3 21 14)) (Ans.err 3 20 9)) (Ans.err 3 20 9)) (Ans.err 3 17 26)) (Ans.err 3 17 26)) (ieq n (Int.ofNat 2))) (Ans.err 3 12 14)) (Ans.err 3 11 9)) (Ans.err 3 11 9)) (Ans.err 3 9 26)) (Ans.err 3 9 26)) (fInt (Int.ofNat x.i) fun n => natOf n (fun m => boolK (Nat.blt m (List.length x.l)) (nthK (flat actC x.l) (Nat.add (Nat.add (Nat.mul m 57) 1) 0) (fun v => eInt v (fun k_2 n => fInt n fun n => boolK (Nat.beq (kcode k_2) 3) (brec (fInt (Int.ofNat x.i) fun n => natOf n (fun m => boolK (Nat.blt m (List.length x.l)) (nthK (flat actC x.l) (Nat.add (Nat.add (Nat.mul m 57) 1) 0) (fun v => eInt v (fun k_3 n => fInt n fun n => boolK (Nat.beq (kcode k_3) 3) (brec (k AExit.normal [AV.fz (flat actC x.l) (List.length x.l), AV.ptr (.ofNat 0) 0, AV.bool true, AV.ptr (.ofNat 1) 0, AV.ptr (.ofNat 2) 0, AV.fz (u8s x.value) (List.length x.value), AV.fz (u8s x.last) (List.length x.last), AV.bool x.asked, AV.bool x.over, AV.int .i64 (Int.ofNat x.i), d, AV.bool t, AV.bool false] (mkH (hL b s x))) (fAVF d fun v => fInt (Int.ofNat x.i) fun n => natOf n (fun m => boolK (Nat.blt m (List.length x.l)) (nthK (flat actC x.l) (Nat.add (Nat.add (Nat.mul m 57) 1) 45) (fun v_1 => eFz v_1 (fun l n => guardK (okS ([] ++ ([v, AV.fz l n] ++ []))) (brec (k AExit.normal [AV.fz (flat actC x.l) (List.length x.l), AV.ptr (.ofNat 0) 0, AV.bool true, AV.ptr (.ofNat 1) 0, AV.ptr (.ofNat 2) 0, AV.fz (u8s x.value) (List.length x.value), AV.fz (u8s x.last) (List.length x.last), AV.bool x.asked, AV.bool x.over, AV.int .i64 (Int.ofNat x.i), d, AV.bool t, AV.bool false] (mkH (hL b s x))) (k AExit.normal [AV.fz (flat actC x.l) (List.length x.l), AV.ptr (.ofNat 0) 0, AV.bool true, AV.ptr (.ofNat 1) 0, AV.ptr (.ofNat 2) 0, AV.fz (u8s x.value) (List.length x.value), AV.fz (u8s x.last) (List.length x.last), AV.bool x.asked, AV.bool x.over, AV.int .i64 (Int.ofNat x.i), d, AV.bool t, AV.bool true] (mkH (hL b s x))) (sameS [v, AV.fz l n])) (Ans.err 87 0 0)) (Ans.err 3 39 9)) (Ans.err 3 39 9)) (Ans.err 3 36 26)) (Ans.err 3 36 26)) (ieq n (Int.ofNat 15))) (Ans.err 3 29 14)) (Ans.err 3 28 9)) (Ans.err 3 28 9)) (Ans.err 3 25 26)) (Ans.err 3 25 26)) (fAVF d fun v => fInt (Int.ofNat x.i) fun n => natOf n (fun m => boolK (Nat.blt m (List.length x.l)) (nthK (flat actC x.l) (Nat.add (Nat.add (Nat.mul m 57) 1) 45) (fun v_1 => eFz v_1 (fun l n => guardK (okS ([] ++ ([v, AV.fz l n] ++ []))) (brec (k AExit.normal [AV.fz (flat actC x.l) (List.length x.l), AV.ptr (.ofNat 0) 0, AV.bool true, AV.ptr (.ofNat 1) 0, AV.ptr (.ofNat 2) 0, AV.fz (u8s x.value) (List.length x.value), AV.fz (u8s x.last) (List.length x.last), AV.bool x.asked, AV.bool x.over, AV.int .i64 (Int.ofNat x.i), d, AV.bool t, AV.bool false] (mkH (hL b s x))) (k AExit.normal [AV.fz (flat actC x.l) (List.length x.l), AV.ptr (.ofNat 0) 0, AV.bool true, AV.ptr (.ofNat 1) 0, AV.ptr (.ofNat 2) 0, AV.fz (u8s x.value) (List.length x.value), AV.fz (u8s x.last) (List.length x.last), AV.bool x.asked, AV.bool x.over, AV.int .i64 (Int.ofNat x.i), d, AV.bool t, AV.bool true] (mkH (hL b s x))) (sameS [v, AV.fz l n])) (Ans.err 87 0 0)) (Ans.err 3 39 9)) (Ans.err 3 39 9)) (Ans.err 3 36 26)) (Ans.err 3 36 26)) (ieq n (Int.ofNat 13))) (Ans.err 3 21 14)) (Ans.err 3 20 9)) (Ans.err 3 20 9)) (Ans.err 3 17 26)) (Ans.err 3 17 26)) (ieq n (Int.ofNat 1))) (Ans.err 3 5 14)) (Ans.err 3 4 9)) (Ans.err 3 4 9)) (Ans.err 3 2 26)) (Ans.err 3 2 26) := by kernel_rfl

theorem seg_act {l : List AS} {i : Nat} {a : AS} (h : l[i]? = some a) (F : List AV → Ans) (e : Ans) : segK (Nat.mul i 57) (flat actC l) 57 F e = F (actC a) := seg_at actC_len h F e

noncomputable def g11 (x : LS) (F : List AV) (n : Nat) (N : List AV) (m : Nat) : List AV := e4 x ++ [.fz F n, .fz N m]

theorem act11 {b : BS} {s s' : PS} {x : LS} {a : AS} {F : List AV} {n : Nat} {N : List AV} {m : Nat} (h : x.l[x.i]? = some a) (R : FunOK Try.prog 7 [.ptr (.ofNat 0) 0, .agg (actC a), .agg (beginC b)] (mkH [some (propO s)]) (.tup [.fz F n, .fz N m]) (mkH [some (propO s')])) :
    CodeOK Try.prog fx3 r11 (mkTm (tmL x)) (mkH (hL b s x)) [] .normal (mkTm ([1, 2, 5, 6, 8, 9, 10, 11, 12, 13, 14, 15].zip (g11 x F n N m))) (mkH (hL b s' x)) [] := by
  have c2 : Nat.blt x.i x.l.length = true := blt_true (List.getElem?_eq_some_iff.1 h).1
  have g := good_obj (p := 1) (args' := [.ptr (.ofNat 1) 0, .agg (actC a), .agg (beginC b)]) R (fun σ => prop_ren σ _) (fun σ => prop_ren σ _) (fun _ => rfl) (fun σ hσ => by
    show [AV.ptr (σ Pos.z) 0, (AV.agg (actC a)).ren σ, (AV.agg (beginC b)).ren σ] = _
    rw [hσ]; rfl)
  exact CodeOK.of_pick hmix (OrOK.cons g .nil) .nil (N := 1000) [1, 2, 5, 6, 8, 9, 10, 11, 12, 13, 14, 15] [] [] fun k => (ra11 b s s' x _ _ F n N m k).trans (by
    simp only [fInt_eq, natOf_of, c2, boolK_true, seg_act h, fList_eq]
    refine (guardK_pos ⟨rfl, by first | trivial | rfl⟩ _ _).trans ?_
    try exact rfl)

theorem nth_act {l : List AS} {i : Nat} {a : AS} (h : l[i]? = some a) {j : Nat} {v : AV} (hj : j < 57) (hv : (actC a)[j]? = some v) {o : Nat} (ho : o = i * 57 + j) (f : AV → Ans) (e : Ans) : nthK (flat actC l) o f e = f v := by
  rw [nthK_eq, ho, flat_at actC_len h hj, hv]; rfl

/-- What Done may tell. -/
def okD (d : AV) : Prop := d = .nils ∨ ∃ v : List Nat, isBytes v ∧ d = .fz (u8s v) v.length

noncomputable def toldB (a : AS) (d : AV) : Bool := (decide (a.kind = 1) || decide (a.kind = 2)) && ((decide (a.x.kind = 13) || decide (a.x.kind = 15)) && sameS [d, .fz (u8s a.x.data) a.x.data.length])

noncomputable def g30 (x : LS) (d : AV) (t q : Bool) : List AV := e4 x ++ [d, .bool t, .bool q]

theorem okD.fav {d : AV} (h : okD d) (k : AV → Ans) : fAVF d k = k d := by
  rcases h with rfl | ⟨v, _, rfl⟩
  · rfl
  · exact fAVF_fz _ _ k

theorem okD.ok {d : AV} (h : okD d) {v : List Nat} (hv : isBytes v) : okS [d, .fz (u8s v) v.length] := by
  rcases h with rfl | ⟨w, hw, rfl⟩
  · exact ⟨[], v, (fun _ h => by cases h), hv, .inr ⟨rfl, rfl⟩⟩
  · exact ⟨w, v, hw, hv, .inl rfl⟩

theorem u8s_inj {a b : List Nat} (h : u8s a = u8s b) : a = b := by
  have h2 : (u8s a).map (fun v => match v with | .int _ n => n.toNat | _ => 0) = (u8s b).map (fun v => match v with | .int _ n => n.toNat | _ => 0) := by rw [h]
  have key : ∀ l : List Nat, (u8s l).map (fun v => match v with | .int _ n => n.toNat | _ => 0) = l := by
    intro l
    induction l with
    | nil => rfl
    | cons x l ih => exact congrArg (List.cons x) ih
  rw [key, key] at h2
  exact h2

theorem good_S : Good Try.prog 9 orcS := good_pure fun args A k els h => by
  unfold orcS guardK at h
  split at h
  · rename_i hc
    have ceq_l : ∀ a b : List Nat, ceq (u8s a) (u8s b) = lbeq a b := fun a b => by
      by_cases hab : a = b
      · subst hab; rw [ceq_self, lbeq_self]
      · have h1 : lbeq a b = false := by rw [lbeq_iff]; exact beq_eq_false_iff_ne.2 hab
        rw [h1]
        cases hc : ceq (u8s a) (u8s b)
        · rfl
        · exact absurd (u8s_inj (ceq_eq hc)) hab
    obtain ⟨a, b, ha, hb, hx | ⟨rfl, hx⟩⟩ := hc
    · subst hx
      refine ⟨_, h, ?_⟩
      rw [show sameS [.fz (u8s a) a.length, .fz (u8s b) b.length] = ceq (u8s a) (u8s b) from rfl, ceq_l]
      exact (same_ok ha hb).every (fun _ => rfl) (fun _ => rfl) A
    · subst hx
      refine ⟨_, h, ?_⟩
      rw [show sameS [.nils, .fz (u8s b) b.length] = ceq (u8s []) (u8s b) from rfl, ceq_l]
      exact (same_nils hb).every (fun _ => rfl) (fun _ => rfl) A
  · cases h

theorem eFz_at {β : Type} (l : List AV) (n : Nat) (f : List AV → Nat → β) (e : β) : eFz (.fz l n) f e = f l n := rfl

theorem told30 {b : BS} {s : PS} {x : LS} {a : AS} {d : AV} {t : Bool} (h : x.l[x.i]? = some a) (hd : okD d) (hx : isBytes a.x.data) :
    CodeOK Try.prog fx3 r30 (mkTm (tmL x ++ [(19, d), (20, .bool t)])) (mkH (hL b s x)) [] .normal (mkTm ([1, 2, 5, 6, 8, 9, 10, 11, 12, 13, 19, 20, 21].zip (g30 x d t (toldB a d)))) (mkH (hL b s x)) [] := by
  have c2 : Nat.blt x.i x.l.length = true := blt_true (List.getElem?_eq_some_iff.1 h).1
  have n0 : ∀ (f : AV → Ans) (e : Ans), nthK (flat actC x.l) (Nat.add (Nat.mul x.i 57) 0) f e = f (.int .i64 a.kind) := nth_act h (j := 0) (by decide) (by kernel_rfl) rfl
  have n1 : ∀ (f : AV → Ans) (e : Ans), nthK (flat actC x.l) (Nat.add (Nat.add (Nat.mul x.i 57) 1) 0) f e = f (.int .i64 a.x.kind) := nth_act h (j := 1) (by decide) (by kernel_rfl) rfl
  have n2 : ∀ (f : AV → Ans) (e : Ans), nthK (flat actC x.l) (Nat.add (Nat.add (Nat.mul x.i 57) 1) 45) f e = f (.fz (u8s a.x.data) a.x.data.length) := nth_act h (j := 46) (by decide) (by kernel_rfl) rfl
  have hok : okS ([] ++ ([d, .fz (u8s a.x.data) a.x.data.length] ++ [])) := hd.ok hx
  have hg : ∀ t e : Ans, guardK (okS ([] ++ ([d, .fz (u8s a.x.data) a.x.data.length] ++ []))) t e = t := fun t e => guardK_pos hok t e
  have k1 : ieq a.kind (Int.ofNat 1) = decide (a.kind = 1) := ieq_dec _ _
  have k2 : ieq a.kind (Int.ofNat 2) = decide (a.kind = 2) := ieq_dec _ _
  have k3 : ieq a.x.kind (Int.ofNat 13) = decide (a.x.kind = 13) := ieq_dec _ _
  have k4 : ieq a.x.kind (Int.ofNat 15) = decide (a.x.kind = 15) := ieq_dec _ _
  refine CodeOK.of_pick hmix (OrOK.cons good_S .nil) .nil (N := 1000) [1, 2, 5, 6, 8, 9, 10, 11, 12, 13, 19, 20, 21] [] [] fun k => (ra30 b s x d t k).trans ?_
  simp only [fInt_eq, natOf_of, c2, boolK_true, n0, n1, n2, eFz_at, eInt_i', kc64, hd.fav, fAVF_fz, hg, k1, k2, k3, k4, toldB]
  generalize decide (a.kind = 1) = d1
  generalize decide (a.kind = 2) = d2
  generalize decide (a.x.kind = 13) = d3
  generalize decide (a.x.kind = 15) = d4
  generalize hs : sameS [d, .fz (u8s a.x.data) a.x.data.length] = d5
  have hs' : sameS ([] ++ ([d, .fz (u8s a.x.data) a.x.data.length] ++ [])) = d5 := hs
  try simp only [hs, hs']
  cases d1 <;> cases d2 <;> cases d3 <;> cases d4 <;> cases d5 <;> rfl

theorem rcR (b : BS) (s : PS) (x : LS) (d : AV) (t q : Bool) (k : AExit → List AV → H → Ans) :
    execH Try.prog (mkO [(9, orcS), (10, orcObj [.ptr (.ofNat 1) 0] 1 (propO s) (propO s) (.tup [d, .bool t]))]) [⟨3, 1030, exSub fx3 r30 (mkTm (tmL x ++ [(19, d), (20, .bool t)])) (mkH (hL b s x)) .normal (mkTm ([1, 2, 5, 6, 8, 9, 10, 11, 12, 13, 19, 20, 21].zip (g30 x d t q))) (mkH (hL b s x))⟩] 1000 fx3 cR (mkTm (tmL x)) (mkH (hL b s x)) [] (pickK [1, 2, 5, 6, 8, 9, 10, 11, 12, 13] [] [] k)
    = guardK ([AV.ptr (.ofNat 1) 0] = [AV.ptr (.ofNat 1) 0] ∧ some (propO s) = some (propO s)) (fAVF d fun v => brec (fAVF v fun v_1 => guardK (fx3 = fx3 ∧ r30 = r30 ∧ Sub0 (mkTm (tmL x ++ [(19, d), (20, AV.bool t)])) (mkTm [(1, AV.fz (flat actC x.l) (List.length x.l)), (2, AV.ptr (.ofNat 0) 0), (5, AV.bool true), (6, AV.ptr (.ofNat 1) 0), (8, AV.ptr (.ofNat 2) 0), (9, AV.fz (u8s x.value) (List.length x.value)), (10, AV.fz (u8s x.last) (List.length x.last)), (11, AV.bool x.asked), (12, AV.bool x.over), (13, AV.int .i64 (Int.ofNat x.i)), (19, v_1), (20, AV.bool false), (193, AV.tup [d, AV.bool t]), (194, AV.ptr (.ofNat 1) 0), (195, AV.tup [d, AV.bool t]), (196, v), (197, AV.bool false)]) ∧ mkH (hL b s x) = mkH (hL b s x) ∧ MkNil []) (brec (brec (fAVF d fun v => brec (fAVF v fun v => k AExit.normal [AV.fz (flat actC x.l) (List.length x.l), AV.ptr (.ofNat 0) 0, AV.bool true, AV.ptr (.ofNat 1) 0, AV.ptr (.ofNat 2) 0, AV.fz (u8s x.value) (List.length x.value), v, AV.bool x.asked, AV.bool false, AV.int .i64 (Int.ofNat x.i)] (mkH (hL b s x))) (fAVF v fun v => k AExit.normal [AV.fz (flat actC x.l) (List.length x.l), AV.ptr (.ofNat 0) 0, AV.bool true, AV.ptr (.ofNat 1) 0, AV.ptr (.ofNat 2) 0, AV.fz (u8s x.value) (List.length x.value), v, AV.bool x.asked, AV.bool true, AV.int .i64 (Int.ofNat x.i)] (mkH (hL b s x))) t) (brec (brec (fInt b.nodes fun n => brec (fAVF d fun v => brec (fAVF v fun v => k AExit.normal [AV.fz (flat actC x.l) (List.length x.l), AV.ptr (.ofNat 0) 0, AV.bool true, AV.ptr (.ofNat 1) 0, AV.ptr (.ofNat 2) 0, AV.fz (u8s x.value) (List.length x.value), v, AV.bool x.asked, AV.bool false, AV.int .i64 (Int.ofNat x.i)] (mkH (hL b s x))) (fAVF v fun v => k AExit.normal [AV.fz (flat actC x.l) (List.length x.l), AV.ptr (.ofNat 0) 0, AV.bool true, AV.ptr (.ofNat 1) 0, AV.ptr (.ofNat 2) 0, AV.fz (u8s x.value) (List.length x.value), v, AV.bool x.asked, AV.bool true, AV.int .i64 (Int.ofNat x.i)] (mkH (hL b s x))) t) (brec (k AExit.ret [] (mkH (hL b s x))) (fAVF d fun v => guardK (okS ([] ++ ([v, AV.fz (u8s x.value) (List.length x.value)] ++ []))) (brec (k AExit.ret [] (mkH (hL b s x))) (fAVF d fun v => brec (fAVF v fun v => k AExit.normal [AV.fz (flat actC x.l) (List.length x.l), AV.ptr (.ofNat 0) 0, AV.bool true, AV.ptr (.ofNat 1) 0, AV.ptr (.ofNat 2) 0, AV.fz (u8s x.value) (List.length x.value), v, AV.bool x.asked, AV.bool false, AV.int .i64 (Int.ofNat x.i)] (mkH (hL b s x))) (fAVF v fun v => k AExit.normal [AV.fz (flat actC x.l) (List.length x.l), AV.ptr (.ofNat 0) 0, AV.bool true, AV.ptr (.ofNat 1) 0, AV.ptr (.ofNat 2) 0, AV.fz (u8s x.value) (List.length x.value), v, AV.bool x.asked, AV.bool true, AV.int .i64 (Int.ofNat x.i)] (mkH (hL b s x))) t) (sameS [v, AV.fz (u8s x.value) (List.length x.value)])) (Ans.err 87 0 0)) x.asked) (ilt (Int.ofNat 1) n)) (fAVF d fun v => brec (fAVF v fun v => k AExit.normal [AV.fz (flat actC x.l) (List.length x.l), AV.ptr (.ofNat 0) 0, AV.bool true, AV.ptr (.ofNat 1) 0, AV.ptr (.ofNat 2) 0, AV.fz (u8s x.value) (List.length x.value), v, AV.bool x.asked, AV.bool false, AV.int .i64 (Int.ofNat x.i)] (mkH (hL b s x))) (fAVF v fun v => k AExit.normal [AV.fz (flat actC x.l) (List.length x.l), AV.ptr (.ofNat 0) 0, AV.bool true, AV.ptr (.ofNat 1) 0, AV.ptr (.ofNat 2) 0, AV.fz (u8s x.value) (List.length x.value), v, AV.bool x.asked, AV.bool true, AV.int .i64 (Int.ofNat x.i)] (mkH (hL b s x))) t) q) (fAVF d fun v => brec (fAVF v fun v => k AExit.normal [AV.fz (flat actC x.l) (List.length x.l), AV.ptr (.ofNat 0) 0, AV.bool true, AV.ptr (.ofNat 1) 0, AV.ptr (.ofNat 2) 0, AV.fz (u8s x.value) (List.length x.value), v, AV.bool x.asked, AV.bool false, AV.int .i64 (Int.ofNat x.i)] (mkH (hL b s x))) (fAVF v fun v => k AExit.normal [AV.fz (flat actC x.l) (List.length x.l), AV.ptr (.ofNat 0) 0, AV.bool true, AV.ptr (.ofNat 1) 0, AV.ptr (.ofNat 2) 0, AV.fz (u8s x.value) (List.length x.value), v, AV.bool x.asked, AV.bool true, AV.int .i64 (Int.ofNat x.i)] (mkH (hL b s x))) t) x.over) t) (brec (k AExit.ret [] (mkH (hL b s x))) (fAVF d fun v => guardK (okS ([] ++ ([v, AV.fz (u8s x.last) (List.length x.last)] ++ []))) (brec (k AExit.ret [] (mkH (hL b s x))) (brec (fAVF d fun v => brec (fAVF v fun v => k AExit.normal [AV.fz (flat actC x.l) (List.length x.l), AV.ptr (.ofNat 0) 0, AV.bool true, AV.ptr (.ofNat 1) 0, AV.ptr (.ofNat 2) 0, AV.fz (u8s x.value) (List.length x.value), v, AV.bool x.asked, AV.bool false, AV.int .i64 (Int.ofNat x.i)] (mkH (hL b s x))) (fAVF v fun v => k AExit.normal [AV.fz (flat actC x.l) (List.length x.l), AV.ptr (.ofNat 0) 0, AV.bool true, AV.ptr (.ofNat 1) 0, AV.ptr (.ofNat 2) 0, AV.fz (u8s x.value) (List.length x.value), v, AV.bool x.asked, AV.bool true, AV.int .i64 (Int.ofNat x.i)] (mkH (hL b s x))) t) (brec (brec (fInt b.nodes fun n => brec (fAVF d fun v => brec (fAVF v fun v => k AExit.normal [AV.fz (flat actC x.l) (List.length x.l), AV.ptr (.ofNat 0) 0, AV.bool true, AV.ptr (.ofNat 1) 0, AV.ptr (.ofNat 2) 0, AV.fz (u8s x.value) (List.length x.value), v, AV.bool x.asked, AV.bool false, AV.int .i64 (Int.ofNat x.i)] (mkH (hL b s x))) (fAVF v fun v => k AExit.normal [AV.fz (flat actC x.l) (List.length x.l), AV.ptr (.ofNat 0) 0, AV.bool true, AV.ptr (.ofNat 1) 0, AV.ptr (.ofNat 2) 0, AV.fz (u8s x.value) (List.length x.value), v, AV.bool x.asked, AV.bool true, AV.int .i64 (Int.ofNat x.i)] (mkH (hL b s x))) t) (brec (k AExit.ret [] (mkH (hL b s x))) (fAVF d fun v => guardK (okS ([] ++ ([v, AV.fz (u8s x.value) (List.length x.value)] ++ []))) (brec (k AExit.ret [] (mkH (hL b s x))) (fAVF d fun v => brec (fAVF v fun v => k AExit.normal [AV.fz (flat actC x.l) (List.length x.l), AV.ptr (.ofNat 0) 0, AV.bool true, AV.ptr (.ofNat 1) 0, AV.ptr (.ofNat 2) 0, AV.fz (u8s x.value) (List.length x.value), v, AV.bool x.asked, AV.bool false, AV.int .i64 (Int.ofNat x.i)] (mkH (hL b s x))) (fAVF v fun v => k AExit.normal [AV.fz (flat actC x.l) (List.length x.l), AV.ptr (.ofNat 0) 0, AV.bool true, AV.ptr (.ofNat 1) 0, AV.ptr (.ofNat 2) 0, AV.fz (u8s x.value) (List.length x.value), v, AV.bool x.asked, AV.bool true, AV.int .i64 (Int.ofNat x.i)] (mkH (hL b s x))) t) (sameS [v, AV.fz (u8s x.value) (List.length x.value)])) (Ans.err 87 0 0)) x.asked) (ilt (Int.ofNat 1) n)) (fAVF d fun v => brec (fAVF v fun v => k AExit.normal [AV.fz (flat actC x.l) (List.length x.l), AV.ptr (.ofNat 0) 0, AV.bool true, AV.ptr (.ofNat 1) 0, AV.ptr (.ofNat 2) 0, AV.fz (u8s x.value) (List.length x.value), v, AV.bool x.asked, AV.bool false, AV.int .i64 (Int.ofNat x.i)] (mkH (hL b s x))) (fAVF v fun v => k AExit.normal [AV.fz (flat actC x.l) (List.length x.l), AV.ptr (.ofNat 0) 0, AV.bool true, AV.ptr (.ofNat 1) 0, AV.ptr (.ofNat 2) 0, AV.fz (u8s x.value) (List.length x.value), v, AV.bool x.asked, AV.bool true, AV.int .i64 (Int.ofNat x.i)] (mkH (hL b s x))) t) q) (fAVF d fun v => brec (fAVF v fun v => k AExit.normal [AV.fz (flat actC x.l) (List.length x.l), AV.ptr (.ofNat 0) 0, AV.bool true, AV.ptr (.ofNat 1) 0, AV.ptr (.ofNat 2) 0, AV.fz (u8s x.value) (List.length x.value), v, AV.bool x.asked, AV.bool false, AV.int .i64 (Int.ofNat x.i)] (mkH (hL b s x))) (fAVF v fun v => k AExit.normal [AV.fz (flat actC x.l) (List.length x.l), AV.ptr (.ofNat 0) 0, AV.bool true, AV.ptr (.ofNat 1) 0, AV.ptr (.ofNat 2) 0, AV.fz (u8s x.value) (List.length x.value), v, AV.bool x.asked, AV.bool true, AV.int .i64 (Int.ofNat x.i)] (mkH (hL b s x))) t) x.over) t) (sameS [v, AV.fz (u8s x.last) (List.length x.last)])) (Ans.err 87 0 0)) t) x.over) (Ans.err 0 0 0)) (fAVF v fun v_1 => guardK (fx3 = fx3 ∧ r30 = r30 ∧ Sub0 (mkTm (tmL x ++ [(19, d), (20, AV.bool t)])) (mkTm [(1, AV.fz (flat actC x.l) (List.length x.l)), (2, AV.ptr (.ofNat 0) 0), (5, AV.bool true), (6, AV.ptr (.ofNat 1) 0), (8, AV.ptr (.ofNat 2) 0), (9, AV.fz (u8s x.value) (List.length x.value)), (10, AV.fz (u8s x.last) (List.length x.last)), (11, AV.bool x.asked), (12, AV.bool x.over), (13, AV.int .i64 (Int.ofNat x.i)), (19, v_1), (20, AV.bool true), (193, AV.tup [d, AV.bool t]), (194, AV.ptr (.ofNat 1) 0), (195, AV.tup [d, AV.bool t]), (196, v), (197, AV.bool true)]) ∧ mkH (hL b s x) = mkH (hL b s x) ∧ MkNil []) (brec (brec (fAVF d fun v => brec (fAVF v fun v => k AExit.normal [AV.fz (flat actC x.l) (List.length x.l), AV.ptr (.ofNat 0) 0, AV.bool true, AV.ptr (.ofNat 1) 0, AV.ptr (.ofNat 2) 0, AV.fz (u8s x.value) (List.length x.value), v, AV.bool x.asked, AV.bool false, AV.int .i64 (Int.ofNat x.i)] (mkH (hL b s x))) (fAVF v fun v => k AExit.normal [AV.fz (flat actC x.l) (List.length x.l), AV.ptr (.ofNat 0) 0, AV.bool true, AV.ptr (.ofNat 1) 0, AV.ptr (.ofNat 2) 0, AV.fz (u8s x.value) (List.length x.value), v, AV.bool x.asked, AV.bool true, AV.int .i64 (Int.ofNat x.i)] (mkH (hL b s x))) t) (brec (brec (fInt b.nodes fun n => brec (fAVF d fun v => brec (fAVF v fun v => k AExit.normal [AV.fz (flat actC x.l) (List.length x.l), AV.ptr (.ofNat 0) 0, AV.bool true, AV.ptr (.ofNat 1) 0, AV.ptr (.ofNat 2) 0, AV.fz (u8s x.value) (List.length x.value), v, AV.bool x.asked, AV.bool false, AV.int .i64 (Int.ofNat x.i)] (mkH (hL b s x))) (fAVF v fun v => k AExit.normal [AV.fz (flat actC x.l) (List.length x.l), AV.ptr (.ofNat 0) 0, AV.bool true, AV.ptr (.ofNat 1) 0, AV.ptr (.ofNat 2) 0, AV.fz (u8s x.value) (List.length x.value), v, AV.bool x.asked, AV.bool true, AV.int .i64 (Int.ofNat x.i)] (mkH (hL b s x))) t) (brec (k AExit.ret [] (mkH (hL b s x))) (fAVF d fun v => guardK (okS ([] ++ ([v, AV.fz (u8s x.value) (List.length x.value)] ++ []))) (brec (k AExit.ret [] (mkH (hL b s x))) (fAVF d fun v => brec (fAVF v fun v => k AExit.normal [AV.fz (flat actC x.l) (List.length x.l), AV.ptr (.ofNat 0) 0, AV.bool true, AV.ptr (.ofNat 1) 0, AV.ptr (.ofNat 2) 0, AV.fz (u8s x.value) (List.length x.value), v, AV.bool x.asked, AV.bool false, AV.int .i64 (Int.ofNat x.i)] (mkH (hL b s x))) (fAVF v fun v => k AExit.normal [AV.fz (flat actC x.l) (List.length x.l), AV.ptr (.ofNat 0) 0, AV.bool true, AV.ptr (.ofNat 1) 0, AV.ptr (.ofNat 2) 0, AV.fz (u8s x.value) (List.length x.value), v, AV.bool x.asked, AV.bool true, AV.int .i64 (Int.ofNat x.i)] (mkH (hL b s x))) t) (sameS [v, AV.fz (u8s x.value) (List.length x.value)])) (Ans.err 87 0 0)) x.asked) (ilt (Int.ofNat 1) n)) (fAVF d fun v => brec (fAVF v fun v => k AExit.normal [AV.fz (flat actC x.l) (List.length x.l), AV.ptr (.ofNat 0) 0, AV.bool true, AV.ptr (.ofNat 1) 0, AV.ptr (.ofNat 2) 0, AV.fz (u8s x.value) (List.length x.value), v, AV.bool x.asked, AV.bool false, AV.int .i64 (Int.ofNat x.i)] (mkH (hL b s x))) (fAVF v fun v => k AExit.normal [AV.fz (flat actC x.l) (List.length x.l), AV.ptr (.ofNat 0) 0, AV.bool true, AV.ptr (.ofNat 1) 0, AV.ptr (.ofNat 2) 0, AV.fz (u8s x.value) (List.length x.value), v, AV.bool x.asked, AV.bool true, AV.int .i64 (Int.ofNat x.i)] (mkH (hL b s x))) t) q) (fAVF d fun v => brec (fAVF v fun v => k AExit.normal [AV.fz (flat actC x.l) (List.length x.l), AV.ptr (.ofNat 0) 0, AV.bool true, AV.ptr (.ofNat 1) 0, AV.ptr (.ofNat 2) 0, AV.fz (u8s x.value) (List.length x.value), v, AV.bool x.asked, AV.bool false, AV.int .i64 (Int.ofNat x.i)] (mkH (hL b s x))) (fAVF v fun v => k AExit.normal [AV.fz (flat actC x.l) (List.length x.l), AV.ptr (.ofNat 0) 0, AV.bool true, AV.ptr (.ofNat 1) 0, AV.ptr (.ofNat 2) 0, AV.fz (u8s x.value) (List.length x.value), v, AV.bool x.asked, AV.bool true, AV.int .i64 (Int.ofNat x.i)] (mkH (hL b s x))) t) x.over) t) (brec (k AExit.ret [] (mkH (hL b s x))) (fAVF d fun v => guardK (okS ([] ++ ([v, AV.fz (u8s x.last) (List.length x.last)] ++ []))) (brec (k AExit.ret [] (mkH (hL b s x))) (brec (fAVF d fun v => brec (fAVF v fun v => k AExit.normal [AV.fz (flat actC x.l) (List.length x.l), AV.ptr (.ofNat 0) 0, AV.bool true, AV.ptr (.ofNat 1) 0, AV.ptr (.ofNat 2) 0, AV.fz (u8s x.value) (List.length x.value), v, AV.bool x.asked, AV.bool false, AV.int .i64 (Int.ofNat x.i)] (mkH (hL b s x))) (fAVF v fun v => k AExit.normal [AV.fz (flat actC x.l) (List.length x.l), AV.ptr (.ofNat 0) 0, AV.bool true, AV.ptr (.ofNat 1) 0, AV.ptr (.ofNat 2) 0, AV.fz (u8s x.value) (List.length x.value), v, AV.bool x.asked, AV.bool true, AV.int .i64 (Int.ofNat x.i)] (mkH (hL b s x))) t) (brec (brec (fInt b.nodes fun n => brec (fAVF d fun v => brec (fAVF v fun v => k AExit.normal [AV.fz (flat actC x.l) (List.length x.l), AV.ptr (.ofNat 0) 0, AV.bool true, AV.ptr (.ofNat 1) 0, AV.ptr (.ofNat 2) 0, AV.fz (u8s x.value) (List.length x.value), v, AV.bool x.asked, AV.bool false, AV.int .i64 (Int.ofNat x.i)] (mkH (hL b s x))) (fAVF v fun v => k AExit.normal [AV.fz (flat actC x.l) (List.length x.l), AV.ptr (.ofNat 0) 0, AV.bool true, AV.ptr (.ofNat 1) 0, AV.ptr (.ofNat 2) 0, AV.fz (u8s x.value) (List.length x.value), v, AV.bool x.asked, AV.bool true, AV.int .i64 (Int.ofNat x.i)] (mkH (hL b s x))) t) (brec (k AExit.ret [] (mkH (hL b s x))) (fAVF d fun v => guardK (okS ([] ++ ([v, AV.fz (u8s x.value) (List.length x.value)] ++ []))) (brec (k AExit.ret [] (mkH (hL b s x))) (fAVF d fun v => brec (fAVF v fun v => k AExit.normal [AV.fz (flat actC x.l) (List.length x.l), AV.ptr (.ofNat 0) 0, AV.bool true, AV.ptr (.ofNat 1) 0, AV.ptr (.ofNat 2) 0, AV.fz (u8s x.value) (List.length x.value), v, AV.bool x.asked, AV.bool false, AV.int .i64 (Int.ofNat x.i)] (mkH (hL b s x))) (fAVF v fun v => k AExit.normal [AV.fz (flat actC x.l) (List.length x.l), AV.ptr (.ofNat 0) 0, AV.bool true, AV.ptr (.ofNat 1) 0, AV.ptr (.ofNat 2) 0, AV.fz (u8s x.value) (List.length x.value), v, AV.bool x.asked, AV.bool true, AV.int .i64 (Int.ofNat x.i)] (mkH (hL b s x))) t) (sameS [v, AV.fz (u8s x.value) (List.length x.value)])) (Ans.err 87 0 0)) x.asked) (ilt (Int.ofNat 1) n)) (fAVF d fun v => brec (fAVF v fun v => k AExit.normal [AV.fz (flat actC x.l) (List.length x.l), AV.ptr (.ofNat 0) 0, AV.bool true, AV.ptr (.ofNat 1) 0, AV.ptr (.ofNat 2) 0, AV.fz (u8s x.value) (List.length x.value), v, AV.bool x.asked, AV.bool false, AV.int .i64 (Int.ofNat x.i)] (mkH (hL b s x))) (fAVF v fun v => k AExit.normal [AV.fz (flat actC x.l) (List.length x.l), AV.ptr (.ofNat 0) 0, AV.bool true, AV.ptr (.ofNat 1) 0, AV.ptr (.ofNat 2) 0, AV.fz (u8s x.value) (List.length x.value), v, AV.bool x.asked, AV.bool true, AV.int .i64 (Int.ofNat x.i)] (mkH (hL b s x))) t) q) (fAVF d fun v => brec (fAVF v fun v => k AExit.normal [AV.fz (flat actC x.l) (List.length x.l), AV.ptr (.ofNat 0) 0, AV.bool true, AV.ptr (.ofNat 1) 0, AV.ptr (.ofNat 2) 0, AV.fz (u8s x.value) (List.length x.value), v, AV.bool x.asked, AV.bool false, AV.int .i64 (Int.ofNat x.i)] (mkH (hL b s x))) (fAVF v fun v => k AExit.normal [AV.fz (flat actC x.l) (List.length x.l), AV.ptr (.ofNat 0) 0, AV.bool true, AV.ptr (.ofNat 1) 0, AV.ptr (.ofNat 2) 0, AV.fz (u8s x.value) (List.length x.value), v, AV.bool x.asked, AV.bool true, AV.int .i64 (Int.ofNat x.i)] (mkH (hL b s x))) t) x.over) t) (sameS [v, AV.fz (u8s x.last) (List.length x.last)])) (Ans.err 87 0 0)) t) x.over) (Ans.err 0 0 0)) t) (Ans.err 84 0 0) := by kernel_rfl

/-- Less told of the temporaries. -/
def WkT (tm tm' : Tm) : Prop := ∀ p v, tm'.get p = some v → ∃ v0, tm.get p = some v0 ∧ Wk v0 v

theorem CodeOK.wkT {P : Program} {fx : Fx} {c : Code} {tm tm1 tm2 : Tm} {A A' : H} {e : AExit} (hrnd : fx.rnd = none) (h : CodeOK P fx c tm A [] e tm1 A' []) (hw : WkT tm1 tm2) : CodeOK P fx c tm A [] e tm2 A' [] :=
  CodeOK.of_base hrnd fun ρ0 w0 hr0 => (CodeR.of hrnd h).post fun ρ w t h1 h2 h3 => ⟨ρ, h1, h2, fun p v hv =>
    let ⟨v0, g1, g2⟩ := hw p v hv
    let ⟨v', g3, g4⟩ := h3 p v0 g1
    ⟨v', g3, g2 _ _ g4⟩⟩

theorem done_okG {s : PS} (h0 : s.nodes ≠ 0) (h : s.value.length < 400000) : FunOK Try.prog 10 [.ptr (.ofNat 0) 0] (mkH [some (propO s)]) (.tup [donV s, .bool (decide (s.phase = 3))]) (mkH [some (propO s)]) := by
  have c0 : ieq (Int.ofNat s.nodes) (Int.ofNat 0) = false := ieq_false (by show ¬ ((s.nodes : Int) = 0); omega)
  have hv4 : Nat.beq (u8s s.value).length s.value.length = true := AM.beq_true (u8s_len _)
  have hv5 : Nat.blt s.value.length 400000 = true := blt_true h
  by_cases h3 : s.phase = 3
  · have c1 : ieq s.phase (Int.ofNat 3) = true := ieq_true h3
    rw [show donV s = .fz (u8s s.value) s.value.length from if_pos h3, decide_eq_true h3]
    exact FunOK.of_runH hmix (OrOK.cons good_clone .nil) .nil (N := 1000) (f := 10) fun k => (donT s k).trans (by
      simp only [fInt_eq, c0, c1, hv4, hv5, boolK_true, brec_true, brec_false, Bool.not_true])
  · have c1 : ieq s.phase (Int.ofNat 3) = false := ieq_false h3
    rw [show donV s = .nils from if_neg h3, decide_eq_false h3]
    exact FunOK.of_runH hmix (OrOK.cons good_clone .nil) .nil (N := 1000) (f := 10) fun k => (donT s k).trans (by
      simp only [fInt_eq, c0, c1, boolK_true, brec_true, brec_false, Bool.not_false])

theorem done_ok {s : PS} (h : Inv s) : FunOK Try.prog 10 [.ptr (.ofNat 0) 0] (mkH [some (propO s)]) (.tup [donV s, .bool (decide (s.phase = 3))]) (mkH [some (propO s)]) := done_okG (by have := h.n1; omega) h.value.1

theorem donV_ok {s : PS} (h : okb s.value) : okD (donV s) := by
  unfold donV
  split
  · exact .inr ⟨_, h.2, rfl⟩
  · exact .inl rfl

theorem sameS_self (l : List Nat) : sameS [.fz (u8s l) l.length, .fz (u8s l) l.length] = true := ceq_self _

/-- What the law has behind a round. -/
noncomputable def lastL (s : PS) (x : LS) : LS := { x with last := if s.phase = 3 then s.value else [], over := decide (s.phase = 3) }

noncomputable def eR (x : LS) (d : AV) (t : Bool) : List AV := [.fz (flat actC x.l) x.l.length, .ptr (.ofNat 0) 0, .bool true, .ptr (.ofNat 1) 0, .ptr (.ofNat 2) 0, .fz (u8s x.value) x.value.length, d, .bool x.asked, .bool t, .int .i64 (.ofNat x.i)]

theorem rest_run {b : BS} {s : PS} {x : LS} {a : AS} (h0 : s.nodes ≠ 0) (h : okb s.value) (ha : x.l[x.i]? = some a) (hx : isBytes a.x.data) (hl : isBytes x.last) (hv : isBytes x.value) (h1 : x.over = true → s.phase = 3 ∧ x.last = s.value) (h2 : s.phase = 3 → x.over = false → toldB a (donV s) = false → 1 < b.nodes → x.asked = true ∧ x.value = s.value) :
    CodeOK Try.prog fx3 cR (mkTm (tmL x)) (mkH (hL b s x)) [] .normal (mkTm ([1, 2, 5, 6, 8, 9, 10, 11, 12, 13].zip (eR x (donV s) (decide (s.phase = 3))))) (mkH (hL b s x)) [] := by
  have g := good_obj (p := 1) (args' := [.ptr (.ofNat 1) 0]) (done_okG h0 h.1) (fun σ => prop_ren σ _) (fun σ => prop_ren σ _) (fun τ => by
    unfold donV; split <;> rfl) (fun σ hσ => by show [AV.ptr (σ Pos.z) 0] = _; rw [hσ])
  have T := told30 (b := b) (s := s) (t := decide (s.phase = 3)) ha (donV_ok h) hx
  refine CodeOK.of_pick hmix (OrOK.cons good_S (OrOK.cons g .nil)) (HolesOK.one (exSub_ok T)) (N := 1000) [1, 2, 5, 6, 8, 9, 10, 11, 12, 13] [] [] fun k => (rcR b s x _ _ _ k).trans ?_
  generalize hq : toldB a (donV s) = q at h2
  by_cases p : s.phase = 3
  · have hd : donV s = .fz (u8s s.value) s.value.length := if_pos p
    rw [hd, decide_eq_true p]
    refine (guardK_pos (by repeat' first | trivial | rfl | constructor) _ _).trans ?_
    simp only [fAVF_fz, brec_true, brec_false]
    refine (guardK_pos (by repeat' first | trivial | rfl | exact LTm.nil | refine LTm.cons (by kernel_rfl) ?_ | refine Sub0.of_list ?_ | constructor) _ _).trans ?_
    cases ho : x.over
    · simp only [brec_true, brec_false, fAVF_fz, fInt_eq]
      cases q
      · cases hn : ilt (Int.ofNat 1) b.nodes
        · simp only [brec_true, brec_false, Bool.not_false, Bool.not_true]
          unfold eR
          try exact rfl
        · obtain ⟨e1, e2⟩ := h2 p ho rfl (by rw [ilt_iff] at hn; exact of_decide_eq_true hn)
          have ok1 : okS ([] ++ ([.fz (u8s s.value) s.value.length, .fz (u8s x.value) x.value.length] ++ [])) := ⟨_, _, h.2, hv, .inl rfl⟩
          have ss : sameS [.fz (u8s s.value) s.value.length, .fz (u8s x.value) x.value.length] = true := by rw [e2]; exact sameS_self _
          simp only [brec_true, brec_false, fAVF_fz, fInt_eq, e1, Bool.not_false, Bool.not_true]
          unfold eR
          rw [e1]
          refine (guardK_pos ok1 _ _).trans ?_
          simp only [ss, brec_true]
          try exact rfl
      · exact rfl
    · obtain ⟨_, e2⟩ := h1 ho
      have ok1 : okS ([] ++ ([.fz (u8s s.value) s.value.length, .fz (u8s x.last) x.last.length] ++ [])) := ⟨_, _, h.2, hl, .inl rfl⟩
      have ss : sameS [.fz (u8s s.value) s.value.length, .fz (u8s x.last) x.last.length] = true := by rw [e2]; exact sameS_self _
      simp only [brec_true, brec_false, fAVF_fz, fInt_eq]
      refine (guardK_pos ok1 _ _).trans ?_
      simp only [ss, brec_true]
      try exact rfl
  · have hd : donV s = .nils := if_neg p
    have ho : x.over = false := by
      cases ho : x.over
      · rfl
      · exact absurd (h1 ho).1 p
    rw [hd, decide_eq_false p]
    refine (guardK_pos (by repeat' first | trivial | rfl | constructor) _ _).trans ?_
    have fn : ∀ k : AV → Ans, fAVF .nils k = k .nils := fun _ => rfl
    simp only [fn, brec_true, brec_false]
    refine (guardK_pos (by repeat' first | trivial | rfl | exact LTm.nil | refine LTm.cons (by kernel_rfl) ?_ | refine Sub0.of_list ?_ | constructor) _ _).trans ?_
    simp only [ho, brec_true, brec_false, fn]
    try exact rfl

theorem wkT_list {l l' : List (Nat × AV)} (h : ∀ y ∈ l', ∃ v0, (mkTm l).get (.ofNat y.1) = some v0 ∧ Wk v0 y.2) : WkT (mkTm l) (mkTm l') := fun p v e => by
  obtain ⟨x, hx, rfl, rfl⟩ := mkTm_get l' p v e
  exact h x hx

theorem rest_okG {b : BS} {s : PS} {x : LS} {a : AS} (h0 : s.nodes ≠ 0) (h : okb s.value) (ha : x.l[x.i]? = some a) (hx : isBytes a.x.data) (hl : isBytes x.last) (hv : isBytes x.value) (h1 : x.over = true → s.phase = 3 ∧ x.last = s.value) (h2 : s.phase = 3 → x.over = false → toldB a (donV s) = false → 1 < b.nodes → x.asked = true ∧ x.value = s.value) :
    CodeOK Try.prog fx3 cR (mkTm (tmL x)) (mkH (hL b s x)) [] .normal (mkTm (tmL (lastL s x))) (mkH (hL b s x)) [] := by
  have R := rest_run (b := b) h0 h ha hx hl hv h1 h2
  by_cases p : s.phase = 3
  · have hd : donV s = .fz (u8s s.value) s.value.length := if_pos p
    have hx : lastL s x = { x with last := s.value, over := true } := by unfold lastL; rw [if_pos p, decide_eq_true p]
    rw [hd, decide_eq_true p] at R
    rw [hx]
    exact R
  · have hd : donV s = .nils := if_neg p
    have hx : lastL s x = { x with last := [], over := false } := by unfold lastL; rw [if_neg p, decide_eq_false p]
    rw [hd, decide_eq_false p] at R
    rw [hx]
    refine CodeOK.wkT rfl R (wkT_list fun y hy => ?_)
    rcases List.mem_cons.1 hy with rfl | hy
    · exact ⟨_, by kernel_rfl, Wk.refl _⟩
    rcases List.mem_cons.1 hy with rfl | hy
    · exact ⟨_, by kernel_rfl, Wk.refl _⟩
    rcases List.mem_cons.1 hy with rfl | hy
    · exact ⟨_, by kernel_rfl, Wk.refl _⟩
    rcases List.mem_cons.1 hy with rfl | hy
    · exact ⟨_, by kernel_rfl, Wk.refl _⟩
    rcases List.mem_cons.1 hy with rfl | hy
    · exact ⟨_, by kernel_rfl, Wk.refl _⟩
    rcases List.mem_cons.1 hy with rfl | hy
    · exact ⟨_, by kernel_rfl, Wk.refl _⟩
    rcases List.mem_cons.1 hy with rfl | hy
    · exact ⟨.nils, by kernel_rfl, Wk.nils⟩
    rcases List.mem_cons.1 hy with rfl | hy
    · exact ⟨_, by kernel_rfl, Wk.refl _⟩
    rcases List.mem_cons.1 hy with rfl | hy
    · exact ⟨_, by kernel_rfl, Wk.refl _⟩
    rcases List.mem_cons.1 hy with rfl | hy
    · exact ⟨_, by kernel_rfl, Wk.refl _⟩
    cases hy

theorem rest_ok {b : BS} {s : PS} {x : LS} {a : AS} (h : Inv s) (ha : x.l[x.i]? = some a) (hx : isBytes a.x.data) (hl : isBytes x.last) (hv : isBytes x.value) (h1 : x.over = true → s.phase = 3 ∧ x.last = s.value) (h2 : s.phase = 3 → x.over = false → toldB a (donV s) = false → x.asked = true ∧ x.value = s.value) :
    CodeOK Try.prog fx3 cR (mkTm (tmL x)) (mkH (hL b s x)) [] .normal (mkTm (tmL (lastL s x))) (mkH (hL b s x)) [] :=
  rest_okG (by have := h.n1; omega) h.value ha hx hl hv h1 fun a b c _ => h2 a b c

noncomputable def r12 : Code := subC [1,1,1,1,1,1,1,0,1,1,1,1,0,1,1,0,0] (bodyC Try.f3)

noncomputable def r19b4 : Code := subC [1,1,1,1,1,1,1,0,1,1,1,1,0,1,1,1,0,0] (bodyC Try.f3)

noncomputable def blk4 : Code := subC [1,1,1,1,1,1,1,0,1,1,1,1,0,1,1,1,0,1] (bodyC Try.f3)

noncomputable def inner : Code := subC [1,1,1,1,1,1,1,0,1,1,1,1,0,1] (bodyC Try.f3)

theorem inner_eq : inner = .seq r11 (.seq (.seq r12 c2) (.seq (.seq r19b4 blk4) cR)) := by kernel_rfl

theorem ra12 (b : BS) (s : PS) (x : LS) (F : List AV) (n : Nat) (N : List AV) (m : Nat) (k : AExit → List AV → H → Ans) :
    execH Try.prog .leaf [] 1000 fx3 r12 (mkTm ([1, 2, 5, 6, 8, 9, 10, 11, 12, 13, 14, 15].zip (g11 x F n N m))) (mkH (hL b s x)) [] (pickK [1, 2, 5, 6, 8, 9, 10, 11, 12, 13, 14, 15, 16] [] [] k)
    = k AExit.normal [AV.fz (flat actC x.l) (List.length x.l), AV.ptr (.ofNat 0) 0, AV.bool true, AV.ptr (.ofNat 1) 0, AV.ptr (.ofNat 2) 0, AV.fz (u8s x.value) (List.length x.value), AV.fz (u8s x.last) (List.length x.last), AV.bool x.asked, AV.bool x.over, AV.int .i64 (Int.ofNat x.i), AV.fz F n, AV.fz N m, AV.int .i64 (Int.ofNat 0)] (mkH (hL b s x)) := by kernel_rfl

theorem ra19b (b : BS) (s : PS) (x : LS) (N : List AV) (m : Nat) (k : AExit → List AV → H → Ans) :
    execH Try.prog .leaf [] 1000 fx3 r19b4 (mkTm ([1, 2, 5, 6, 8, 9, 10, 11, 12, 13, 15].zip (f2 x N m))) (mkH (hL b s x)) [] (pickK [1, 2, 5, 6, 8, 9, 10, 11, 12, 13, 15, 17] [] [] k)
    = k AExit.normal [AV.fz (flat actC x.l) (List.length x.l), AV.ptr (.ofNat 0) 0, AV.bool true, AV.ptr (.ofNat 1) 0, AV.ptr (.ofNat 2) 0, AV.fz (u8s x.value) (List.length x.value), AV.fz (u8s x.last) (List.length x.last), AV.bool x.asked, AV.bool x.over, AV.int .i64 (Int.ofNat x.i), AV.fz N m, AV.int .i64 (Int.ofNat 0)] (mkH (hL b s x)) := by kernel_rfl

theorem reg12 (b : BS) (s : PS) (x : LS) (F : List AV) (n : Nat) (N : List AV) (m : Nat) : CodeOK Try.prog fx3 r12 (mkTm ([1, 2, 5, 6, 8, 9, 10, 11, 12, 13, 14, 15].zip (g11 x F n N m))) (mkH (hL b s x)) [] .normal (mkTm (tmF x F n N m)) (mkH (hL b s x)) [] :=
  CodeOK.of_pick (l := g11 x F n N m ++ [.int .i64 (.ofNat 0)]) hmix .leaf .nil (N := 1000) [1, 2, 5, 6, 8, 9, 10, 11, 12, 13, 14, 15, 16] [] [] fun k => (ra12 b s x F n N m k).trans rfl

theorem reg19 (b : BS) (s : PS) (x : LS) (N : List AV) (m : Nat) : CodeOK Try.prog fx3 r19b4 (mkTm ([1, 2, 5, 6, 8, 9, 10, 11, 12, 13, 15].zip (f2 x N m))) (mkH (hL b s x)) [] .normal (mkTm (tmN x N m 0)) (mkH (hL b s x)) [] :=
  CodeOK.of_pick (l := f2 x N m ++ [.int .i64 (.ofNat 0)]) hmix .leaf .nil (N := 1000) [1, 2, 5, 6, 8, 9, 10, 11, 12, 13, 15, 17] [] [] fun k => (ra19b b s x N m k).trans rfl

/-- What stands behind the notes. -/
def x3L (s : PS) (x : LS) (ms : List Int) : LS := if ms.length = 0 then x else NX s x

/-- A round of the law, put together. -/
theorem inner_ok {b : BS} {s s' : PS} {x x2 : LS} {a : AS} {F : List AV} {n : Nat} {ms : List Int} (ha : x.l[x.i]? = some a) (R : FunOK Try.prog 7 [.ptr (.ofNat 0) 0, .agg (actC a), .agg (beginC b)] (mkH [some (propO s)]) (.tup [.fz F n, .fz (flat (noteC s') ms) ms.length]) (mkH [some (propO s')]))
    (hF : CodeOK Try.prog fx3 c2 (mkTm (tmF x F n (flat (noteC s') ms) ms.length)) (mkH (hL b s' x)) [] .normal (mkTm ([1, 2, 5, 6, 8, 9, 10, 11, 12, 13, 15].zip (f2 x2 (flat (noteC s') ms) ms.length))) (mkH (hL b s' x2)) [])
    (hms : ∀ to ∈ ms, to ≠ (s'.me : Int)) (hl : ms.length < 1000000) (hN : NInv b s' x2)
    (hR : CodeOK Try.prog fx3 cR (mkTm (tmL (x3L s' x2 ms))) (mkH (hL b s' (x3L s' x2 ms))) [] .normal (mkTm (tmL (lastL s' (x3L s' x2 ms)))) (mkH (hL b s' (x3L s' x2 ms))) []) :
    CodeOK Try.prog fx3 inner (mkTm (tmL x)) (mkH (hL b s x)) [] .normal (mkTm (tmL (lastL s' (x3L s' x2 ms)))) (mkH (hL b s' (x3L s' x2 ms))) [] := by
  have h4 := block4 hms hl hN
  have e : hL b s' x2 = hL b s' (x3L s' x2 ms) := by
    unfold x3L
    split
    · rfl
    · exact (hL_nx b s' x2).symm
  rw [e] at h4
  have h19 := reg19 b s' x2 (flat (noteC s') ms) ms.length
  rw [e] at h19 hF
  rw [inner_eq]
  exact (act11 ha R).seq (((reg12 b s' x F n _ _).seq hF).seq ((h19.seq h4).seq hR))

end Pro
