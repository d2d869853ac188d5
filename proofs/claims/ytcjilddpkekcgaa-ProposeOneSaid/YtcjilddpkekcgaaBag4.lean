import Derived.Test.YtcjilddpkekcgaaBag3
import Derived.KernelRfl
set_option maxHeartbeats 0
set_option maxRecDepth 1000000
set_option linter.unusedSimpArgs false
set_option linter.unusedVariables false
open Go Go.AM Go.Proofs
namespace Pro

def earlyB (s : PS) (x : NS) : Bool := decide (x.to ≠ s.me ∨ x.frm < 1 ∨ (s.nodes : Int) < x.frm ∨ x.frm = s.me ∨ x.set ≠ s.set)

def decB (s : PS) (x : NS) : Bool := decide (x.kind = 13 ∨ x.kind = 15 ∧ x.yes = true ∧ x.c1 = s.c1 ∧ x.c2 = s.c2 ∧ x.c3 = s.c3)

def othB (s : PS) (x : NS) : Bool := decide (¬ (x.c1 = s.c1 ∧ x.c2 = s.c2 ∧ x.c3 = s.c3) ∨ ¬ (x.b1 = s.b1 ∧ x.b2 = s.b2) ∨ (x.kind ≠ 10 ∧ x.kind ≠ 12))

def askB (s : PS) (x : NS) (f : Nat) : Bool := decide (¬ (s.phase = 1 ∧ x.kind = 10 ∨ s.phase = 2 ∧ x.kind = 12) ∨ s.ys f = true)

noncomputable def newB (s : PS) (x : NS) : Bool := decide (x.kind = 10 ∧ bless s.e1 s.e2 x.o1 x.o2 = true)

noncomputable def o19 (t : Nat) (b : Bool) : List (Nat × AV) := [0, 4, 5, 6, 7, t].zip [.ptr (.ofNat 0) 0, .ptr (.ofNat 1) 0, .ptr (.ofNat 2) 0, .nils, .nils, .bool b]

theorem not_eq_of {p : Prop} {b : Bool} (h : ¬ p) (hb : b = true → p) : b = false := by cases b; rfl; exact absurd (hb rfl) h

theorem ieq_dec (a b : Int) : ieq a b = decide (a = b) := by
  by_cases h : a = b
  · rw [ieq_true h, decide_eq_true h]
  · rw [ieq_false h, decide_eq_false h]

theorem ilt_dec (a b : Int) : ilt a b = decide (a < b) := by
  by_cases h : a < b
  · rw [ilt_true h, decide_eq_true h]
  · rw [ilt_false (by omega), decide_eq_false h]

theorem early_ok (s : PS) (x : NS) (v : VS) (h0 : s.nodes ≠ 0) : CodeOK Try.prog fx19 r19a (mkTm tm19) (mkH (L19 s x v)) [] .normal (mkTm (o19 51 (earlyB s x))) (mkH (L19 s x v)) [] :=
  CodeOK.of_pick hmix .leaf .nil (N := 1000) [0, 4, 5, 6, 7, 51] [] [] fun k => (ra19 s x v k).trans (by
    have c0 : ieq (Int.ofNat s.nodes) (Int.ofNat 0) = false := ieq_false (by show ¬ ((s.nodes : Int) = 0); omega)
    have c1 : ieq x.to (Int.ofNat s.me) = decide (x.to = (s.me : Int)) := ieq_dec _ _
    have c2 : ilt x.frm (Int.ofNat 1) = decide (x.frm < 1) := ilt_dec _ _
    have c3 : ilt (Int.ofNat s.nodes) x.frm = decide ((s.nodes : Int) < x.frm) := ilt_dec _ _
    have c4 : ieq x.frm (Int.ofNat s.me) = decide (x.frm = (s.me : Int)) := ieq_dec _ _
    have c5 : ieq x.set s.set = decide (x.set = s.set) := ieq_dec _ _
    simp only [fInt_eq, fNat_eq, c0, c1, c2, c3, c4, c5, brec_false, brec_false]
    simp only [earlyB, Bool.decide_or, Bool.decide_and, decide_not, Bool.decide_eq_true, ne_eq]
    generalize decide (x.to = (s.me : Int)) = d0
    generalize decide (x.frm < 1) = d1
    generalize decide ((s.nodes : Int) < x.frm) = d2
    generalize decide (x.frm = (s.me : Int)) = d3
    generalize decide (x.set = s.set) = d4
    cases d0 <;> cases d1 <;> cases d2 <;> cases d3 <;> cases d4 <;> rfl)

theorem dec_ok (s : PS) (x : NS) (v : VS) : CodeOK Try.prog fx19 r19b (mkTm tm19) (mkH (L19 s x v)) [] .normal (mkTm (o19 8 (decB s x))) (mkH (L19 s x v)) [] :=
  CodeOK.of_pick hmix .leaf .nil (N := 1000) [0, 4, 5, 6, 7, 8] [] [] fun k => (rb19 s x v k).trans (by
    have c0 : ieq x.kind (Int.ofNat 13) = decide (x.kind = 13) := ieq_dec _ _
    have c1 : ieq x.kind (Int.ofNat 15) = decide (x.kind = 15) := ieq_dec _ _
    have c2 : ieq x.c1 s.c1 = decide (x.c1 = s.c1) := ieq_dec _ _
    have c3 : ieq x.c2 s.c2 = decide (x.c2 = s.c2) := ieq_dec _ _
    have c4 : ieq x.c3 s.c3 = decide (x.c3 = s.c3) := ieq_dec _ _
    simp only [fInt_eq, fNat_eq, c0, c1, c2, c3, c4, brec_false, brec_false]
    simp only [decB, Bool.decide_or, Bool.decide_and, decide_not, Bool.decide_eq_true, ne_eq]
    generalize decide (x.kind = 13) = d0
    generalize decide (x.kind = 15) = d1
    generalize decide (x.c1 = s.c1) = d2
    generalize decide (x.c2 = s.c2) = d3
    generalize decide (x.c3 = s.c3) = d4
    generalize x.yes = d5
    cases d0 <;> cases d1 <;> cases d2 <;> cases d3 <;> cases d4 <;> cases d5 <;> rfl)

theorem oth_ok (s : PS) (x : NS) (v : VS) : CodeOK Try.prog fx19 r19c (mkTm tm19) (mkH (L19 s x v)) [] .normal (mkTm (o19 118 (othB s x))) (mkH (L19 s x v)) [] :=
  CodeOK.of_pick hmix .leaf .nil (N := 1000) [0, 4, 5, 6, 7, 118] [] [] fun k => (rc19 s x v k).trans (by
    have c0 : ieq x.kind (Int.ofNat 10) = decide (x.kind = 10) := ieq_dec _ _
    have c1 : ieq x.kind (Int.ofNat 12) = decide (x.kind = 12) := ieq_dec _ _
    have c2 : ieq x.c1 s.c1 = decide (x.c1 = s.c1) := ieq_dec _ _
    have c3 : ieq x.c2 s.c2 = decide (x.c2 = s.c2) := ieq_dec _ _
    have c4 : ieq x.c3 s.c3 = decide (x.c3 = s.c3) := ieq_dec _ _
    have c5 : ieq x.b1 s.b1 = decide (x.b1 = s.b1) := ieq_dec _ _
    have c6 : ieq x.b2 s.b2 = decide (x.b2 = s.b2) := ieq_dec _ _
    simp only [fInt_eq, fNat_eq, c0, c1, c2, c3, c4, c5, c6, brec_false, brec_false]
    simp only [othB, Bool.decide_or, Bool.decide_and, decide_not, Bool.decide_eq_true, ne_eq]
    generalize decide (x.kind = 10) = d0
    generalize decide (x.kind = 12) = d1
    generalize decide (x.c1 = s.c1) = d2
    generalize decide (x.c2 = s.c2) = d3
    generalize decide (x.c3 = s.c3) = d4
    generalize decide (x.b1 = s.b1) = d5
    generalize decide (x.b2 = s.b2) = d6
    cases d0 <;> cases d1 <;> cases d2 <;> cases d3 <;> cases d4 <;> cases d5 <;> cases d6 <;> rfl)

theorem ask_ok (s : PS) (x : NS) (v : VS) (f : Nat) (hf : x.frm = .ofNat f) (hl : f < 65) : CodeOK Try.prog fx19 r19d (mkTm tm19) (mkH (L19 s x v)) [] .normal (mkTm (o19 149 (askB s x f))) (mkH (L19 s x v)) [] :=
  CodeOK.of_pick hmix .leaf .nil (N := 1000) [0, 4, 5, 6, 7, 149] [] [] fun k => (rd19 s x v k).trans (by
    have c0 : ieq x.kind (Int.ofNat 10) = decide (x.kind = 10) := ieq_dec _ _
    have c1 : ieq x.kind (Int.ofNat 12) = decide (x.kind = 12) := ieq_dec _ _
    have c2 : ieq s.phase (Int.ofNat 1) = decide (s.phase = 1) := ieq_dec _ _
    have c3 : ieq s.phase (Int.ofNat 2) = decide (s.phase = 2) := ieq_dec _ _
    simp only [fInt_eq, fNat_eq, c0, c1, c2, c3, brec_false, hf, natOf_of, blt_true hl, boolK_true, prop_ys s hl, eBool_b]
    simp only [askB, Bool.decide_or, Bool.decide_and, decide_not, Bool.decide_eq_true, ne_eq]
    generalize decide (x.kind = 10) = d0
    generalize decide (x.kind = 12) = d1
    generalize decide (s.phase = 1) = d2
    generalize decide (s.phase = 2) = d3
    generalize s.ys f = d4
    cases d0 <;> cases d1 <;> cases d2 <;> cases d3 <;> cases d4 <;> rfl)

theorem new_ok (s : PS) (x : NS) (v : VS) : CodeOK Try.prog fx19 r19e (mkTm tm19) (mkH (L19 s x v)) [] .normal (mkTm (o19 167 (newB s x))) (mkH (L19 s x v)) [] :=
  CodeOK.of_pick hmix (OrOK.cons good_less .nil) .nil (N := 1000) [0, 4, 5, 6, 7, 167] [] [] fun k => (re19 s x v k).trans (by
    have c0 : ieq x.kind (Int.ofNat 10) = decide (x.kind = 10) := ieq_dec _ _
    simp only [fInt_eq, fNat_eq, c0, brec_false, brec_false]
    simp only [newB, Bool.decide_or, Bool.decide_and, decide_not, Bool.decide_eq_true, ne_eq]
    generalize decide (x.kind = 10) = d0
    generalize bless s.e1 s.e2 x.o1 x.o2 = d1
    cases d0 <;> cases d1 <;> rfl)

theorem yes19_ok (s : PS) (x : NS) (v : VS) (f : Nat) (hf : x.frm = .ofNat f) (hl : f < 65) : CodeOK Try.prog fx19 r19 (mkTm tm19) (mkH (L19 s x v)) [] .normal (mkTm ([0, 4, 5, 6, 7].zip [.ptr (.ofNat 0) 0, .ptr (.ofNat 1) 0, .ptr (.ofNat 2) 0, .nils, .nils])) (mkH (L19 { s with ys := upd s.ys f true } x v)) [] :=
  CodeOK.of_pick hmix .leaf .nil (N := 1000) [0, 4, 5, 6, 7] [] [] fun k => (yes19 s x v k).trans (by
    simp only [fInt_eq, fNat_eq, hf, natOf_of, blt_true hl, boolK_true, prop_set s true hl]
    try exact rfl)

noncomputable def y19 : List (Nat × AV) := [0, 4, 5, 6, 7].zip [.ptr (.ofNat 0) 0, .ptr (.ofNat 1) 0, .ptr (.ofNat 2) 0, .nils, .nils]

theorem takT (s sB sC sC' sD sD' : PS) (x : NS) (v : VS) (V W : AV) (a b c d e : Bool) (k : AV → H → Ans) :
    bodyF Try.prog (execH Try.prog (mkO [(17, orcClone), (31, orcMax), (33, orcErr), (34, orcMost), (35, orcObj [.ptr (.ofNat 0) 0, .agg (voteC v)] 0 (propO sC) (propO sC') V), (36, orcObj [.ptr (.ofNat 0) 0] 0 (propO sD) (propO sD') W)]) [⟨19, 1001, exSub fx19 r19a (mkTm tm19) (mkH (L19 s x v)) .normal (mkTm (o19 51 a)) (mkH (L19 s x v))⟩, ⟨19, 1003, exSub fx19 r19b (mkTm tm19) (mkH (L19 s x v)) .normal (mkTm (o19 8 b)) (mkH (L19 s x v))⟩, ⟨19, 1007, exSub fx19 r19c (mkTm tm19) (mkH (L19 s x v)) .normal (mkTm (o19 118 c)) (mkH (L19 s x v))⟩, ⟨19, 1012, exSub fx19 r19d (mkTm tm19) (mkH (L19 s x v)) .normal (mkTm (o19 149 d)) (mkH (L19 s x v))⟩, ⟨19, 1014, exSub fx19 r19 (mkTm tm19) (mkH (L19 s x v)) .normal (mkTm y19) (mkH (L19 sB x v))⟩, ⟨19, 1015, exSub fx19 r19e (mkTm tm19) (mkH (L19 sB x v)) .normal (mkTm (o19 167 e)) (mkH (L19 sB x v))⟩] 1000) (Pos.ofNat 19) [] [] [.ptr (.ofNat 0) 0, .agg (noteX x), .agg (voteC v)] (mkH [some (propO s)]) k
    = guardK (fx19 = fx19 ∧ r19a = r19a ∧ Sub0 (mkTm tm19) (mkTm [(0, AV.ptr (.ofNat 0) 0), (1, AV.agg (noteX x)), (2, AV.agg (voteC v)), (4, AV.ptr (.ofNat 1) 0), (5, AV.ptr (.ofNat 2) 0), (6, AV.nils), (7, AV.nils)]) ∧ mkH (L19 s x v) = mkH (L19 s x v) ∧ MkNil []) (boolK a (k (AV.tup [AV.nils, AV.nils]) (mkH (L19 s x v))) (guardK (fx19 = fx19 ∧ r19b = r19b ∧ Sub0 (mkTm tm19) (mkTm [(0, AV.ptr (.ofNat 0) 0), (4, AV.ptr (.ofNat 1) 0), (5, AV.ptr (.ofNat 2) 0), (6, AV.nils), (7, AV.nils), (51, AV.bool a)]) ∧ mkH (L19 s x v) = mkH (L19 s x v) ∧ MkNil []) (brec (guardK (fx19 = fx19 ∧ r19c = r19c ∧ Sub0 (mkTm tm19) (mkTm [(0, AV.ptr (.ofNat 0) 0), (4, AV.ptr (.ofNat 1) 0), (5, AV.ptr (.ofNat 2) 0), (6, AV.nils), (7, AV.nils), (8, AV.bool b), (73, AV.bool false), (74, AV.bool false), (75, AV.tup []), (76, AV.tup []), (77, AV.tup []), (78, AV.tup []), (79, AV.tup []), (80, AV.bool false)]) ∧ mkH (L19 s x v) = mkH (L19 s x v) ∧ MkNil []) (boolK c (k (AV.tup [AV.nils, AV.nils]) (mkH (L19 s x v))) (brec (k (AV.tup [AV.nils, AV.nils]) (mkH [some (HObj.cells (AV.int .i64 s.set :: AV.int .i64 (Int.ofNat s.me) :: AV.int .i64 (Int.ofNat s.nodes) :: AV.int .i64 s.c1 :: AV.int .i64 s.c2 :: AV.int .i64 s.c3 :: AV.fz (u8s s.own) (List.length s.own) :: AV.int .i64 s.retry :: AV.int .i64 s.phase :: AV.int .i64 s.b1 :: AV.int .i64 s.b2 :: AV.int .i64 (bmx (bmx (0, 0) (PS.s1 s, PS.s2 s)) (NS.o1 x, NS.o2 x)).1 :: AV.int .i64 (bmx (bmx (0, 0) (PS.s1 s, PS.s2 s)) (NS.o1 x, NS.o2 x)).2 :: AV.int .i64 s.e1 :: AV.int .i64 s.e2 :: yl s.ys 65 0 [AV.fz (u8s s.told) (List.length s.told), AV.fz (u8s s.value) (List.length s.value), AV.int .i64 s.ticks, AV.int .i64 s.wait]) 84 false), some (HObj.cells (noteX x) 48 false), some (HObj.cells (voteC v) 6 false), some (HObj.cells [AV.int .i64 s.s1, AV.int .i64 s.s2, AV.int .i64 x.o1, AV.int .i64 x.o2] 2 false)])) (guardK (fx19 = fx19 ∧ r19d = r19d ∧ Sub0 (mkTm tm19) (mkTm [(0, AV.ptr (.ofNat 0) 0), (4, AV.ptr (.ofNat 1) 0), (5, AV.ptr (.ofNat 2) 0), (6, AV.nils), (7, AV.nils), (118, AV.bool c), (119, AV.ptr (.ofNat 1) 12), (120, AV.bool true), (121, AV.bool false)]) ∧ mkH (L19 s x v) = mkH (L19 s x v) ∧ MkNil []) (boolK d (k (AV.tup [AV.nils, AV.nils]) (mkH (L19 s x v))) (guardK (fx19 = fx19 ∧ r19 = r19 ∧ Sub0 (mkTm tm19) (mkTm [(0, AV.ptr (.ofNat 0) 0), (4, AV.ptr (.ofNat 1) 0), (5, AV.ptr (.ofNat 2) 0), (6, AV.nils), (7, AV.nils), (149, AV.bool d)]) ∧ mkH (L19 s x v) = mkH (L19 s x v) ∧ MkNil []) (guardK (fx19 = fx19 ∧ r19e = r19e ∧ Sub0 (mkTm tm19) (mkTm [(0, AV.ptr (.ofNat 0) 0), (4, AV.ptr (.ofNat 1) 0), (5, AV.ptr (.ofNat 2) 0), (6, AV.nils), (7, AV.nils)]) ∧ mkH [some (propO sB), some (HObj.cells (noteX x) 48 false), some (HObj.cells (voteC v) 6 false)] = mkH (L19 sB x v) ∧ MkNil []) (boolK e (boolK (Nat.beq (List.length (u8s x.data)) (List.length x.data)) (boolK (Nat.blt (List.length x.data) 400000) (boolK (boolK (ieq x.o1 x.o1) (boolK (ieq x.o2 x.o2) true false) false) (fInt (Int.ofNat sB.nodes) fun n => fInt n fun n => brec (k (AV.tup [AV.nils, AV.nils]) (mkH [some (HObj.cells (AV.int .i64 sB.set :: AV.int .i64 (Int.ofNat sB.me) :: AV.int .i64 (Int.ofNat sB.nodes) :: AV.int .i64 sB.c1 :: AV.int .i64 sB.c2 :: AV.int .i64 sB.c3 :: AV.fz (u8s sB.own) (List.length sB.own) :: AV.int .i64 sB.retry :: AV.int .i64 sB.phase :: AV.int .i64 sB.b1 :: AV.int .i64 sB.b2 :: AV.int .i64 sB.s1 :: AV.int .i64 sB.s2 :: AV.int .i64 x.o1 :: AV.int .i64 x.o2 :: yl sB.ys 65 0 [AV.fz (u8s x.data) (List.length x.data), AV.fz (u8s sB.value) (List.length sB.value), AV.int .i64 sB.ticks, AV.int .i64 sB.wait]) 84 false), some (HObj.cells (noteX x) 48 false), some (HObj.cells (voteC v) 6 false)])) (fInt sB.phase fun n => brec (guardK ([AV.ptr (.ofNat 0) 0] = [AV.ptr (.ofNat 0) 0] ∧ some (HObj.cells (AV.int .i64 sB.set :: AV.int .i64 (Int.ofNat sB.me) :: AV.int .i64 (Int.ofNat sB.nodes) :: AV.int .i64 sB.c1 :: AV.int .i64 sB.c2 :: AV.int .i64 sB.c3 :: AV.fz (u8s sB.own) (List.length sB.own) :: AV.int .i64 sB.retry :: AV.int .i64 sB.phase :: AV.int .i64 sB.b1 :: AV.int .i64 sB.b2 :: AV.int .i64 sB.s1 :: AV.int .i64 sB.s2 :: AV.int .i64 x.o1 :: AV.int .i64 x.o2 :: yl sB.ys 65 0 [AV.fz (u8s x.data) (List.length x.data), AV.fz (u8s sB.value) (List.length sB.value), AV.int .i64 sB.ticks, AV.int .i64 sB.wait]) 84 false) = some (propO sD)) (fAVF W fun v_1 => eTup v_1 (fun l => nthK l 0 (fun v_2 => fAVF v_2 fun v_3 => eTup v_1 (fun l => nthK l 1 (fun v_4 => fAVF v_4 fun v_5 => fAVF v_3 fun v_6 => fAVF v_5 fun v_7 => k (AV.tup [v_6, v_7]) (mkH [some (propO sD'), some (HObj.cells (noteX x) 48 false), some (HObj.cells (voteC v) 6 false)])) (Ans.err 19 3 36)) (Ans.err 19 3 36)) (Ans.err 19 2 36)) (Ans.err 19 2 36)) (Ans.err 84 0 0)) (guardK ([AV.ptr (.ofNat 0) 0, AV.agg (voteC v)] = [AV.ptr (.ofNat 0) 0, AV.agg (voteC v)] ∧ some (HObj.cells (AV.int .i64 sB.set :: AV.int .i64 (Int.ofNat sB.me) :: AV.int .i64 (Int.ofNat sB.nodes) :: AV.int .i64 sB.c1 :: AV.int .i64 sB.c2 :: AV.int .i64 sB.c3 :: AV.fz (u8s sB.own) (List.length sB.own) :: AV.int .i64 sB.retry :: AV.int .i64 sB.phase :: AV.int .i64 sB.b1 :: AV.int .i64 sB.b2 :: AV.int .i64 sB.s1 :: AV.int .i64 sB.s2 :: AV.int .i64 x.o1 :: AV.int .i64 x.o2 :: yl sB.ys 65 0 [AV.fz (u8s x.data) (List.length x.data), AV.fz (u8s sB.value) (List.length sB.value), AV.int .i64 sB.ticks, AV.int .i64 sB.wait]) 84 false) = some (propO sC)) (fAVF V fun v_1 => eTup v_1 (fun l => nthK l 0 (fun v_2 => fAVF v_2 fun v_3 => eTup v_1 (fun l => nthK l 1 (fun v_4 => fAVF v_4 fun v_5 => fAVF v_3 fun v_6 => fAVF v_5 fun v_7 => k (AV.tup [v_6, v_7]) (mkH [some (propO sC'), some (HObj.cells (noteX x) 48 false), some (HObj.cells (voteC v) 6 false)])) (Ans.err 19 4 36)) (Ans.err 19 4 36)) (Ans.err 19 3 36)) (Ans.err 19 3 36)) (Ans.err 84 0 0)) (ieq n (Int.ofNat 1))) (mostB (yl sB.ys 65 0 []) n)) (Ans.err 19 9 3000)) (Ans.err 82 0 0)) (Ans.err 82 1 0)) (fInt (Int.ofNat sB.nodes) fun n => fInt n fun n => brec (k (AV.tup [AV.nils, AV.nils]) (mkH [some (propO sB), some (HObj.cells (noteX x) 48 false), some (HObj.cells (voteC v) 6 false)])) (fInt sB.phase fun n => brec (guardK ([AV.ptr (.ofNat 0) 0] = [AV.ptr (.ofNat 0) 0] ∧ some (propO sB) = some (propO sD)) (fAVF W fun v_1 => eTup v_1 (fun l => nthK l 0 (fun v_2 => fAVF v_2 fun v_3 => eTup v_1 (fun l => nthK l 1 (fun v_4 => fAVF v_4 fun v_5 => fAVF v_3 fun v_6 => fAVF v_5 fun v_7 => k (AV.tup [v_6, v_7]) (mkH [some (propO sD'), some (HObj.cells (noteX x) 48 false), some (HObj.cells (voteC v) 6 false)])) (Ans.err 19 3 36)) (Ans.err 19 3 36)) (Ans.err 19 2 36)) (Ans.err 19 2 36)) (Ans.err 84 0 0)) (guardK ([AV.ptr (.ofNat 0) 0, AV.agg (voteC v)] = [AV.ptr (.ofNat 0) 0, AV.agg (voteC v)] ∧ some (propO sB) = some (propO sC)) (fAVF V fun v_1 => eTup v_1 (fun l => nthK l 0 (fun v_2 => fAVF v_2 fun v_3 => eTup v_1 (fun l => nthK l 1 (fun v_4 => fAVF v_4 fun v_5 => fAVF v_3 fun v_6 => fAVF v_5 fun v_7 => k (AV.tup [v_6, v_7]) (mkH [some (propO sC'), some (HObj.cells (noteX x) 48 false), some (HObj.cells (voteC v) 6 false)])) (Ans.err 19 4 36)) (Ans.err 19 4 36)) (Ans.err 19 3 36)) (Ans.err 19 3 36)) (Ans.err 84 0 0)) (ieq n (Int.ofNat 1))) (mostB (yl sB.ys 65 0 []) n))) (Ans.err 0 0 0)) (Ans.err 0 0 0))) (Ans.err 0 0 0)) x.yes)) (Ans.err 0 0 0)) (fInt s.phase fun n => brec (guardK (fx19 = fx19 ∧ r19c = r19c ∧ Sub0 (mkTm tm19) (mkTm [(0, AV.ptr (.ofNat 0) 0), (4, AV.ptr (.ofNat 1) 0), (5, AV.ptr (.ofNat 2) 0), (6, AV.nils), (7, AV.nils), (8, AV.bool b), (73, AV.bool true), (74, AV.bool true), (75, AV.ptr (.ofNat 0) 0), (76, AV.ptr (.ofNat 0) 0), (77, AV.ptr (.ofNat 0) 8), (78, AV.int .i64 n), (79, AV.bool false), (80, AV.bool false)]) ∧ mkH (L19 s x v) = mkH (L19 s x v) ∧ MkNil []) (boolK c (k (AV.tup [AV.nils, AV.nils]) (mkH (L19 s x v))) (brec (k (AV.tup [AV.nils, AV.nils]) (mkH [some (HObj.cells (AV.int .i64 s.set :: AV.int .i64 (Int.ofNat s.me) :: AV.int .i64 (Int.ofNat s.nodes) :: AV.int .i64 s.c1 :: AV.int .i64 s.c2 :: AV.int .i64 s.c3 :: AV.fz (u8s s.own) (List.length s.own) :: AV.int .i64 s.retry :: AV.int .i64 s.phase :: AV.int .i64 s.b1 :: AV.int .i64 s.b2 :: AV.int .i64 (bmx (bmx (0, 0) (PS.s1 s, PS.s2 s)) (NS.o1 x, NS.o2 x)).1 :: AV.int .i64 (bmx (bmx (0, 0) (PS.s1 s, PS.s2 s)) (NS.o1 x, NS.o2 x)).2 :: AV.int .i64 s.e1 :: AV.int .i64 s.e2 :: yl s.ys 65 0 [AV.fz (u8s s.told) (List.length s.told), AV.fz (u8s s.value) (List.length s.value), AV.int .i64 s.ticks, AV.int .i64 s.wait]) 84 false), some (HObj.cells (noteX x) 48 false), some (HObj.cells (voteC v) 6 false), some (HObj.cells [AV.int .i64 s.s1, AV.int .i64 s.s2, AV.int .i64 x.o1, AV.int .i64 x.o2] 2 false)])) (guardK (fx19 = fx19 ∧ r19d = r19d ∧ Sub0 (mkTm tm19) (mkTm [(0, AV.ptr (.ofNat 0) 0), (4, AV.ptr (.ofNat 1) 0), (5, AV.ptr (.ofNat 2) 0), (6, AV.nils), (7, AV.nils), (118, AV.bool c), (119, AV.ptr (.ofNat 1) 12), (120, AV.bool true), (121, AV.bool false)]) ∧ mkH (L19 s x v) = mkH (L19 s x v) ∧ MkNil []) (boolK d (k (AV.tup [AV.nils, AV.nils]) (mkH (L19 s x v))) (guardK (fx19 = fx19 ∧ r19 = r19 ∧ Sub0 (mkTm tm19) (mkTm [(0, AV.ptr (.ofNat 0) 0), (4, AV.ptr (.ofNat 1) 0), (5, AV.ptr (.ofNat 2) 0), (6, AV.nils), (7, AV.nils), (149, AV.bool d)]) ∧ mkH (L19 s x v) = mkH (L19 s x v) ∧ MkNil []) (guardK (fx19 = fx19 ∧ r19e = r19e ∧ Sub0 (mkTm tm19) (mkTm [(0, AV.ptr (.ofNat 0) 0), (4, AV.ptr (.ofNat 1) 0), (5, AV.ptr (.ofNat 2) 0), (6, AV.nils), (7, AV.nils)]) ∧ mkH [some (propO sB), some (HObj.cells (noteX x) 48 false), some (HObj.cells (voteC v) 6 false)] = mkH (L19 sB x v) ∧ MkNil []) (boolK e (boolK (Nat.beq (List.length (u8s x.data)) (List.length x.data)) (boolK (Nat.blt (List.length x.data) 400000) (boolK (boolK (ieq x.o1 x.o1) (boolK (ieq x.o2 x.o2) true false) false) (fInt (Int.ofNat sB.nodes) fun n => fInt n fun n => brec (k (AV.tup [AV.nils, AV.nils]) (mkH [some (HObj.cells (AV.int .i64 sB.set :: AV.int .i64 (Int.ofNat sB.me) :: AV.int .i64 (Int.ofNat sB.nodes) :: AV.int .i64 sB.c1 :: AV.int .i64 sB.c2 :: AV.int .i64 sB.c3 :: AV.fz (u8s sB.own) (List.length sB.own) :: AV.int .i64 sB.retry :: AV.int .i64 sB.phase :: AV.int .i64 sB.b1 :: AV.int .i64 sB.b2 :: AV.int .i64 sB.s1 :: AV.int .i64 sB.s2 :: AV.int .i64 x.o1 :: AV.int .i64 x.o2 :: yl sB.ys 65 0 [AV.fz (u8s x.data) (List.length x.data), AV.fz (u8s sB.value) (List.length sB.value), AV.int .i64 sB.ticks, AV.int .i64 sB.wait]) 84 false), some (HObj.cells (noteX x) 48 false), some (HObj.cells (voteC v) 6 false)])) (fInt sB.phase fun n => brec (guardK ([AV.ptr (.ofNat 0) 0] = [AV.ptr (.ofNat 0) 0] ∧ some (HObj.cells (AV.int .i64 sB.set :: AV.int .i64 (Int.ofNat sB.me) :: AV.int .i64 (Int.ofNat sB.nodes) :: AV.int .i64 sB.c1 :: AV.int .i64 sB.c2 :: AV.int .i64 sB.c3 :: AV.fz (u8s sB.own) (List.length sB.own) :: AV.int .i64 sB.retry :: AV.int .i64 sB.phase :: AV.int .i64 sB.b1 :: AV.int .i64 sB.b2 :: AV.int .i64 sB.s1 :: AV.int .i64 sB.s2 :: AV.int .i64 x.o1 :: AV.int .i64 x.o2 :: yl sB.ys 65 0 [AV.fz (u8s x.data) (List.length x.data), AV.fz (u8s sB.value) (List.length sB.value), AV.int .i64 sB.ticks, AV.int .i64 sB.wait]) 84 false) = some (propO sD)) (fAVF W fun v_1 => eTup v_1 (fun l => nthK l 0 (fun v_2 => fAVF v_2 fun v_3 => eTup v_1 (fun l => nthK l 1 (fun v_4 => fAVF v_4 fun v_5 => fAVF v_3 fun v_6 => fAVF v_5 fun v_7 => k (AV.tup [v_6, v_7]) (mkH [some (propO sD'), some (HObj.cells (noteX x) 48 false), some (HObj.cells (voteC v) 6 false)])) (Ans.err 19 3 36)) (Ans.err 19 3 36)) (Ans.err 19 2 36)) (Ans.err 19 2 36)) (Ans.err 84 0 0)) (guardK ([AV.ptr (.ofNat 0) 0, AV.agg (voteC v)] = [AV.ptr (.ofNat 0) 0, AV.agg (voteC v)] ∧ some (HObj.cells (AV.int .i64 sB.set :: AV.int .i64 (Int.ofNat sB.me) :: AV.int .i64 (Int.ofNat sB.nodes) :: AV.int .i64 sB.c1 :: AV.int .i64 sB.c2 :: AV.int .i64 sB.c3 :: AV.fz (u8s sB.own) (List.length sB.own) :: AV.int .i64 sB.retry :: AV.int .i64 sB.phase :: AV.int .i64 sB.b1 :: AV.int .i64 sB.b2 :: AV.int .i64 sB.s1 :: AV.int .i64 sB.s2 :: AV.int .i64 x.o1 :: AV.int .i64 x.o2 :: yl sB.ys 65 0 [AV.fz (u8s x.data) (List.length x.data), AV.fz (u8s sB.value) (List.length sB.value), AV.int .i64 sB.ticks, AV.int .i64 sB.wait]) 84 false) = some (propO sC)) (fAVF V fun v_1 => eTup v_1 (fun l => nthK l 0 (fun v_2 => fAVF v_2 fun v_3 => eTup v_1 (fun l => nthK l 1 (fun v_4 => fAVF v_4 fun v_5 => fAVF v_3 fun v_6 => fAVF v_5 fun v_7 => k (AV.tup [v_6, v_7]) (mkH [some (propO sC'), some (HObj.cells (noteX x) 48 false), some (HObj.cells (voteC v) 6 false)])) (Ans.err 19 4 36)) (Ans.err 19 4 36)) (Ans.err 19 3 36)) (Ans.err 19 3 36)) (Ans.err 84 0 0)) (ieq n (Int.ofNat 1))) (mostB (yl sB.ys 65 0 []) n)) (Ans.err 19 9 3000)) (Ans.err 82 0 0)) (Ans.err 82 1 0)) (fInt (Int.ofNat sB.nodes) fun n => fInt n fun n => brec (k (AV.tup [AV.nils, AV.nils]) (mkH [some (propO sB), some (HObj.cells (noteX x) 48 false), some (HObj.cells (voteC v) 6 false)])) (fInt sB.phase fun n => brec (guardK ([AV.ptr (.ofNat 0) 0] = [AV.ptr (.ofNat 0) 0] ∧ some (propO sB) = some (propO sD)) (fAVF W fun v_1 => eTup v_1 (fun l => nthK l 0 (fun v_2 => fAVF v_2 fun v_3 => eTup v_1 (fun l => nthK l 1 (fun v_4 => fAVF v_4 fun v_5 => fAVF v_3 fun v_6 => fAVF v_5 fun v_7 => k (AV.tup [v_6, v_7]) (mkH [some (propO sD'), some (HObj.cells (noteX x) 48 false), some (HObj.cells (voteC v) 6 false)])) (Ans.err 19 3 36)) (Ans.err 19 3 36)) (Ans.err 19 2 36)) (Ans.err 19 2 36)) (Ans.err 84 0 0)) (guardK ([AV.ptr (.ofNat 0) 0, AV.agg (voteC v)] = [AV.ptr (.ofNat 0) 0, AV.agg (voteC v)] ∧ some (propO sB) = some (propO sC)) (fAVF V fun v_1 => eTup v_1 (fun l => nthK l 0 (fun v_2 => fAVF v_2 fun v_3 => eTup v_1 (fun l => nthK l 1 (fun v_4 => fAVF v_4 fun v_5 => fAVF v_3 fun v_6 => fAVF v_5 fun v_7 => k (AV.tup [v_6, v_7]) (mkH [some (propO sC'), some (HObj.cells (noteX x) 48 false), some (HObj.cells (voteC v) 6 false)])) (Ans.err 19 4 36)) (Ans.err 19 4 36)) (Ans.err 19 3 36)) (Ans.err 19 3 36)) (Ans.err 84 0 0)) (ieq n (Int.ofNat 1))) (mostB (yl sB.ys 65 0 []) n))) (Ans.err 0 0 0)) (Ans.err 0 0 0))) (Ans.err 0 0 0)) x.yes)) (Ans.err 0 0 0)) (boolK (Nat.beq (List.length (u8s x.data)) (List.length x.data)) (boolK (Nat.blt (List.length x.data) 400000) (fInt s.set fun n => boolK (Nat.beq (List.length (u8s x.data)) (List.length x.data)) (boolK (Nat.blt (List.length x.data) 400000) (k (AV.tup [AV.slice (Pos.ofNat 6) 0 1 1 true, AV.nils]) (mkH [some (HObj.cells (AV.int .i64 s.set :: AV.int .i64 (Int.ofNat s.me) :: AV.int .i64 (Int.ofNat s.nodes) :: AV.int .i64 s.c1 :: AV.int .i64 s.c2 :: AV.int .i64 s.c3 :: AV.fz (u8s s.own) (List.length s.own) :: AV.int .i64 s.retry :: AV.int .i64 (Int.ofNat 3) :: AV.int .i64 s.b1 :: AV.int .i64 s.b2 :: AV.int .i64 s.s1 :: AV.int .i64 s.s2 :: AV.int .i64 s.e1 :: AV.int .i64 s.e2 :: yl s.ys 65 0 [AV.fz (u8s s.told) (List.length s.told), AV.fz (u8s x.data) (List.length x.data), AV.int .i64 s.ticks, AV.int .i64 s.wait]) 84 false), some (HObj.cells (noteX x) 48 false), some (HObj.cells (voteC v) 6 false), some (HObj.cells [AV.int .i64 (Int.ofNat 9)] 1 false), some (HObj.cells (AV.int .i64 (Int.ofNat 9) :: AV.int .i64 n :: AV.int .i64 (Int.ofNat 0) :: AV.int .i64 (Int.ofNat 0) :: AV.int .i64 (Int.ofNat 0) :: zid [AV.fz (u8s x.data) (List.length x.data)]) 38 false), some (HObj.cells (AV.int .i64 (Int.ofNat 9) :: AV.int .i64 n :: AV.int .i64 (Int.ofNat 0) :: AV.int .i64 (Int.ofNat 0) :: AV.int .i64 (Int.ofNat 0) :: zid [AV.fz (u8s x.data) (List.length x.data)]) 38 false), some (HObj.cells (AV.int .i64 (Int.ofNat 9) :: AV.int .i64 n :: AV.int .i64 (Int.ofNat 0) :: AV.int .i64 (Int.ofNat 0) :: AV.int .i64 (Int.ofNat 0) :: zid [AV.fz (u8s x.data) (List.length x.data)]) 38 false)])) (Ans.err 82 0 0)) (Ans.err 82 1 0)) (Ans.err 82 0 0)) (Ans.err 82 1 0)) !ieq n (Int.ofNat 3)) b) (Ans.err 0 0 0))) (Ans.err 0 0 0) := by kernel_rfl

theorem takE (s : PS) (x : NS) (v : VS) (a : Bool) (k : AV → H → Ans) :
    bodyF Try.prog (execH Try.prog (mkO [(17, orcErr), (31, orcErr), (33, orcErr), (34, orcErr), (35, orcErr), (36, orcErr)]) [⟨19, 1001, exSub fx19 r19a (mkTm tm19) (mkH (L19 s x v)) .normal (mkTm (o19 51 a)) (mkH (L19 s x v))⟩, ⟨19, 1003, exErr⟩, ⟨19, 1007, exErr⟩, ⟨19, 1012, exErr⟩, ⟨19, 1014, exErr⟩, ⟨19, 1015, exErr⟩] 1000) (Pos.ofNat 19) [] [] [.ptr (.ofNat 0) 0, .agg (noteX x), .agg (voteC v)] (mkH [some (propO s)]) k
    = guardK (fx19 = fx19 ∧ r19a = r19a ∧ Sub0 (mkTm tm19) (mkTm [(0, AV.ptr (.ofNat 0) 0), (1, AV.agg (noteX x)), (2, AV.agg (voteC v)), (4, AV.ptr (.ofNat 1) 0), (5, AV.ptr (.ofNat 2) 0), (6, AV.nils), (7, AV.nils)]) ∧ mkH (L19 s x v) = mkH (L19 s x v) ∧ MkNil []) (boolK a (k (AV.tup [AV.nils, AV.nils]) (mkH (L19 s x v))) (Ans.err 79 0 0)) (Ans.err 0 0 0) := by kernel_rfl

/-- Bytes, not too many. -/
def okb (l : List Nat) : Prop := l.length < 400000 ∧ isBytes l

/-- What always holds. -/
structure Inv (s : PS) : Prop where
  n1 : 2 ≤ s.nodes
  n2 : s.nodes ≤ 64
  m : s.me < 65
  own : okb s.own
  told : okb s.told
  value : okb s.value

/-- What never turns. -/
structure Par (s s' : PS) : Prop where
  set : s'.set = s.set
  me : s'.me = s.me
  nodes : s'.nodes = s.nodes
  c1 : s'.c1 = s.c1
  c2 : s'.c2 = s.c2
  c3 : s'.c3 = s.c3
  own : s'.own = s.own
  retry : s'.retry = s.retry

theorem Par.refl (s : PS) : Par s s := ⟨rfl, rfl, rfl, rfl, rfl, rfl, rfl, rfl⟩

/-- What an act may come to. -/
inductive Out (s : PS) (v : VS) (x : Option NS) (s' : PS) : List AV → Nat → List AV → Nat → Prop
  | quiet : s'.b1 = s.b1 → s'.b2 = s.b2 → s'.value = s.value → (s'.phase = s.phase ∨ s.phase ≠ 3 ∧ s'.phase = 4) → Out s v x s' [] 0 [] 0
  | again (ms : List Int) : MsOK s' true ms → s'.b1 = s.b1 → s'.b2 = s.b2 → s'.value = s.value → s'.phase = s.phase → (s.phase = 1 ∨ s.phase = 2) → Out s v x s' [] 0 (flat (noteC s') ms) ms.length
  | prom (ms : List Int) : MsOK s' false ms → s.phase ≠ 3 → s'.phase = 1 → bless s.b1 s.b2 s'.b1 s'.b2 = true → s'.b2 = s.me → bless v.p1 v.p2 s'.b1 s'.b2 = true → Out s v x s' (factP s'.set s'.b1 s'.b2) 1 (flat (noteC s') ms) ms.length
  | acc (ms : List Int) (n : Nat) : MsOK s' false ms → s.phase = 1 → s'.phase = 2 → s'.b1 = s.b1 → s'.b2 = s.b2 → n ≤ 1 → Out s v x s' (if n = 0 then [] else factC 8 s'.set s'.b1 s'.b2 s'.value) n (flat (noteC s') ms) ms.length
  | dec (ms : List Int) : MsOK s' false ms → s.phase = 2 → s'.phase = 3 → s'.b1 = s.b1 → s'.b2 = s.b2 → s'.value = s.value → Out s v x s' (factC 9 s'.set 0 0 s'.value) 1 (flat (noteC s') ms) ms.length
  | told (y : NS) : x = some y → (y.kind = 13 ∨ y.kind = 15) → s.phase ≠ 3 → s'.phase = 3 → s'.b1 = s.b1 → s'.b2 = s.b2 → s'.value = y.data → Out s v x s' (factC 9 s'.set 0 0 s'.value) 1 [] 0

/-- A call of an act. -/
def ActOK (f : Nat) (args : List AV) (s : PS) (v : VS) (x : Option NS) : Prop :=
  ∃ (s' : PS) (F : List AV) (n : Nat) (N : List AV) (m : Nat), Inv s' ∧ Par s s' ∧ Out s v x s' F n N m ∧ FunOK Try.prog f args (mkH [some (propO s)]) (.tup [.fz F n, .fz N m]) (mkH [some (propO s')])

theorem take_early {s : PS} {x : NS} {v : VS} (h : Inv s) (he : earlyB s x = true) : ActOK 19 [.ptr (.ofNat 0) 0, .agg (noteX x), .agg (voteC v)] s v (some x) := by
  refine ⟨s, [], 0, [], 0, h, .refl s, .quiet rfl rfl rfl (.inl rfl), ?_⟩
  have h0 : s.nodes ≠ 0 := by have := h.n1; omega
  have hc := early_ok s x v h0
  rw [he] at hc
  have R := FunOK.of_runH (v := .tup [.nils, .nils]) (A' := mkH [some (propO s), some (.cells (noteX x) 48 false), some (.cells (voteC v) 6 false)]) hmix (OrOK.cons good_err (OrOK.cons good_err (OrOK.cons good_err (OrOK.cons good_err (OrOK.cons good_err (OrOK.cons good_err .nil)))))) (HolesOK.cons (exSub_ok hc) (HolesOK.cons exErr_ok (HolesOK.cons exErr_ok (HolesOK.cons exErr_ok (HolesOK.cons exErr_ok (HolesOK.cons exErr_ok .nil)))))) (N := 1000) (f := 19) fun k => (takE s x v true k).trans (by
    refine (guardK_pos (by exact ⟨rfl, rfl, Sub0.of_list (by repeat first | exact .nil | refine .cons (by kernel_rfl) ?_), rfl, rfl⟩) _ _).trans ?_
    try exact rfl)
  exact (R.drop1 (fun σ => prop_ren σ _) (fun _ => rfl)).wk (Wk.tup (.cons .nils (.cons .nils .nil))) (.refl _)

noncomputable def run19 (s sB sC sC' sD sD' : PS) (x : NS) (v : VS) (V W : AV) (a b c d e : Bool) (k : AV → H → Ans) : Ans :=
  bodyF Try.prog (execH Try.prog (mkO [(17, orcClone), (31, orcMax), (33, orcErr), (34, orcMost), (35, orcObj [.ptr (.ofNat 0) 0, .agg (voteC v)] 0 (propO sC) (propO sC') V), (36, orcObj [.ptr (.ofNat 0) 0] 0 (propO sD) (propO sD') W)]) [⟨19, 1001, exSub fx19 r19a (mkTm tm19) (mkH (L19 s x v)) .normal (mkTm (o19 51 a)) (mkH (L19 s x v))⟩, ⟨19, 1003, exSub fx19 r19b (mkTm tm19) (mkH (L19 s x v)) .normal (mkTm (o19 8 b)) (mkH (L19 s x v))⟩, ⟨19, 1007, exSub fx19 r19c (mkTm tm19) (mkH (L19 s x v)) .normal (mkTm (o19 118 c)) (mkH (L19 s x v))⟩, ⟨19, 1012, exSub fx19 r19d (mkTm tm19) (mkH (L19 s x v)) .normal (mkTm (o19 149 d)) (mkH (L19 s x v))⟩, ⟨19, 1014, exSub fx19 r19 (mkTm tm19) (mkH (L19 s x v)) .normal (mkTm y19) (mkH (L19 sB x v))⟩, ⟨19, 1015, exSub fx19 r19e (mkTm tm19) (mkH (L19 sB x v)) .normal (mkTm (o19 167 e)) (mkH (L19 sB x v))⟩] 1000) (Pos.ofNat 19) [] [] [.ptr (.ofNat 0) 0, .agg (noteX x), .agg (voteC v)] (mkH [some (propO s)]) k

noncomputable def secL (s : PS) (v : VS) : List AV := if bless s.b1 s.b2 v.p1 v.p2 = true then [] else factC 8 s.set s.b1 s.b2 (valS s)
noncomputable def secN (s : PS) (v : VS) : Nat := if bless s.b1 s.b2 v.p1 v.p2 = true then 0 else 1
theorem secF_eq (s : PS) (v : VS) : secF s v = .fz (secL s v) (secN s v) := by
  unfold secF secL secN
  split <;> rfl

/-- How Take's run is told. -/
theorem take_of {s : PS} {x : NS} {v : VS} {f : Nat} (h : Inv s) (hf : x.frm = .ofNat f) (hl : f < 65) {sN : PS} (hN : Inv sN) :
    ∃ ms1 ms2 : List Int, MsOK sN false ms1 ∧ MsOK (decS sN) false ms2 ∧ ∀ {w : AV} {A' : H}, (∀ k, run19 s { s with ys := upd s.ys f true } sN (secS sN v) sN (decS sN) x v (.tup [.fz (secL sN v) (secN sN v), .fz (flat (noteC (secS sN v)) ms1) ms1.length]) (.tup [.fz (factC 9 sN.set 0 0 sN.value) 1, .fz (flat (noteC (decS sN)) ms2) ms2.length]) (earlyB s x) (decB s x) (othB s x) (askB s x f) (newB { s with ys := upd s.ys f true } x) k = k w A') → FunOK Try.prog 19 [.ptr (.ofNat 0) 0, .agg (noteX x), .agg (voteC v)] (mkH [some (propO s)]) w A' := by
  obtain ⟨ms1, q1, hS⟩ := second_ok (s := sN) (v := v) hN.n1 hN.n2 hN.m hN.own.1 hN.told.1
  obtain ⟨ms2, q2, hD⟩ := decided_ok (s := sN) hN.n2 hN.value.1
  rw [secF_eq] at hS
  refine ⟨ms1, ms2, q1, q2, fun hk => ?_⟩
  have h0 : s.nodes ≠ 0 := by have := h.n1; omega
  have g1 := good_obj (p := 0) (args' := [.ptr (.ofNat 0) 0, .agg (voteC v)]) hS (fun σ => prop_ren σ _) (fun σ => prop_ren σ _) (fun _ => rfl) (fun σ hσ => by show [AV.ptr (σ Pos.z) 0, AV.agg (voteC v)] = _; rw [hσ])
  have g2 := good_obj (p := 0) (args' := [.ptr (.ofNat 0) 0]) hD (fun σ => prop_ren σ _) (fun σ => prop_ren σ _) (fun _ => rfl) (fun σ hσ => by show [AV.ptr (σ Pos.z) 0] = _; rw [hσ])
  exact FunOK.of_runH hmix (OrOK.cons good_clone (OrOK.cons good_max (OrOK.cons good_err (OrOK.cons good_most (OrOK.cons g1 (OrOK.cons g2 .nil)))))) (HolesOK.cons (exSub_ok (early_ok s x v h0)) (HolesOK.cons (exSub_ok (dec_ok s x v)) (HolesOK.cons (exSub_ok (oth_ok s x v)) (HolesOK.cons (exSub_ok (ask_ok s x v f hf hl)) (HolesOK.cons (exSub_ok (yes19_ok s x v f hf hl)) (HolesOK.cons (exSub_ok (new_ok { s with ys := upd s.ys f true } x v)) .nil)))))) (N := 1000) (f := 19) hk

theorem MsOK.of {s s' : PS} {g : Bool} {ms : List Int} (h : MsOK s g ms) (h1 : s'.me = s.me) (h2 : s'.nodes = s.nodes) : MsOK s' g ms := by
  unfold MsOK; rw [h1, h2]; exact h

theorem fAVF_tup (a b : AV) (k : AV → Ans) : fAVF (.tup [a, b]) k = k (.tup [a, b]) := by rw [fAVF_eq]; rfl
theorem fAVF_fz (l : List AV) (n : Nat) (k : AV → Ans) : fAVF (.fz l n) k = k (.fz l n) := by rw [fAVF_eq]; rfl
theorem eTup_tup (l : List AV) (f : List AV → Ans) (e : Ans) : eTup (.tup l) f e = f l := rfl
theorem nthK_0 (a b : AV) (f : AV → Ans) (e : Ans) : nthK [a, b] 0 f e = f a := rfl
theorem nthK_1 (a b : AV) (f : AV → Ans) (e : Ans) : nthK [a, b] 1 f e = f b := rfl

theorem secL_eq (s : PS) (v : VS) : secL s v = if secN s v = 0 then [] else factC 8 (secS s v).set (secS s v).b1 (secS s v).b2 (secS s v).value := by
  unfold secL secN
  split <;> rfl

theorem take_late {s : PS} {x : NS} {v : VS} (h : Inv s) (hd : okb x.data) (he : earlyB s x = false) : ActOK 19 [.ptr (.ofNat 0) 0, .agg (noteX x), .agg (voteC v)] s v (some x) := by
  have hE := of_decide_eq_false he
  have hf : x.frm = .ofNat x.frm.toNat := by show x.frm = ((x.frm.toNat : Nat) : Int); omega
  have hl : x.frm.toNat < 65 := by have := h.n2; omega
  generalize x.frm.toNat = f at hf hl
  have hv4 : Nat.beq (u8s x.data).length x.data.length = true := AM.beq_true (u8s_len _)
  have hv5 : Nat.blt x.data.length 400000 = true := blt_true hd.1
  have quiet : ∀ {s' : PS} {G : HL}, Inv s' → Par s s' → s'.b1 = s.b1 → s'.b2 = s.b2 → s'.value = s.value → s'.phase = s.phase → FunOK Try.prog 19 [.ptr (.ofNat 0) 0, .agg (noteX x), .agg (voteC v)] (mkH [some (propO s)]) (.tup [.nils, .nils]) (mkH (some (propO s') :: G)) → ActOK 19 [.ptr (.ofNat 0) 0, .agg (noteX x), .agg (voteC v)] s v (some x) :=
    fun {s'} {G} i p q1 q2 q3 q4 R => ⟨s', [], 0, [], 0, i, p, .quiet q1 q2 q3 (.inl q4), (R.drop1 (fun σ => prop_ren σ _) (fun _ => rfl)).wk (Wk.tup (.cons .nils (.cons .nils .nil))) (.refl _)⟩
  have nob : ∀ {b : Bool}, ¬ b = true → b = false := fun {b} hb => by cases b; rfl; exact absurd rfl hb
  by_cases h1 : decB s x = true ∧ s.phase ≠ 3
  · obtain ⟨hb, hp⟩ := h1
    have c1 : ieq s.phase (Int.ofNat 3) = false := ieq_false hp
    obtain ⟨ms1, ms2, q1, q2, T⟩ := take_of (v := v) h hf hl h
    have R := T (w := .tup [.slice (.ofNat 6) 0 1 1 true, .nils]) (A' := mkH [some (propO { s with phase := 3, value := x.data }), some (.cells (noteX x) 48 false), some (.cells (voteC v) 6 false), some (.cells [.int .i64 (.ofNat 9)] 1 false), some (.cells (factC 9 s.set 0 0 x.data) 38 false), some (.cells (factC 9 s.set 0 0 x.data) 38 false), some (.cells (factC 9 s.set 0 0 x.data) 38 false)]) fun k => (takT s _ _ _ _ _ x v _ _ _ _ _ _ _ k).trans (by
      simp only [fInt_eq, fNat_eq, he, hb, c1, hv4, hv5, boolK_true, boolK_false, brec_true, brec_false, Bool.not_false, Bool.not_true]
      refine (guardK_pos (by repeat' first | trivial | rfl | exact LTm.nil | refine LTm.cons (by kernel_rfl) ?_ | refine Sub0.of_list ?_ | constructor) _ _).trans ?_
      refine (guardK_pos (by repeat' first | trivial | rfl | exact LTm.nil | refine LTm.cons (by kernel_rfl) ?_ | refine Sub0.of_list ?_ | constructor) _ _).trans ?_
      try exact rfl)
    refine ⟨{ s with phase := 3, value := x.data }, _, 1, [], 0, ⟨h.n1, h.n2, h.m, h.own, h.told, hd⟩, ⟨rfl, rfl, rfl, rfl, rfl, rfl, rfl, rfl⟩, .told x rfl ?_ hp rfl rfl rfl rfl, ?_⟩
    · rcases of_decide_eq_true hb with hk | ⟨hk, _⟩
      · exact .inl hk
      · exact .inr hk
    · exact (R.iceDrop (propC_pf _) 5 (l := factC 9 s.set 0 0 x.data) (esz := 38) (v' := .tup [.fz (factC 9 s.set 0 0 x.data) 1, .nils]) rfl rfl (by kernel_rfl) (fun _ => rfl)).wk (Wk.tup (.cons (.refl _) (.cons .nils .nil))) (.refl _)
  · have hbp : (decB s x = false) ∨ (decB s x = true ∧ s.phase = 3) := by
      cases hb : decB s x
      · exact .inl rfl
      · exact .inr ⟨rfl, by apply Classical.byContradiction; intro hp; exact h1 ⟨hb, hp⟩⟩
    cases hc : othB s x
    · cases hy : x.yes
      · obtain ⟨ms1, ms2, q1, q2, T⟩ := take_of (v := v) h hf hl h
        have R : FunOK Try.prog 19 [.ptr (.ofNat 0) 0, .agg (noteX x), .agg (voteC v)] (mkH [some (propO s)]) (.tup [.nils, .nils]) (mkH (some (propO { s with s1 := (bmx (bmx (0, 0) (s.s1, s.s2)) (x.o1, x.o2)).1, s2 := (bmx (bmx (0, 0) (s.s1, s.s2)) (x.o1, x.o2)).2 }) :: [some (.cells (noteX x) 48 false), some (.cells (voteC v) 6 false), some (.cells [.int .i64 s.s1, .int .i64 s.s2, .int .i64 x.o1, .int .i64 x.o2] 2 false)])) := by
          rcases hbp with hb | ⟨hb, hp⟩
          · exact T fun k => (takT s _ _ _ _ _ x v _ _ _ _ _ _ _ k).trans (by
              simp only [fInt_eq, fNat_eq, he, hb, hc, hy, hv4, hv5, ieq_self, boolK_true, boolK_false, brec_true, brec_false, Bool.not_false, Bool.not_true]
              refine (guardK_pos (by repeat' first | trivial | rfl | exact LTm.nil | refine LTm.cons (by kernel_rfl) ?_ | refine Sub0.of_list ?_ | constructor) _ _).trans ?_
              refine (guardK_pos (by repeat' first | trivial | rfl | exact LTm.nil | refine LTm.cons (by kernel_rfl) ?_ | refine Sub0.of_list ?_ | constructor) _ _).trans ?_
              refine (guardK_pos (by repeat' first | trivial | rfl | exact LTm.nil | refine LTm.cons (by kernel_rfl) ?_ | refine Sub0.of_list ?_ | constructor) _ _).trans ?_
              try exact rfl)
          · have c3 : ieq s.phase (Int.ofNat 3) = true := ieq_true hp
            exact T fun k => (takT s _ _ _ _ _ x v _ _ _ _ _ _ _ k).trans (by
              simp only [fInt_eq, fNat_eq, he, hb, c3, hc, hy, hv4, hv5, ieq_self, boolK_true, boolK_false, brec_true, brec_false, Bool.not_false, Bool.not_true]
              refine (guardK_pos (by repeat' first | trivial | rfl | exact LTm.nil | refine LTm.cons (by kernel_rfl) ?_ | refine Sub0.of_list ?_ | constructor) _ _).trans ?_
              refine (guardK_pos (by repeat' first | trivial | rfl | exact LTm.nil | refine LTm.cons (by kernel_rfl) ?_ | refine Sub0.of_list ?_ | constructor) _ _).trans ?_
              refine (guardK_pos (by repeat' first | trivial | rfl | exact LTm.nil | refine LTm.cons (by kernel_rfl) ?_ | refine Sub0.of_list ?_ | constructor) _ _).trans ?_
              try exact rfl)
        exact quiet (s' := { s with s1 := (bmx (bmx (0, 0) (s.s1, s.s2)) (x.o1, x.o2)).1, s2 := (bmx (bmx (0, 0) (s.s1, s.s2)) (x.o1, x.o2)).2 }) ⟨h.n1, h.n2, h.m, h.own, h.told, h.value⟩ ⟨rfl, rfl, rfl, rfl, rfl, rfl, rfl, rfl⟩ rfl rfl rfl rfl R
      · cases ha : askB s x f
        · have hA := of_decide_eq_false ha
          have hph : s.phase ≠ 1 → s.phase = 2 := fun hn => Classical.byContradiction fun h2 => hA (.inl (by rintro (⟨q, _⟩ | ⟨q, _⟩); exact hn q; exact h2 q))
          cases hn : newB { s with ys := upd s.ys f true } x
          · have hN : Inv { s with ys := upd s.ys f true } := ⟨h.n1, h.n2, h.m, h.own, h.told, h.value⟩
            have hP : Par s { s with ys := upd s.ys f true } := ⟨rfl, rfl, rfl, rfl, rfl, rfl, rfl, rfl⟩
            obtain ⟨ms1, ms2, q1, q2, T⟩ := take_of (v := v) h hf hl hN
            cases hm : mostB (yl (upd s.ys f true) 65 0 []) (Int.ofNat s.nodes)
            · have R : FunOK Try.prog 19 [.ptr (.ofNat 0) 0, .agg (noteX x), .agg (voteC v)] (mkH [some (propO s)]) (.tup [.nils, .nils]) (mkH (some (propO { s with ys := upd s.ys f true }) :: [some (.cells (noteX x) 48 false), some (.cells (voteC v) 6 false)])) := by
                rcases hbp with hb | ⟨hb, hp⟩
                · exact T fun k => (takT s _ _ _ _ _ x v _ _ _ _ _ _ _ k).trans (by
                    simp only [fInt_eq, fNat_eq, he, hb, hc, hy, ha, hn, hm, hv4, hv5, ieq_self, boolK_true, boolK_false, brec_true, brec_false, Bool.not_false, Bool.not_true]
                    refine (guardK_pos (by repeat' first | trivial | rfl | exact LTm.nil | refine LTm.cons (by kernel_rfl) ?_ | refine Sub0.of_list ?_ | constructor) _ _).trans ?_
                    refine (guardK_pos (by repeat' first | trivial | rfl | exact LTm.nil | refine LTm.cons (by kernel_rfl) ?_ | refine Sub0.of_list ?_ | constructor) _ _).trans ?_
                    refine (guardK_pos (by repeat' first | trivial | rfl | exact LTm.nil | refine LTm.cons (by kernel_rfl) ?_ | refine Sub0.of_list ?_ | constructor) _ _).trans ?_
                    refine (guardK_pos (by repeat' first | trivial | rfl | exact LTm.nil | refine LTm.cons (by kernel_rfl) ?_ | refine Sub0.of_list ?_ | constructor) _ _).trans ?_
                    refine (guardK_pos (by repeat' first | trivial | rfl | exact LTm.nil | refine LTm.cons (by kernel_rfl) ?_ | refine Sub0.of_list ?_ | constructor) _ _).trans ?_
                    refine (guardK_pos (by repeat' first | trivial | rfl | exact LTm.nil | refine LTm.cons (by kernel_rfl) ?_ | refine Sub0.of_list ?_ | constructor) _ _).trans ?_
                    try exact rfl)
                · have c3 : ieq s.phase (Int.ofNat 3) = true := ieq_true hp
                  exact T fun k => (takT s _ _ _ _ _ x v _ _ _ _ _ _ _ k).trans (by
                    simp only [fInt_eq, fNat_eq, he, hb, c3, hc, hy, ha, hn, hm, hv4, hv5, ieq_self, boolK_true, boolK_false, brec_true, brec_false, Bool.not_false, Bool.not_true]
                    refine (guardK_pos (by repeat' first | trivial | rfl | exact LTm.nil | refine LTm.cons (by kernel_rfl) ?_ | refine Sub0.of_list ?_ | constructor) _ _).trans ?_
                    refine (guardK_pos (by repeat' first | trivial | rfl | exact LTm.nil | refine LTm.cons (by kernel_rfl) ?_ | refine Sub0.of_list ?_ | constructor) _ _).trans ?_
                    refine (guardK_pos (by repeat' first | trivial | rfl | exact LTm.nil | refine LTm.cons (by kernel_rfl) ?_ | refine Sub0.of_list ?_ | constructor) _ _).trans ?_
                    refine (guardK_pos (by repeat' first | trivial | rfl | exact LTm.nil | refine LTm.cons (by kernel_rfl) ?_ | refine Sub0.of_list ?_ | constructor) _ _).trans ?_
                    refine (guardK_pos (by repeat' first | trivial | rfl | exact LTm.nil | refine LTm.cons (by kernel_rfl) ?_ | refine Sub0.of_list ?_ | constructor) _ _).trans ?_
                    refine (guardK_pos (by repeat' first | trivial | rfl | exact LTm.nil | refine LTm.cons (by kernel_rfl) ?_ | refine Sub0.of_list ?_ | constructor) _ _).trans ?_
                    try exact rfl)
              exact quiet hN hP rfl rfl rfl rfl R
            · by_cases hp1 : s.phase = 1
              · have c1 : ieq s.phase (Int.ofNat 1) = true := ieq_true hp1
                have R : FunOK Try.prog 19 [.ptr (.ofNat 0) 0, .agg (noteX x), .agg (voteC v)] (mkH [some (propO s)]) (.tup [.fz (secL { s with ys := upd s.ys f true } v) (secN { s with ys := upd s.ys f true } v), .fz (flat (noteC (secS { s with ys := upd s.ys f true } v)) ms1) ms1.length]) (mkH (some (propO (secS { s with ys := upd s.ys f true } v)) :: [some (.cells (noteX x) 48 false), some (.cells (voteC v) 6 false)])) := by
                  rcases hbp with hb | ⟨hb, hp⟩
                  · exact T fun k => (takT s _ _ _ _ _ x v _ _ _ _ _ _ _ k).trans (by
                      simp only [fInt_eq, fNat_eq, he, hb, hc, hy, ha, hn, hm, c1, fAVF_tup, fAVF_fz, eTup_tup, nthK_0, nthK_1, hv4, hv5, ieq_self, boolK_true, boolK_false, brec_true, brec_false, Bool.not_false, Bool.not_true]
                      refine (guardK_pos (by repeat' first | trivial | rfl | exact LTm.nil | refine LTm.cons (by kernel_rfl) ?_ | refine Sub0.of_list ?_ | constructor) _ _).trans ?_
                      refine (guardK_pos (by repeat' first | trivial | rfl | exact LTm.nil | refine LTm.cons (by kernel_rfl) ?_ | refine Sub0.of_list ?_ | constructor) _ _).trans ?_
                      refine (guardK_pos (by repeat' first | trivial | rfl | exact LTm.nil | refine LTm.cons (by kernel_rfl) ?_ | refine Sub0.of_list ?_ | constructor) _ _).trans ?_
                      refine (guardK_pos (by repeat' first | trivial | rfl | exact LTm.nil | refine LTm.cons (by kernel_rfl) ?_ | refine Sub0.of_list ?_ | constructor) _ _).trans ?_
                      refine (guardK_pos (by repeat' first | trivial | rfl | exact LTm.nil | refine LTm.cons (by kernel_rfl) ?_ | refine Sub0.of_list ?_ | constructor) _ _).trans ?_
                      refine (guardK_pos (by repeat' first | trivial | rfl | exact LTm.nil | refine LTm.cons (by kernel_rfl) ?_ | refine Sub0.of_list ?_ | constructor) _ _).trans ?_
                      refine (guardK_pos (by repeat' first | trivial | rfl | exact LTm.nil | refine LTm.cons (by kernel_rfl) ?_ | refine Sub0.of_list ?_ | constructor) _ _).trans ?_
                      try exact rfl)
                  · have c3 : ieq s.phase (Int.ofNat 3) = true := ieq_true hp
                    exact T fun k => (takT s _ _ _ _ _ x v _ _ _ _ _ _ _ k).trans (by
                      simp only [fInt_eq, fNat_eq, he, hb, c3, hc, hy, ha, hn, hm, c1, fAVF_tup, fAVF_fz, eTup_tup, nthK_0, nthK_1, hv4, hv5, ieq_self, boolK_true, boolK_false, brec_true, brec_false, Bool.not_false, Bool.not_true]
                      refine (guardK_pos (by repeat' first | trivial | rfl | exact LTm.nil | refine LTm.cons (by kernel_rfl) ?_ | refine Sub0.of_list ?_ | constructor) _ _).trans ?_
                      refine (guardK_pos (by repeat' first | trivial | rfl | exact LTm.nil | refine LTm.cons (by kernel_rfl) ?_ | refine Sub0.of_list ?_ | constructor) _ _).trans ?_
                      refine (guardK_pos (by repeat' first | trivial | rfl | exact LTm.nil | refine LTm.cons (by kernel_rfl) ?_ | refine Sub0.of_list ?_ | constructor) _ _).trans ?_
                      refine (guardK_pos (by repeat' first | trivial | rfl | exact LTm.nil | refine LTm.cons (by kernel_rfl) ?_ | refine Sub0.of_list ?_ | constructor) _ _).trans ?_
                      refine (guardK_pos (by repeat' first | trivial | rfl | exact LTm.nil | refine LTm.cons (by kernel_rfl) ?_ | refine Sub0.of_list ?_ | constructor) _ _).trans ?_
                      refine (guardK_pos (by repeat' first | trivial | rfl | exact LTm.nil | refine LTm.cons (by kernel_rfl) ?_ | refine Sub0.of_list ?_ | constructor) _ _).trans ?_
                      refine (guardK_pos (by repeat' first | trivial | rfl | exact LTm.nil | refine LTm.cons (by kernel_rfl) ?_ | refine Sub0.of_list ?_ | constructor) _ _).trans ?_
                      try exact rfl)
                have hval : okb (valS { s with ys := upd s.ys f true }) := by unfold valS; split; exact hN.told; exact hN.own
                refine ⟨secS { s with ys := upd s.ys f true } v, _, _, _, _, ⟨h.n1, h.n2, h.m, h.own, hN.told, hval⟩, ⟨rfl, rfl, rfl, rfl, rfl, rfl, rfl, rfl⟩, ?_, R.drop1 (fun σ => prop_ren σ _) (fun _ => rfl)⟩
                rw [secL_eq]
                exact .acc ms1 _ (q1.of rfl rfl) hp1 rfl rfl rfl (by unfold secN; split <;> omega)
              · have c1 : ieq s.phase (Int.ofNat 1) = false := ieq_false hp1
                have R : FunOK Try.prog 19 [.ptr (.ofNat 0) 0, .agg (noteX x), .agg (voteC v)] (mkH [some (propO s)]) (.tup [.fz (factC 9 s.set 0 0 s.value) 1, .fz (flat (noteC (decS { s with ys := upd s.ys f true })) ms2) ms2.length]) (mkH (some (propO (decS { s with ys := upd s.ys f true })) :: [some (.cells (noteX x) 48 false), some (.cells (voteC v) 6 false)])) := by
                  rcases hbp with hb | ⟨hb, hp⟩
                  · exact T fun k => (takT s _ _ _ _ _ x v _ _ _ _ _ _ _ k).trans (by
                      simp only [fInt_eq, fNat_eq, he, hb, hc, hy, ha, hn, hm, c1, fAVF_tup, fAVF_fz, eTup_tup, nthK_0, nthK_1, hv4, hv5, ieq_self, boolK_true, boolK_false, brec_true, brec_false, Bool.not_false, Bool.not_true]
                      refine (guardK_pos (by repeat' first | trivial | rfl | exact LTm.nil | refine LTm.cons (by kernel_rfl) ?_ | refine Sub0.of_list ?_ | constructor) _ _).trans ?_
                      refine (guardK_pos (by repeat' first | trivial | rfl | exact LTm.nil | refine LTm.cons (by kernel_rfl) ?_ | refine Sub0.of_list ?_ | constructor) _ _).trans ?_
                      refine (guardK_pos (by repeat' first | trivial | rfl | exact LTm.nil | refine LTm.cons (by kernel_rfl) ?_ | refine Sub0.of_list ?_ | constructor) _ _).trans ?_
                      refine (guardK_pos (by repeat' first | trivial | rfl | exact LTm.nil | refine LTm.cons (by kernel_rfl) ?_ | refine Sub0.of_list ?_ | constructor) _ _).trans ?_
                      refine (guardK_pos (by repeat' first | trivial | rfl | exact LTm.nil | refine LTm.cons (by kernel_rfl) ?_ | refine Sub0.of_list ?_ | constructor) _ _).trans ?_
                      refine (guardK_pos (by repeat' first | trivial | rfl | exact LTm.nil | refine LTm.cons (by kernel_rfl) ?_ | refine Sub0.of_list ?_ | constructor) _ _).trans ?_
                      refine (guardK_pos (by repeat' first | trivial | rfl | exact LTm.nil | refine LTm.cons (by kernel_rfl) ?_ | refine Sub0.of_list ?_ | constructor) _ _).trans ?_
                      try exact rfl)
                  · have c3 : ieq s.phase (Int.ofNat 3) = true := ieq_true hp
                    exact T fun k => (takT s _ _ _ _ _ x v _ _ _ _ _ _ _ k).trans (by
                      simp only [fInt_eq, fNat_eq, he, hb, c3, hc, hy, ha, hn, hm, c1, fAVF_tup, fAVF_fz, eTup_tup, nthK_0, nthK_1, hv4, hv5, ieq_self, boolK_true, boolK_false, brec_true, brec_false, Bool.not_false, Bool.not_true]
                      refine (guardK_pos (by repeat' first | trivial | rfl | exact LTm.nil | refine LTm.cons (by kernel_rfl) ?_ | refine Sub0.of_list ?_ | constructor) _ _).trans ?_
                      refine (guardK_pos (by repeat' first | trivial | rfl | exact LTm.nil | refine LTm.cons (by kernel_rfl) ?_ | refine Sub0.of_list ?_ | constructor) _ _).trans ?_
                      refine (guardK_pos (by repeat' first | trivial | rfl | exact LTm.nil | refine LTm.cons (by kernel_rfl) ?_ | refine Sub0.of_list ?_ | constructor) _ _).trans ?_
                      refine (guardK_pos (by repeat' first | trivial | rfl | exact LTm.nil | refine LTm.cons (by kernel_rfl) ?_ | refine Sub0.of_list ?_ | constructor) _ _).trans ?_
                      refine (guardK_pos (by repeat' first | trivial | rfl | exact LTm.nil | refine LTm.cons (by kernel_rfl) ?_ | refine Sub0.of_list ?_ | constructor) _ _).trans ?_
                      refine (guardK_pos (by repeat' first | trivial | rfl | exact LTm.nil | refine LTm.cons (by kernel_rfl) ?_ | refine Sub0.of_list ?_ | constructor) _ _).trans ?_
                      refine (guardK_pos (by repeat' first | trivial | rfl | exact LTm.nil | refine LTm.cons (by kernel_rfl) ?_ | refine Sub0.of_list ?_ | constructor) _ _).trans ?_
                      try exact rfl)
                exact ⟨decS { s with ys := upd s.ys f true }, _, _, _, _, ⟨h.n1, h.n2, h.m, h.own, hN.told, h.value⟩, ⟨rfl, rfl, rfl, rfl, rfl, rfl, rfl, rfl⟩, .dec ms2 q2 (hph hp1) rfl rfl rfl rfl, R.drop1 (fun σ => prop_ren σ _) (fun _ => rfl)⟩
          · have hN : Inv { s with ys := upd s.ys f true, e1 := x.o1, e2 := x.o2, told := x.data } := ⟨h.n1, h.n2, h.m, h.own, hd, h.value⟩
            have hP : Par s { s with ys := upd s.ys f true, e1 := x.o1, e2 := x.o2, told := x.data } := ⟨rfl, rfl, rfl, rfl, rfl, rfl, rfl, rfl⟩
            obtain ⟨ms1, ms2, q1, q2, T⟩ := take_of (v := v) h hf hl hN
            cases hm : mostB (yl (upd s.ys f true) 65 0 []) (Int.ofNat s.nodes)
            · have R : FunOK Try.prog 19 [.ptr (.ofNat 0) 0, .agg (noteX x), .agg (voteC v)] (mkH [some (propO s)]) (.tup [.nils, .nils]) (mkH (some (propO { s with ys := upd s.ys f true, e1 := x.o1, e2 := x.o2, told := x.data }) :: [some (.cells (noteX x) 48 false), some (.cells (voteC v) 6 false)])) := by
                rcases hbp with hb | ⟨hb, hp⟩
                · exact T fun k => (takT s _ _ _ _ _ x v _ _ _ _ _ _ _ k).trans (by
                    simp only [fInt_eq, fNat_eq, he, hb, hc, hy, ha, hn, hm, hv4, hv5, ieq_self, boolK_true, boolK_false, brec_true, brec_false, Bool.not_false, Bool.not_true]
                    refine (guardK_pos (by repeat' first | trivial | rfl | exact LTm.nil | refine LTm.cons (by kernel_rfl) ?_ | refine Sub0.of_list ?_ | constructor) _ _).trans ?_
                    refine (guardK_pos (by repeat' first | trivial | rfl | exact LTm.nil | refine LTm.cons (by kernel_rfl) ?_ | refine Sub0.of_list ?_ | constructor) _ _).trans ?_
                    refine (guardK_pos (by repeat' first | trivial | rfl | exact LTm.nil | refine LTm.cons (by kernel_rfl) ?_ | refine Sub0.of_list ?_ | constructor) _ _).trans ?_
                    refine (guardK_pos (by repeat' first | trivial | rfl | exact LTm.nil | refine LTm.cons (by kernel_rfl) ?_ | refine Sub0.of_list ?_ | constructor) _ _).trans ?_
                    refine (guardK_pos (by repeat' first | trivial | rfl | exact LTm.nil | refine LTm.cons (by kernel_rfl) ?_ | refine Sub0.of_list ?_ | constructor) _ _).trans ?_
                    refine (guardK_pos (by repeat' first | trivial | rfl | exact LTm.nil | refine LTm.cons (by kernel_rfl) ?_ | refine Sub0.of_list ?_ | constructor) _ _).trans ?_
                    try exact rfl)
                · have c3 : ieq s.phase (Int.ofNat 3) = true := ieq_true hp
                  exact T fun k => (takT s _ _ _ _ _ x v _ _ _ _ _ _ _ k).trans (by
                    simp only [fInt_eq, fNat_eq, he, hb, c3, hc, hy, ha, hn, hm, hv4, hv5, ieq_self, boolK_true, boolK_false, brec_true, brec_false, Bool.not_false, Bool.not_true]
                    refine (guardK_pos (by repeat' first | trivial | rfl | exact LTm.nil | refine LTm.cons (by kernel_rfl) ?_ | refine Sub0.of_list ?_ | constructor) _ _).trans ?_
                    refine (guardK_pos (by repeat' first | trivial | rfl | exact LTm.nil | refine LTm.cons (by kernel_rfl) ?_ | refine Sub0.of_list ?_ | constructor) _ _).trans ?_
                    refine (guardK_pos (by repeat' first | trivial | rfl | exact LTm.nil | refine LTm.cons (by kernel_rfl) ?_ | refine Sub0.of_list ?_ | constructor) _ _).trans ?_
                    refine (guardK_pos (by repeat' first | trivial | rfl | exact LTm.nil | refine LTm.cons (by kernel_rfl) ?_ | refine Sub0.of_list ?_ | constructor) _ _).trans ?_
                    refine (guardK_pos (by repeat' first | trivial | rfl | exact LTm.nil | refine LTm.cons (by kernel_rfl) ?_ | refine Sub0.of_list ?_ | constructor) _ _).trans ?_
                    refine (guardK_pos (by repeat' first | trivial | rfl | exact LTm.nil | refine LTm.cons (by kernel_rfl) ?_ | refine Sub0.of_list ?_ | constructor) _ _).trans ?_
                    try exact rfl)
              exact quiet hN hP rfl rfl rfl rfl R
            · by_cases hp1 : s.phase = 1
              · have c1 : ieq s.phase (Int.ofNat 1) = true := ieq_true hp1
                have R : FunOK Try.prog 19 [.ptr (.ofNat 0) 0, .agg (noteX x), .agg (voteC v)] (mkH [some (propO s)]) (.tup [.fz (secL { s with ys := upd s.ys f true, e1 := x.o1, e2 := x.o2, told := x.data } v) (secN { s with ys := upd s.ys f true, e1 := x.o1, e2 := x.o2, told := x.data } v), .fz (flat (noteC (secS { s with ys := upd s.ys f true, e1 := x.o1, e2 := x.o2, told := x.data } v)) ms1) ms1.length]) (mkH (some (propO (secS { s with ys := upd s.ys f true, e1 := x.o1, e2 := x.o2, told := x.data } v)) :: [some (.cells (noteX x) 48 false), some (.cells (voteC v) 6 false)])) := by
                  rcases hbp with hb | ⟨hb, hp⟩
                  · exact T fun k => (takT s _ _ _ _ _ x v _ _ _ _ _ _ _ k).trans (by
                      simp only [fInt_eq, fNat_eq, he, hb, hc, hy, ha, hn, hm, c1, fAVF_tup, fAVF_fz, eTup_tup, nthK_0, nthK_1, hv4, hv5, ieq_self, boolK_true, boolK_false, brec_true, brec_false, Bool.not_false, Bool.not_true]
                      refine (guardK_pos (by repeat' first | trivial | rfl | exact LTm.nil | refine LTm.cons (by kernel_rfl) ?_ | refine Sub0.of_list ?_ | constructor) _ _).trans ?_
                      refine (guardK_pos (by repeat' first | trivial | rfl | exact LTm.nil | refine LTm.cons (by kernel_rfl) ?_ | refine Sub0.of_list ?_ | constructor) _ _).trans ?_
                      refine (guardK_pos (by repeat' first | trivial | rfl | exact LTm.nil | refine LTm.cons (by kernel_rfl) ?_ | refine Sub0.of_list ?_ | constructor) _ _).trans ?_
                      refine (guardK_pos (by repeat' first | trivial | rfl | exact LTm.nil | refine LTm.cons (by kernel_rfl) ?_ | refine Sub0.of_list ?_ | constructor) _ _).trans ?_
                      refine (guardK_pos (by repeat' first | trivial | rfl | exact LTm.nil | refine LTm.cons (by kernel_rfl) ?_ | refine Sub0.of_list ?_ | constructor) _ _).trans ?_
                      refine (guardK_pos (by repeat' first | trivial | rfl | exact LTm.nil | refine LTm.cons (by kernel_rfl) ?_ | refine Sub0.of_list ?_ | constructor) _ _).trans ?_
                      refine (guardK_pos (by repeat' first | trivial | rfl | exact LTm.nil | refine LTm.cons (by kernel_rfl) ?_ | refine Sub0.of_list ?_ | constructor) _ _).trans ?_
                      try exact rfl)
                  · have c3 : ieq s.phase (Int.ofNat 3) = true := ieq_true hp
                    exact T fun k => (takT s _ _ _ _ _ x v _ _ _ _ _ _ _ k).trans (by
                      simp only [fInt_eq, fNat_eq, he, hb, c3, hc, hy, ha, hn, hm, c1, fAVF_tup, fAVF_fz, eTup_tup, nthK_0, nthK_1, hv4, hv5, ieq_self, boolK_true, boolK_false, brec_true, brec_false, Bool.not_false, Bool.not_true]
                      refine (guardK_pos (by repeat' first | trivial | rfl | exact LTm.nil | refine LTm.cons (by kernel_rfl) ?_ | refine Sub0.of_list ?_ | constructor) _ _).trans ?_
                      refine (guardK_pos (by repeat' first | trivial | rfl | exact LTm.nil | refine LTm.cons (by kernel_rfl) ?_ | refine Sub0.of_list ?_ | constructor) _ _).trans ?_
                      refine (guardK_pos (by repeat' first | trivial | rfl | exact LTm.nil | refine LTm.cons (by kernel_rfl) ?_ | refine Sub0.of_list ?_ | constructor) _ _).trans ?_
                      refine (guardK_pos (by repeat' first | trivial | rfl | exact LTm.nil | refine LTm.cons (by kernel_rfl) ?_ | refine Sub0.of_list ?_ | constructor) _ _).trans ?_
                      refine (guardK_pos (by repeat' first | trivial | rfl | exact LTm.nil | refine LTm.cons (by kernel_rfl) ?_ | refine Sub0.of_list ?_ | constructor) _ _).trans ?_
                      refine (guardK_pos (by repeat' first | trivial | rfl | exact LTm.nil | refine LTm.cons (by kernel_rfl) ?_ | refine Sub0.of_list ?_ | constructor) _ _).trans ?_
                      refine (guardK_pos (by repeat' first | trivial | rfl | exact LTm.nil | refine LTm.cons (by kernel_rfl) ?_ | refine Sub0.of_list ?_ | constructor) _ _).trans ?_
                      try exact rfl)
                have hval : okb (valS { s with ys := upd s.ys f true, e1 := x.o1, e2 := x.o2, told := x.data }) := by unfold valS; split; exact hN.told; exact hN.own
                refine ⟨secS { s with ys := upd s.ys f true, e1 := x.o1, e2 := x.o2, told := x.data } v, _, _, _, _, ⟨h.n1, h.n2, h.m, h.own, hN.told, hval⟩, ⟨rfl, rfl, rfl, rfl, rfl, rfl, rfl, rfl⟩, ?_, R.drop1 (fun σ => prop_ren σ _) (fun _ => rfl)⟩
                rw [secL_eq]
                exact .acc ms1 _ (q1.of rfl rfl) hp1 rfl rfl rfl (by unfold secN; split <;> omega)
              · have c1 : ieq s.phase (Int.ofNat 1) = false := ieq_false hp1
                have R : FunOK Try.prog 19 [.ptr (.ofNat 0) 0, .agg (noteX x), .agg (voteC v)] (mkH [some (propO s)]) (.tup [.fz (factC 9 s.set 0 0 s.value) 1, .fz (flat (noteC (decS { s with ys := upd s.ys f true, e1 := x.o1, e2 := x.o2, told := x.data })) ms2) ms2.length]) (mkH (some (propO (decS { s with ys := upd s.ys f true, e1 := x.o1, e2 := x.o2, told := x.data })) :: [some (.cells (noteX x) 48 false), some (.cells (voteC v) 6 false)])) := by
                  rcases hbp with hb | ⟨hb, hp⟩
                  · exact T fun k => (takT s _ _ _ _ _ x v _ _ _ _ _ _ _ k).trans (by
                      simp only [fInt_eq, fNat_eq, he, hb, hc, hy, ha, hn, hm, c1, fAVF_tup, fAVF_fz, eTup_tup, nthK_0, nthK_1, hv4, hv5, ieq_self, boolK_true, boolK_false, brec_true, brec_false, Bool.not_false, Bool.not_true]
                      refine (guardK_pos (by repeat' first | trivial | rfl | exact LTm.nil | refine LTm.cons (by kernel_rfl) ?_ | refine Sub0.of_list ?_ | constructor) _ _).trans ?_
                      refine (guardK_pos (by repeat' first | trivial | rfl | exact LTm.nil | refine LTm.cons (by kernel_rfl) ?_ | refine Sub0.of_list ?_ | constructor) _ _).trans ?_
                      refine (guardK_pos (by repeat' first | trivial | rfl | exact LTm.nil | refine LTm.cons (by kernel_rfl) ?_ | refine Sub0.of_list ?_ | constructor) _ _).trans ?_
                      refine (guardK_pos (by repeat' first | trivial | rfl | exact LTm.nil | refine LTm.cons (by kernel_rfl) ?_ | refine Sub0.of_list ?_ | constructor) _ _).trans ?_
                      refine (guardK_pos (by repeat' first | trivial | rfl | exact LTm.nil | refine LTm.cons (by kernel_rfl) ?_ | refine Sub0.of_list ?_ | constructor) _ _).trans ?_
                      refine (guardK_pos (by repeat' first | trivial | rfl | exact LTm.nil | refine LTm.cons (by kernel_rfl) ?_ | refine Sub0.of_list ?_ | constructor) _ _).trans ?_
                      refine (guardK_pos (by repeat' first | trivial | rfl | exact LTm.nil | refine LTm.cons (by kernel_rfl) ?_ | refine Sub0.of_list ?_ | constructor) _ _).trans ?_
                      try exact rfl)
                  · have c3 : ieq s.phase (Int.ofNat 3) = true := ieq_true hp
                    exact T fun k => (takT s _ _ _ _ _ x v _ _ _ _ _ _ _ k).trans (by
                      simp only [fInt_eq, fNat_eq, he, hb, c3, hc, hy, ha, hn, hm, c1, fAVF_tup, fAVF_fz, eTup_tup, nthK_0, nthK_1, hv4, hv5, ieq_self, boolK_true, boolK_false, brec_true, brec_false, Bool.not_false, Bool.not_true]
                      refine (guardK_pos (by repeat' first | trivial | rfl | exact LTm.nil | refine LTm.cons (by kernel_rfl) ?_ | refine Sub0.of_list ?_ | constructor) _ _).trans ?_
                      refine (guardK_pos (by repeat' first | trivial | rfl | exact LTm.nil | refine LTm.cons (by kernel_rfl) ?_ | refine Sub0.of_list ?_ | constructor) _ _).trans ?_
                      refine (guardK_pos (by repeat' first | trivial | rfl | exact LTm.nil | refine LTm.cons (by kernel_rfl) ?_ | refine Sub0.of_list ?_ | constructor) _ _).trans ?_
                      refine (guardK_pos (by repeat' first | trivial | rfl | exact LTm.nil | refine LTm.cons (by kernel_rfl) ?_ | refine Sub0.of_list ?_ | constructor) _ _).trans ?_
                      refine (guardK_pos (by repeat' first | trivial | rfl | exact LTm.nil | refine LTm.cons (by kernel_rfl) ?_ | refine Sub0.of_list ?_ | constructor) _ _).trans ?_
                      refine (guardK_pos (by repeat' first | trivial | rfl | exact LTm.nil | refine LTm.cons (by kernel_rfl) ?_ | refine Sub0.of_list ?_ | constructor) _ _).trans ?_
                      refine (guardK_pos (by repeat' first | trivial | rfl | exact LTm.nil | refine LTm.cons (by kernel_rfl) ?_ | refine Sub0.of_list ?_ | constructor) _ _).trans ?_
                      try exact rfl)
                exact ⟨decS { s with ys := upd s.ys f true, e1 := x.o1, e2 := x.o2, told := x.data }, _, _, _, _, ⟨h.n1, h.n2, h.m, h.own, hN.told, h.value⟩, ⟨rfl, rfl, rfl, rfl, rfl, rfl, rfl, rfl⟩, .dec ms2 q2 (hph hp1) rfl rfl rfl rfl, R.drop1 (fun σ => prop_ren σ _) (fun _ => rfl)⟩
        · obtain ⟨ms1, ms2, q1, q2, T⟩ := take_of (v := v) h hf hl h
          have R : FunOK Try.prog 19 [.ptr (.ofNat 0) 0, .agg (noteX x), .agg (voteC v)] (mkH [some (propO s)]) (.tup [.nils, .nils]) (mkH (some (propO s) :: [some (.cells (noteX x) 48 false), some (.cells (voteC v) 6 false)])) := by
            rcases hbp with hb | ⟨hb, hp⟩
            · exact T fun k => (takT s _ _ _ _ _ x v _ _ _ _ _ _ _ k).trans (by
                simp only [fInt_eq, fNat_eq, he, hb, hc, hy, ha, hv4, hv5, ieq_self, boolK_true, boolK_false, brec_true, brec_false, Bool.not_false, Bool.not_true]
                refine (guardK_pos (by repeat' first | trivial | rfl | exact LTm.nil | refine LTm.cons (by kernel_rfl) ?_ | refine Sub0.of_list ?_ | constructor) _ _).trans ?_
                refine (guardK_pos (by repeat' first | trivial | rfl | exact LTm.nil | refine LTm.cons (by kernel_rfl) ?_ | refine Sub0.of_list ?_ | constructor) _ _).trans ?_
                refine (guardK_pos (by repeat' first | trivial | rfl | exact LTm.nil | refine LTm.cons (by kernel_rfl) ?_ | refine Sub0.of_list ?_ | constructor) _ _).trans ?_
                refine (guardK_pos (by repeat' first | trivial | rfl | exact LTm.nil | refine LTm.cons (by kernel_rfl) ?_ | refine Sub0.of_list ?_ | constructor) _ _).trans ?_
                try exact rfl)
            · have c3 : ieq s.phase (Int.ofNat 3) = true := ieq_true hp
              exact T fun k => (takT s _ _ _ _ _ x v _ _ _ _ _ _ _ k).trans (by
                simp only [fInt_eq, fNat_eq, he, hb, c3, hc, hy, ha, hv4, hv5, ieq_self, boolK_true, boolK_false, brec_true, brec_false, Bool.not_false, Bool.not_true]
                refine (guardK_pos (by repeat' first | trivial | rfl | exact LTm.nil | refine LTm.cons (by kernel_rfl) ?_ | refine Sub0.of_list ?_ | constructor) _ _).trans ?_
                refine (guardK_pos (by repeat' first | trivial | rfl | exact LTm.nil | refine LTm.cons (by kernel_rfl) ?_ | refine Sub0.of_list ?_ | constructor) _ _).trans ?_
                refine (guardK_pos (by repeat' first | trivial | rfl | exact LTm.nil | refine LTm.cons (by kernel_rfl) ?_ | refine Sub0.of_list ?_ | constructor) _ _).trans ?_
                refine (guardK_pos (by repeat' first | trivial | rfl | exact LTm.nil | refine LTm.cons (by kernel_rfl) ?_ | refine Sub0.of_list ?_ | constructor) _ _).trans ?_
                try exact rfl)
          exact quiet h (.refl s) rfl rfl rfl rfl R
    · obtain ⟨ms1, ms2, q1, q2, T⟩ := take_of (v := v) h hf hl h
      have R : FunOK Try.prog 19 [.ptr (.ofNat 0) 0, .agg (noteX x), .agg (voteC v)] (mkH [some (propO s)]) (.tup [.nils, .nils]) (mkH (some (propO s) :: [some (.cells (noteX x) 48 false), some (.cells (voteC v) 6 false)])) := by
        rcases hbp with hb | ⟨hb, hp⟩
        · exact T fun k => (takT s _ _ _ _ _ x v _ _ _ _ _ _ _ k).trans (by
            simp only [fInt_eq, fNat_eq, he, hb, hc, hv4, hv5, ieq_self, boolK_true, boolK_false, brec_true, brec_false, Bool.not_false, Bool.not_true]
            refine (guardK_pos (by repeat' first | trivial | rfl | exact LTm.nil | refine LTm.cons (by kernel_rfl) ?_ | refine Sub0.of_list ?_ | constructor) _ _).trans ?_
            refine (guardK_pos (by repeat' first | trivial | rfl | exact LTm.nil | refine LTm.cons (by kernel_rfl) ?_ | refine Sub0.of_list ?_ | constructor) _ _).trans ?_
            refine (guardK_pos (by repeat' first | trivial | rfl | exact LTm.nil | refine LTm.cons (by kernel_rfl) ?_ | refine Sub0.of_list ?_ | constructor) _ _).trans ?_
            try exact rfl)
        · have c3 : ieq s.phase (Int.ofNat 3) = true := ieq_true hp
          exact T fun k => (takT s _ _ _ _ _ x v _ _ _ _ _ _ _ k).trans (by
            simp only [fInt_eq, fNat_eq, he, hb, c3, hc, hv4, hv5, ieq_self, boolK_true, boolK_false, brec_true, brec_false, Bool.not_false, Bool.not_true]
            refine (guardK_pos (by repeat' first | trivial | rfl | exact LTm.nil | refine LTm.cons (by kernel_rfl) ?_ | refine Sub0.of_list ?_ | constructor) _ _).trans ?_
            refine (guardK_pos (by repeat' first | trivial | rfl | exact LTm.nil | refine LTm.cons (by kernel_rfl) ?_ | refine Sub0.of_list ?_ | constructor) _ _).trans ?_
            refine (guardK_pos (by repeat' first | trivial | rfl | exact LTm.nil | refine LTm.cons (by kernel_rfl) ?_ | refine Sub0.of_list ?_ | constructor) _ _).trans ?_
            try exact rfl)
      exact quiet h (.refl s) rfl rfl rfl rfl R

/-- Take. -/
theorem take_ok {s : PS} {x : NS} {v : VS} (h : Inv s) (hd : okb x.data) : ActOK 19 [.ptr (.ofNat 0) 0, .agg (noteX x), .agg (voteC v)] s v (some x) := by
  cases he : earlyB s x
  · exact take_late h hd he
  · exact take_early h he

end Pro
