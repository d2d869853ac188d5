import Derived.Test.YtcjilddpkekcgaaBag5
import Derived.KernelRfl
set_option maxHeartbeats 0
set_option maxRecDepth 1000000
set_option linter.unusedSimpArgs false
set_option linter.unusedVariables false
open Go Go.AM Go.Proofs
namespace Pro

theorem actO (s : PS) (a : AS) (b : BS) (k : AV → H → Ans) :
    bodyF Try.prog (execH Try.prog (mkO [(18, orcErr), (19, orcErr), (21, orcErr), (22, orcErr)]) [⟨7, 1007, exErr⟩] 1000) (Pos.ofNat 7) [] [] [.ptr (.ofNat 0) 0, .agg (actC a), .agg (beginC b)] (mkH [some (propO s)]) k
    = fInt a.kind fun n => brec (brec (brec (brec (k (AV.tup [AV.nils, AV.nils]) (mkH [some (propO s), some (HObj.cells (actC a) 57 false), some (HObj.cells (beginC b) 8 false)])) (Ans.err 77 0 0) (ieq n (Int.ofNat 3))) (Ans.err 79 0 0) (ieq n (Int.ofNat 2))) (Ans.err 79 0 0) (ieq n (Int.ofNat 1))) (Ans.err 77 0 0) (ieq n (Int.ofNat 0)) := by kernel_rfl

/-- An act that comes to pass. -/
def DoneOK (s : PS) (a : AS) (b : BS) : Prop :=
  ∃ (s' : PS) (F : List AV) (n : Nat) (N : List AV) (m : Nat) (x : Option NS), Inv s' ∧ Par s s' ∧ Out s a.v x s' F n N m ∧ (∀ y, x = some y → (a.kind = 1 ∨ a.kind = 2) ∧ y.kind = a.x.kind ∧ y.data = a.x.data) ∧ FunOK Try.prog 7 [.ptr (.ofNat 0) 0, .agg (actC a), .agg (beginC b)] (mkH [some (propO s)]) (.tup [.fz F n, .fz N m]) (mkH [some (propO s')])

theorem act_ok {s : PS} {a : AS} {b : BS} (h : Inv s) (hv : okb a.v.data) (hx : okb a.x.data) (hl : a.lots.length ≤ 20) : DoneOK s a b := by
  have quiet : ∀ {G : HL}, FunOK Try.prog 7 [.ptr (.ofNat 0) 0, .agg (actC a), .agg (beginC b)] (mkH [some (propO s)]) (.tup [.nils, .nils]) (mkH (some (propO s) :: G)) → DoneOK s a b := fun {G} R =>
    ⟨s, [], 0, [], 0, none, h, .refl s, .quiet rfl rfl rfl (.inl rfl), (fun y e => by cases e), (R.drop1 (fun σ => prop_ren σ _) (fun _ => rfl)).wk (Wk.tup (.cons .nils (.cons .nils .nil))) (.refl _)⟩
  by_cases h0 : a.kind = 0
  · have c0 : ieq a.kind (Int.ofNat 0) = true := ieq_true h0
    obtain ⟨s', F, n, N, m, er, i, p, o, R⟩ := start_ok (v := a.v) h hv
    refine ⟨s', F, n, N, m, none, i, p, o, (fun y e => by cases e), ?_⟩
    have g := good_obj (p := 0) (args' := [.ptr (.ofNat 0) 0, .agg (voteC a.v)]) R (fun σ => prop_ren σ _) (fun σ => prop_ren σ _) (fun _ => rfl) (fun σ hσ => by show [AV.ptr (σ Pos.z) 0, AV.agg (voteC a.v)] = _; rw [hσ])
    have R2 := FunOK.of_runH (v := .tup [.fz F n, .fz N m]) (A' := mkH (some (propO s') :: _)) hmix (OrOK.cons g (OrOK.cons good_err (OrOK.cons good_err (OrOK.cons good_err .nil)))) (HolesOK.one exErr_ok) (N := 1000) (f := 7) fun k => (actA s s' a b _ _ er k).trans (by
      simp only [fInt_eq, c0, brec_true, brec_false]
      refine (guardK_pos (by exact ⟨rfl, trivial⟩) _ _).trans ?_
      simp only [fAVF_fz, fInt_eq]
      try exact rfl)
    exact R2.drop1 (fun σ => prop_ren σ _) (fun _ => rfl)
  have c0 : ieq a.kind (Int.ofNat 0) = false := ieq_false h0
  by_cases h12 : a.kind = 1 ∨ a.kind = 2
  · obtain ⟨s', F, n, N, m, i, p, o, R⟩ := take_ok (x := takenX s a b) (v := a.v) h (by rw [takenX_data]; exact hx)
    obtain ⟨G, hG⟩ := take7_ok h R
    refine ⟨s', F, n, N, m, some (takenX s a b), i, p, o, (fun y e => by cases e; exact ⟨h12, takenX_kind s a b, takenX_data s a b⟩), ?_⟩
    have R2 := FunOK.of_runH (v := .tup [.fz F n, .fz N m]) hmix (OrOK.cons good_err (OrOK.cons good_err (OrOK.cons good_err (OrOK.cons good_err .nil)))) (HolesOK.one (exSub_ok hG)) (N := 1000) (f := 7) fun k => (actR s a b F n N m (mkH (some (propO s') :: G)) k).trans (by
      rcases h12 with h1 | h1
      · have c1 : ieq a.kind (Int.ofNat 1) = true := ieq_true h1
        simp only [fInt_eq, c0, c1, brec_true, brec_false]
        refine (guardK_pos (by repeat' first | trivial | rfl | exact LTm.nil | refine LTm.cons (by kernel_rfl) ?_ | refine Sub0.of_list ?_ | constructor) _ _).trans ?_
        try simp only [fAVF_fz]
        try exact rfl
      · have c1 : ieq a.kind (Int.ofNat 1) = false := ieq_false (by show ¬ a.kind = 1; omega)
        have c2 : ieq a.kind (Int.ofNat 2) = true := ieq_true h1
        simp only [fInt_eq, c0, c1, c2, brec_true, brec_false]
        refine (guardK_pos (by repeat' first | trivial | rfl | exact LTm.nil | refine LTm.cons (by kernel_rfl) ?_ | refine Sub0.of_list ?_ | constructor) _ _).trans ?_
        try simp only [fAVF_fz]
        try exact rfl)
    exact R2.drop1 (fun σ => prop_ren σ _) (fun _ => rfl)
  have c1 : ieq a.kind (Int.ofNat 1) = false := ieq_false (by show ¬ a.kind = 1; omega)
  have c2 : ieq a.kind (Int.ofNat 2) = false := ieq_false (by show ¬ a.kind = 2; omega)
  by_cases h3 : a.kind = 3
  · have c3 : ieq a.kind (Int.ofNat 3) = true := ieq_true h3
    rcases new_lot a.lots hl with hN | hN
    · have lN : LocFun Try.prog 21 [.fz (ints a.lots) a.lots.length] 3 [] (.tup [.nilp, .int .i64 (.ofNat 2)]) [] [] := LocFun.of hN [] rfl .nil (fun i hi => by cases hi) (Nat.le_refl _) trivial rfl rfl rfl rfl rfl
      refine quiet (G := [some (.cells (actC a) 57 false), some (.cells (beginC b) 8 false)]) (FunOK.of_runH hmix (OrOK.cons good_err (OrOK.cons good_err (OrOK.cons lN.good (OrOK.cons good_err .nil)))) (HolesOK.one exErr_ok) (N := 1000) (f := 7) fun k => (actN s a b k).trans ?_)
      simp only [fInt_eq, c0, c1, c2, c3, brec_true, brec_false]
      refine (guardK_pos (by repeat' first | trivial | rfl | constructor) _ _).trans ?_
      try exact rfl
    · obtain ⟨s', F, n, N, m, o', ho, i, p, o, R⟩ := tick_ok (v := a.v) h hv hl
      have lN : LocFun Try.prog 21 [.fz (ints a.lots) a.lots.length] 3 [] (.tup [.ptr (.ofNat 3) 0, .int .i64 (.ofNat 0)]) [] [some (lotZ a.lots a.lots.length 0)] := LocFun.of hN [] rfl .nil (fun i hi => by cases hi) (Nat.zero_le _) ⟨rfl, trivial⟩ rfl rfl rfl rfl (by
        show [some ((lotZ a.lots a.lots.length 0).ren _)] = _
        rw [(lot_still _ _ _).ren])
      have lT : LocFun Try.prog 22 [.ptr (.ofNat 0) 0, .ptr (.ofNat 3) 0, .agg (voteC a.v)] 4 [(0, propO s), (3, lotZ a.lots a.lots.length 0)] (.tup [.fz F n, .fz N m]) [(0, some (propO s')), (3, some o')] [] := LocFun.of R [0, 3] rfl (by show [0, 3].Nodup; decide) (by show ∀ i ∈ [0, 3], i < 4; decide) (Nat.le_refl _) trivial rfl rfl (by
        simp only [preL, prop_ren, (lot_still _ _ _).ren]) (by simp only [postL, Option.map_some, prop_ren, ho.ren]) rfl
      refine ⟨s', F, n, N, m, none, i, p, o, (fun y e => by cases e), ?_⟩
      have R2 := FunOK.of_runH (v := .tup [.fz F n, .fz N m]) (A' := mkH (some (propO s') :: _)) hmix (OrOK.cons good_err (OrOK.cons good_err (OrOK.cons lN.good (OrOK.cons lT.good .nil)))) (HolesOK.one exErr_ok) (N := 1000) (f := 7) fun k => (actT s s' a b _ _ _ _ k).trans (by
        simp only [fInt_eq, c0, c1, c2, c3, brec_true, brec_false]
        refine (guardK_pos (by repeat' first | trivial | rfl | constructor) _ _).trans ?_
        refine (guardK_pos (by repeat' first | trivial | rfl | constructor) _ _).trans ?_
        simp only [fAVF_fz]
        try exact rfl)
      exact R2.drop1 (fun σ => prop_ren σ _) (fun _ => rfl)
  have c3 : ieq a.kind (Int.ofNat 3) = false := ieq_false h3
  refine quiet (G := [some (.cells (actC a) 57 false), some (.cells (beginC b) 8 false)]) (FunOK.of_runH hmix (OrOK.cons good_err (OrOK.cons good_err (OrOK.cons good_err (OrOK.cons good_err .nil)))) (HolesOK.one exErr_ok) (N := 1000) (f := 7) fun k => (actO s a b k).trans ?_)
  simp only [fInt_eq, c0, c1, c2, c3, brec_true, brec_false]
  try exact rfl

theorem sameT (a b : List Nat) (k : AV → H → Ans) :
    bodyF Try.prog (execH Try.prog .leaf [] 1000) (Pos.ofNat 9) [] [] [.fz (u8s a) a.length, .fz (u8s b) b.length] (mkH []) k
    = optK (bytesV Try.prog (mkH []) 24 9 (AV.fz (u8s a) (List.length a))) (fun v => fAVF v fun v => optK (bytesV Try.prog (mkH []) 24 9 (AV.fz (u8s b) (List.length b))) (fun v_1 => fAVF v_1 fun v_2 => eInt v (fun k_1 m => eInt v_2 (fun k' n => boolK (Nat.beq (kcode k_1) (kcode k')) (brec (k (AV.bool false) (mkH [])) (k (AV.bool true) (mkH [])) (ieq m n)) (Ans.err 9 4 14)) (optK (binV Try.prog BinOp.eql 9 (Operand.tmp 6) (Operand.tmp 8) v v_2) (fun v => fAVF v fun v => fAVF v fun v => k v (mkH [])) (Ans.err 9 4 14))) (eAgg v (fun xs => eAgg v_2 (fun ys => optK (binV Try.prog BinOp.eql 9 (Operand.tmp 6) (Operand.tmp 8) v v_2) (fun v => fAVF v fun v => fAVF v fun v => k v (mkH [])) (Ans.err 9 4 14)) (optK (binV Try.prog BinOp.eql 9 (Operand.tmp 6) (Operand.tmp 8) v v_2) (fun v => fAVF v fun v => fAVF v fun v => k v (mkH [])) (Ans.err 9 4 14))) (optK (binV Try.prog BinOp.eql 9 (Operand.tmp 6) (Operand.tmp 8) v v_2) (fun v => fAVF v fun v => fAVF v fun v => k v (mkH [])) (Ans.err 9 4 14)))) (Ans.err 9 3 1010)) (Ans.err 9 1 1010) := by kernel_rfl

theorem sameN (b : List Nat) (k : AV → H → Ans) :
    bodyF Try.prog (execH Try.prog .leaf [] 1000) (Pos.ofNat 9) [] [] [.nils, .fz (u8s b) b.length] (mkH []) k
    = optK (bytesV Try.prog (mkH []) 24 9 (AV.fz (u8s b) (List.length b))) (fun v => fAVF v fun v => optK (binV Try.prog BinOp.eql 9 (Operand.tmp 6) (Operand.tmp 8) (AV.str []) v) (fun v => fAVF v fun v => fAVF v fun v => k v (mkH [])) (Ans.err 9 4 14)) (Ans.err 9 3 1010) := by kernel_rfl

/-- What the law has of its own: its acts, what was seen; -/
structure LS where
  l : List AS
  value : List Nat
  last : List Nat
  asked : Bool
  over : Bool
  i : Nat
  a1 : Int
  a2 : Int

noncomputable def fx3 : Fx := ⟨none, 3, 285⟩

noncomputable def tmL (x : LS) : List (Nat × AV) := [(1, .fz (flat actC x.l) x.l.length), (2, .ptr (.ofNat 0) 0), (5, .bool true), (6, .ptr (.ofNat 1) 0), (8, .ptr (.ofNat 2) 0), (9, .fz (u8s x.value) x.value.length), (10, .fz (u8s x.last) x.last.length), (11, .bool x.asked), (12, .bool x.over), (13, .int .i64 (.ofNat x.i))]

noncomputable def hL (b : BS) (s : PS) (x : LS) : HL := [some (.cells (beginC b) 8 false), some (propO s), some (.cells [.int .i64 x.a1, .int .i64 x.a2] 2 false)]

noncomputable def tmN (x : LS) (ro : List AV) (m n : Nat) : List (Nat × AV) := tmL x ++ [(15, .fz ro m), (17, .int .i64 (.ofNat n))]

noncomputable def tmM (x : LS) (ro : List AV) (m n : Nat) : List (Nat × AV) := [1, 2, 5, 6, 8, 9, 10, 11, 12, 13, 15, 17, 18].zip [.fz (flat actC x.l) x.l.length, .ptr (.ofNat 0) 0, .bool true, .ptr (.ofNat 1) 0, .ptr (.ofNat 2) 0, .fz (u8s x.value) x.value.length, .fz (u8s x.last) x.last.length, .bool x.asked, .bool x.over, .int .i64 (.ofNat x.i), .fz ro m, .int .i64 (.ofNat n), .ptr (.ofNat 3) 0]

noncomputable def r22 : Code := subC [1,1,1,1,1,1,1,0,1,1,1,1,0,1,1,1,0,1,1,1,1,0,1,0] (bodyC Try.f3)

noncomputable def b4 : Code := subC [1,1,1,1,1,1,1,0,1,1,1,1,0,1,1,1,0,1,1,1] (bodyC Try.f3)

theorem b4_eq : subC [1,1,1,1,1,1,1,0,1,1,1,1,0,1,1,1,0,1] (bodyC Try.f3) = .block 4 (.loop b4) := by kernel_rfl

theorem ra22 (b : BS) (s : PS) (x : LS) (ro : List AV) (m n : Nat) (k : AExit → List AV → H → Ans) :
    execH Try.prog .leaf [] 1000 fx3 r22 (mkTm (tmN x ro m n)) (mkH (hL b s x)) [] (pickK [1, 2, 5, 6, 8, 9, 10, 11, 12, 13, 15, 17, 18] [] [] k)
    = fInt (Int.ofNat n) fun n_1 => natOf n_1 (fun m_1 => boolK (Nat.blt m_1 m) (segK (Nat.mul m_1 48) ro 48 (fun l => fList l fun l => boolK (Nat.beq (List.length l) 48) (boolK (onesF l) (setsB 0 l (AV.int .i64 (Int.ofNat 0) :: AV.int .i64 (Int.ofNat 0) :: AV.int .i64 (Int.ofNat 0) :: AV.int .i64 (Int.ofNat 0) :: AV.int .i64 (Int.ofNat 0) :: AV.int .i64 (Int.ofNat 0) :: AV.int .i64 (Int.ofNat 0) :: AV.int .i64 (Int.ofNat 0) :: AV.int .i64 (Int.ofNat 0) :: AV.int .i64 (Int.ofNat 0) :: AV.int .i64 (Int.ofNat 0) :: AV.int .i64 (Int.ofNat 0) :: AV.bool false :: zid [AV.nils, AV.nils, AV.nils]) (fun cs => k AExit.normal [AV.fz (flat actC x.l) (List.length x.l), AV.ptr (.ofNat 0) 0, AV.bool true, AV.ptr (.ofNat 1) 0, AV.ptr (.ofNat 2) 0, AV.fz (u8s x.value) (List.length x.value), AV.fz (u8s x.last) (List.length x.last), AV.bool x.asked, AV.bool x.over, AV.int .i64 (Int.ofNat x.i), AV.fz ro m, AV.int .i64 (Int.ofNat n), AV.ptr (.ofNat 3) 0] (mkH [some (HObj.cells (beginC b) 8 false), some (propO s), some (HObj.cells [AV.int .i64 x.a1, AV.int .i64 x.a2] 2 false), some (HObj.cells cs 48 false)])) (Ans.err 2 0 0)) (if (Nat.beq (List.length l) 48 && Nat.ble (Nat.add 0 (List.length l)) 48 && List.all l AV.one) = true then List.rec (motive := fun x => List AV → Nat → (List AV → Ans) → Ans) (fun l x k => k l) (fun v x ih l i k => List.rec (motive := fun x => Nat → (List AV → Ans) → Ans) (fun x k => k []) (fun a l ih i k => Nat.rec (motive := fun x => Ans) (k (v :: l)) (fun i x => ih i fun l => k (a :: l)) i) l i fun l => ih l (Nat.succ i) k) l [AV.int .i64 0, AV.int .i64 0, AV.int .i64 0, AV.int .i64 0, AV.int .i64 0, AV.int .i64 0, AV.int .i64 0, AV.int .i64 0, AV.int .i64 0, AV.int .i64 0, AV.int .i64 0, AV.int .i64 0, AV.bool false, AV.int .u8 0, AV.int .u8 0, AV.int .u8 0, AV.int .u8 0, AV.int .u8 0, AV.int .u8 0, AV.int .u8 0, AV.int .u8 0, AV.int .u8 0, AV.int .u8 0, AV.int .u8 0, AV.int .u8 0, AV.int .u8 0, AV.int .u8 0, AV.int .u8 0, AV.int .u8 0, AV.int .u8 0, AV.int .u8 0, AV.int .u8 0, AV.int .u8 0, AV.int .u8 0, AV.int .u8 0, AV.int .u8 0, AV.int .u8 0, AV.int .u8 0, AV.int .u8 0, AV.int .u8 0, AV.int .u8 0, AV.int .u8 0, AV.int .u8 0, AV.int .u8 0, AV.int .u8 0, AV.nils, AV.nils, AV.nils] 0 fun cs => H.setK (H.mk (Pos.r (Pos.rec (motive := fun t => (fun x => Pos) t ×' Pos.below (motive := fun x => Pos) t) ⟨Pos.succ._f Pos.z PUnit.unit, PUnit.unit⟩ (fun p p_ih => ⟨Pos.succ._f (Pos.l p) p_ih, p_ih⟩) (fun p p_ih => ⟨Pos.succ._f (Pos.r p) p_ih, p_ih⟩) Pos.z).1) (PT.node (PT.node (PT.node PT.leaf (some (HObj.cells [AV.int .i64 0, AV.int .i64 0, AV.int .i64 0, AV.int .i64 0, AV.int .i64 0, AV.int .i64 0, AV.int .i64 0, AV.int .i64 0, AV.int .i64 0, AV.int .i64 0, AV.int .i64 0, AV.int .i64 0, AV.bool false, AV.int .u8 0, AV.int .u8 0, AV.int .u8 0, AV.int .u8 0, AV.int .u8 0, AV.int .u8 0, AV.int .u8 0, AV.int .u8 0, AV.int .u8 0, AV.int .u8 0, AV.int .u8 0, AV.int .u8 0, AV.int .u8 0, AV.int .u8 0, AV.int .u8 0, AV.int .u8 0, AV.int .u8 0, AV.int .u8 0, AV.int .u8 0, AV.int .u8 0, AV.int .u8 0, AV.int .u8 0, AV.int .u8 0, AV.int .u8 0, AV.int .u8 0, AV.int .u8 0, AV.int .u8 0, AV.int .u8 0, AV.int .u8 0, AV.int .u8 0, AV.int .u8 0, AV.int .u8 0, AV.nils, AV.nils, AV.nils] (Prod.fst (Prod.snd (Prod.fst (AV.cells (AV.agg [AV.int .i64 0, AV.int .i64 0, AV.int .i64 0, AV.int .i64 0, AV.int .i64 0, AV.int .i64 0, AV.int .i64 0, AV.int .i64 0, AV.int .i64 0, AV.int .i64 0, AV.int .i64 0, AV.int .i64 0, AV.bool false, AV.int .u8 0, AV.int .u8 0, AV.int .u8 0, AV.int .u8 0, AV.int .u8 0, AV.int .u8 0, AV.int .u8 0, AV.int .u8 0, AV.int .u8 0, AV.int .u8 0, AV.int .u8 0, AV.int .u8 0, AV.int .u8 0, AV.int .u8 0, AV.int .u8 0, AV.int .u8 0, AV.int .u8 0, AV.int .u8 0, AV.int .u8 0, AV.int .u8 0, AV.int .u8 0, AV.int .u8 0, AV.int .u8 0, AV.int .u8 0, AV.int .u8 0, AV.int .u8 0, AV.int .u8 0, AV.int .u8 0, AV.int .u8 0, AV.int .u8 0, AV.int .u8 0, AV.int .u8 0, AV.nils, AV.nils, AV.nils]), (fun x => TypeInfo.size x) (Tables.types (Program.toTables Try.prog))[45], fun p => AV.ptr p 0), Prod.fst (Prod.snd (AV.cells (AV.agg [AV.int .i64 0, AV.int .i64 0, AV.int .i64 0, AV.int .i64 0, AV.int .i64 0, AV.int .i64 0, AV.int .i64 0, AV.int .i64 0, AV.int .i64 0, AV.int .i64 0, AV.int .i64 0, AV.int .i64 0, AV.bool false, AV.int .u8 0, AV.int .u8 0, AV.int .u8 0, AV.int .u8 0, AV.int .u8 0, AV.int .u8 0, AV.int .u8 0, AV.int .u8 0, AV.int .u8 0, AV.int .u8 0, AV.int .u8 0, AV.int .u8 0, AV.int .u8 0, AV.int .u8 0, AV.int .u8 0, AV.int .u8 0, AV.int .u8 0, AV.int .u8 0, AV.int .u8 0, AV.int .u8 0, AV.int .u8 0, AV.int .u8 0, AV.int .u8 0, AV.int .u8 0, AV.int .u8 0, AV.int .u8 0, AV.int .u8 0, AV.int .u8 0, AV.int .u8 0, AV.int .u8 0, AV.int .u8 0, AV.int .u8 0, AV.nils, AV.nils, AV.nils]), (fun x => TypeInfo.size x) (Tables.types (Program.toTables Try.prog))[45], fun p => AV.ptr p 0)), Prod.snd (Prod.snd (AV.cells (AV.agg [AV.int .i64 0, AV.int .i64 0, AV.int .i64 0, AV.int .i64 0, AV.int .i64 0, AV.int .i64 0, AV.int .i64 0, AV.int .i64 0, AV.int .i64 0, AV.int .i64 0, AV.int .i64 0, AV.int .i64 0, AV.bool false, AV.int .u8 0, AV.int .u8 0, AV.int .u8 0, AV.int .u8 0, AV.int .u8 0, AV.int .u8 0, AV.int .u8 0, AV.int .u8 0, AV.int .u8 0, AV.int .u8 0, AV.int .u8 0, AV.int .u8 0, AV.int .u8 0, AV.int .u8 0, AV.int .u8 0, AV.int .u8 0, AV.int .u8 0, AV.int .u8 0, AV.int .u8 0, AV.int .u8 0, AV.int .u8 0, AV.int .u8 0, AV.int .u8 0, AV.int .u8 0, AV.int .u8 0, AV.int .u8 0, AV.int .u8 0, AV.int .u8 0, AV.int .u8 0, AV.int .u8 0, AV.int .u8 0, AV.int .u8 0, AV.nils, AV.nils, AV.nils]), (fun x => TypeInfo.size x) (Tables.types (Program.toTables Try.prog))[45], fun p => AV.ptr p 0))))) false)) PT.leaf) (some (propO s)) PT.leaf) (some (HObj.cells (beginC b) 8 false)) ((Pos.rec (motive := fun t => (fun x => PT HObj → PT HObj) t ×' Pos.below (motive := fun x => PT HObj → PT HObj) t) ⟨PT.put._f (some (HObj.cells [AV.int .i64 x.a1, AV.int .i64 x.a2] 2 false)) Pos.z PUnit.unit, PUnit.unit⟩ (fun p p_ih => ⟨PT.put._f (some (HObj.cells [AV.int .i64 x.a1, AV.int .i64 x.a2] 2 false)) (Pos.l p) p_ih, p_ih⟩) (fun p p_ih => ⟨PT.put._f (some (HObj.cells [AV.int .i64 x.a1, AV.int .i64 x.a2] 2 false)) (Pos.r p) p_ih, p_ih⟩) Pos.z).1 PT.leaf)) (H.ng (mkH (hL b s x))) (H.st (mkH (hL b s x)))) (H.next (mkH (hL b s x))) (some (HObj.cells cs (Prod.fst (Prod.snd (Prod.fst (AV.cells (AV.agg [AV.int .i64 0, AV.int .i64 0, AV.int .i64 0, AV.int .i64 0, AV.int .i64 0, AV.int .i64 0, AV.int .i64 0, AV.int .i64 0, AV.int .i64 0, AV.int .i64 0, AV.int .i64 0, AV.int .i64 0, AV.bool false, AV.int .u8 0, AV.int .u8 0, AV.int .u8 0, AV.int .u8 0, AV.int .u8 0, AV.int .u8 0, AV.int .u8 0, AV.int .u8 0, AV.int .u8 0, AV.int .u8 0, AV.int .u8 0, AV.int .u8 0, AV.int .u8 0, AV.int .u8 0, AV.int .u8 0, AV.int .u8 0, AV.int .u8 0, AV.int .u8 0, AV.int .u8 0, AV.int .u8 0, AV.int .u8 0, AV.int .u8 0, AV.int .u8 0, AV.int .u8 0, AV.int .u8 0, AV.int .u8 0, AV.int .u8 0, AV.int .u8 0, AV.int .u8 0, AV.int .u8 0, AV.int .u8 0, AV.int .u8 0, AV.nils, AV.nils, AV.nils]), (fun x => TypeInfo.size x) (Tables.types (Program.toTables Try.prog))[45], fun p => AV.ptr p 0), Prod.fst (Prod.snd (AV.cells (AV.agg [AV.int .i64 0, AV.int .i64 0, AV.int .i64 0, AV.int .i64 0, AV.int .i64 0, AV.int .i64 0, AV.int .i64 0, AV.int .i64 0, AV.int .i64 0, AV.int .i64 0, AV.int .i64 0, AV.int .i64 0, AV.bool false, AV.int .u8 0, AV.int .u8 0, AV.int .u8 0, AV.int .u8 0, AV.int .u8 0, AV.int .u8 0, AV.int .u8 0, AV.int .u8 0, AV.int .u8 0, AV.int .u8 0, AV.int .u8 0, AV.int .u8 0, AV.int .u8 0, AV.int .u8 0, AV.int .u8 0, AV.int .u8 0, AV.int .u8 0, AV.int .u8 0, AV.int .u8 0, AV.int .u8 0, AV.int .u8 0, AV.int .u8 0, AV.int .u8 0, AV.int .u8 0, AV.int .u8 0, AV.int .u8 0, AV.int .u8 0, AV.int .u8 0, AV.int .u8 0, AV.int .u8 0, AV.int .u8 0, AV.int .u8 0, AV.nils, AV.nils, AV.nils]), (fun x => TypeInfo.size x) (Tables.types (Program.toTables Try.prog))[45], fun p => AV.ptr p 0)), Prod.snd (Prod.snd (AV.cells (AV.agg [AV.int .i64 0, AV.int .i64 0, AV.int .i64 0, AV.int .i64 0, AV.int .i64 0, AV.int .i64 0, AV.int .i64 0, AV.int .i64 0, AV.int .i64 0, AV.int .i64 0, AV.int .i64 0, AV.int .i64 0, AV.bool false, AV.int .u8 0, AV.int .u8 0, AV.int .u8 0, AV.int .u8 0, AV.int .u8 0, AV.int .u8 0, AV.int .u8 0, AV.int .u8 0, AV.int .u8 0, AV.int .u8 0, AV.int .u8 0, AV.int .u8 0, AV.int .u8 0, AV.int .u8 0, AV.int .u8 0, AV.int .u8 0, AV.int .u8 0, AV.int .u8 0, AV.int .u8 0, AV.int .u8 0, AV.int .u8 0, AV.int .u8 0, AV.int .u8 0, AV.int .u8 0, AV.int .u8 0, AV.int .u8 0, AV.int .u8 0, AV.int .u8 0, AV.int .u8 0, AV.int .u8 0, AV.int .u8 0, AV.int .u8 0, AV.nils, AV.nils, AV.nils]), (fun x => TypeInfo.size x) (Tables.types (Program.toTables Try.prog))[45], fun p => AV.ptr p 0))))) false)) fun A => (fun v A => putTm (Fx.nt fx3) (PT.node (PT.node (PT.node ((Pos.rec (motive := fun t => (fun x => PT AV → PT AV) t ×' Pos.below (motive := fun x => PT AV → PT AV) t) ⟨PT.put._f (some (AV.fz ro m)) Pos.z PUnit.unit, PUnit.unit⟩ (fun p p_ih => ⟨PT.put._f (some (AV.fz ro m)) (Pos.l p) p_ih, p_ih⟩) (fun p p_ih => ⟨PT.put._f (some (AV.fz ro m)) (Pos.r p) p_ih, p_ih⟩) (Pos.rec (motive := fun t => (fun x => Pos) t ×' Pos.below (motive := fun x => Pos) t) ⟨Pos.succ._f Pos.z PUnit.unit, PUnit.unit⟩ (fun p p_ih => ⟨Pos.succ._f (Pos.l p) p_ih, p_ih⟩) (fun p p_ih => ⟨Pos.succ._f (Pos.r p) p_ih, p_ih⟩) Pos.z).1).1 PT.leaf) none (PT.node PT.leaf (some (AV.bool x.asked)) (PT.node (PT.node (PT.node (PT.node PT.leaf (some (AV.agg l)) PT.leaf) none PT.leaf) none PT.leaf) none PT.leaf))) (some (AV.fz (flat actC x.l) (List.length x.l))) (PT.node (PT.node ((Pos.rec (motive := fun t => (fun x => PT AV → PT AV) t ×' Pos.below (motive := fun x => PT AV → PT AV) t) ⟨PT.put._f (some (AV.int .i64 (Int.ofNat n))) Pos.z PUnit.unit, PUnit.unit⟩ (fun p p_ih => ⟨PT.put._f (some (AV.int .i64 (Int.ofNat n))) (Pos.l p) p_ih, p_ih⟩) (fun p p_ih => ⟨PT.put._f (some (AV.int .i64 (Int.ofNat n))) (Pos.r p) p_ih, p_ih⟩) Pos.z).1 PT.leaf) (some (AV.fz (u8s x.value) (List.length x.value))) (PT.node (PT.node (PT.node (PT.node PT.leaf (some (AV.int .i64 n_1)) PT.leaf) none PT.leaf) none PT.leaf) none PT.leaf)) (some (AV.bool true)) ((Pos.rec (motive := fun t => (fun x => PT AV → PT AV) t ×' Pos.below (motive := fun x => PT AV → PT AV) t) ⟨PT.put._f (some (AV.int .i64 (Int.ofNat x.i))) Pos.z PUnit.unit, PUnit.unit⟩ (fun p p_ih => ⟨PT.put._f (some (AV.int .i64 (Int.ofNat x.i))) (Pos.l p) p_ih, p_ih⟩) (fun p p_ih => ⟨PT.put._f (some (AV.int .i64 (Int.ofNat x.i))) (Pos.r p) p_ih, p_ih⟩) Pos.z).1 PT.leaf))) none (PT.node (PT.node (PT.node PT.leaf (some (AV.ptr (.ofNat 2) 0)) (PT.node (PT.node (PT.node (PT.node PT.leaf (some (AV.fz ro m)) PT.leaf) none PT.leaf) none PT.leaf) none PT.leaf)) none ((Pos.rec (motive := fun t => (fun x => PT AV → PT AV) t ×' Pos.below (motive := fun x => PT AV → PT AV) t) ⟨PT.put._f (some (AV.bool x.over)) Pos.z PUnit.unit, PUnit.unit⟩ (fun p p_ih => ⟨PT.put._f (some (AV.bool x.over)) (Pos.l p) p_ih, p_ih⟩) (fun p p_ih => ⟨PT.put._f (some (AV.bool x.over)) (Pos.r p) p_ih, p_ih⟩) Pos.z).1 PT.leaf)) (some (AV.ptr (.ofNat 0) 0)) (PT.node (PT.node (PT.node PT.leaf (some (AV.ptr (H.next (mkH (hL b s x))) 0)) PT.leaf) (some (AV.fz (u8s x.last) (List.length x.last))) (PT.node (PT.node (PT.node (PT.node PT.leaf (some (AV.fp ro (Nat.mul m_1 ((fun x => TypeInfo.size x) (Tables.types (Program.toTables Try.prog))[45])))) PT.leaf) none PT.leaf) none PT.leaf) none PT.leaf)) (some (AV.ptr (.ofNat 1) 0)) PT.leaf))) (Oper.dst (Oper.mk none (Op.store 45 (Operand.tmp 18) (Operand.tmp 139)) 0 "outright.go:107" #[Edge.mk 4 Ground.data, Edge.mk 3 Ground.data, Edge.mk 0 Ground.phase, Edge.mk 1 Ground.phase, Edge.mk 2 Ground.phase, Edge.mk 3 Ground.phase, Edge.mk 4 Ground.phase] none)) v fun tm => (fun i tm A marks => List.rec (motive := fun x => Program → Fx → App → Array Oper → Nat → Tm → H → List Mk → (Tm → H → List Mk → Ans) → Ans) (fun x x_1 x_2 x_3 x_4 tm A marks k => k tm A marks) (fun o x ih P fx app ops i tm A marks k => wantF ops tm o (stepGo P fx app o i tm A marks fun i tm A marks => ih P fx app ops i tm A marks k) (putTmF (Fx.nt fx) tm (Oper.dst o) (AV.tup []) fun tm => ih P fx app ops (Nat.succ i) tm A marks k) (Ans.err (Fx.fn fx) i 2000)) [] Try.prog fx3 (appF Try.prog PT.leaf (Nat.rec (motive := fun x => Ex) (fun x x_1 x_2 x_3 x_4 x_5 => Ans.err 0 0 0) (fun x ih fx c tm A marks k => codeH [] c Try.prog PT.leaf ih fx tm A marks k) 999)) #[Oper.mk (some 136) (Op.move (Operand.tmp 15)) 37 "outright.go:107" #[] none, Oper.mk (some 137) (Op.move (Operand.tmp 17)) 3 "outright.go:107" #[] none, Oper.mk (some 138) (Op.indexAddr 37 (Operand.tmp 136) (Operand.tmp 137)) 0 "outright.go:107" #[Edge.mk 0 Ground.data, Edge.mk 1 Ground.data] none, Oper.mk (some 139) (Op.load 45 (Operand.tmp 138)) 45 "outright.go:107" #[Edge.mk 2 Ground.data] none, Oper.mk (some 18) (Op.alloc 45) 0 "outright.go:107" #[] none, Oper.mk none (Op.store 45 (Operand.tmp 18) (Operand.tmp 139)) 0 "outright.go:107" #[Edge.mk 4 Ground.data, Edge.mk 3 Ground.data, Edge.mk 0 Ground.phase, Edge.mk 1 Ground.phase, Edge.mk 2 Ground.phase, Edge.mk 3 Ground.phase, Edge.mk 4 Ground.phase] none] i tm A marks fun tm A marks => pickK [1, 2, 5, 6, 8, 9, 10, 11, 12, 13, 15, 17, 18] [] [] k AExit.normal tm A marks) (Nat.succ (Nat.succ (Nat.succ (Nat.succ (Nat.succ (Nat.succ 0)))))) tm A []) (AV.tup []) A else Ans.err 2 0 0)) (if (Nat.beq (List.length l) 48 && Nat.ble (Nat.add 0 (List.length l)) 48 && List.all l AV.one) = true then List.rec (motive := fun x => List AV → Nat → (List AV → Ans) → Ans) (fun l x k => k l) (fun v x ih l i k => List.rec (motive := fun x => Nat → (List AV → Ans) → Ans) (fun x k => k []) (fun a l ih i k => Nat.rec (motive := fun x => Ans) (k (v :: l)) (fun i x => ih i fun l => k (a :: l)) i) l i fun l => ih l (Nat.succ i) k) l [AV.int .i64 0, AV.int .i64 0, AV.int .i64 0, AV.int .i64 0, AV.int .i64 0, AV.int .i64 0, AV.int .i64 0, AV.int .i64 0, AV.int .i64 0, AV.int .i64 0, AV.int .i64 0, AV.int .i64 0, AV.bool false, AV.int .u8 0, AV.int .u8 0, AV.int .u8 0, AV.int .u8 0, AV.int .u8 0, AV.int .u8 0, AV.int .u8 0, AV.int .u8 0, AV.int .u8 0, AV.int .u8 0, AV.int .u8 0, AV.int .u8 0, AV.int .u8 0, AV.int .u8 0, AV.int .u8 0, AV.int .u8 0, AV.int .u8 0, AV.int .u8 0, AV.int .u8 0, AV.int .u8 0, AV.int .u8 0, AV.int .u8 0, AV.int .u8 0, AV.int .u8 0, AV.int .u8 0, AV.int .u8 0, AV.int .u8 0, AV.int .u8 0, AV.int .u8 0, AV.int .u8 0, AV.int .u8 0, AV.int .u8 0, AV.nils, AV.nils, AV.nils] 0 fun cs => H.setK (H.mk (Pos.r (Pos.rec (motive := fun t => (fun x => Pos) t ×' Pos.below (motive := fun x => Pos) t) ⟨Pos.succ._f Pos.z PUnit.unit, PUnit.unit⟩ (fun p p_ih => ⟨Pos.succ._f (Pos.l p) p_ih, p_ih⟩) (fun p p_ih => ⟨Pos.succ._f (Pos.r p) p_ih, p_ih⟩) Pos.z).1) (PT.node (PT.node (PT.node PT.leaf (some (HObj.cells [AV.int .i64 0, AV.int .i64 0, AV.int .i64 0, AV.int .i64 0, AV.int .i64 0, AV.int .i64 0, AV.int .i64 0, AV.int .i64 0, AV.int .i64 0, AV.int .i64 0, AV.int .i64 0, AV.int .i64 0, AV.bool false, AV.int .u8 0, AV.int .u8 0, AV.int .u8 0, AV.int .u8 0, AV.int .u8 0, AV.int .u8 0, AV.int .u8 0, AV.int .u8 0, AV.int .u8 0, AV.int .u8 0, AV.int .u8 0, AV.int .u8 0, AV.int .u8 0, AV.int .u8 0, AV.int .u8 0, AV.int .u8 0, AV.int .u8 0, AV.int .u8 0, AV.int .u8 0, AV.int .u8 0, AV.int .u8 0, AV.int .u8 0, AV.int .u8 0, AV.int .u8 0, AV.int .u8 0, AV.int .u8 0, AV.int .u8 0, AV.int .u8 0, AV.int .u8 0, AV.int .u8 0, AV.int .u8 0, AV.int .u8 0, AV.nils, AV.nils, AV.nils] (Prod.fst (Prod.snd (Prod.fst (AV.cells (AV.agg [AV.int .i64 0, AV.int .i64 0, AV.int .i64 0, AV.int .i64 0, AV.int .i64 0, AV.int .i64 0, AV.int .i64 0, AV.int .i64 0, AV.int .i64 0, AV.int .i64 0, AV.int .i64 0, AV.int .i64 0, AV.bool false, AV.int .u8 0, AV.int .u8 0, AV.int .u8 0, AV.int .u8 0, AV.int .u8 0, AV.int .u8 0, AV.int .u8 0, AV.int .u8 0, AV.int .u8 0, AV.int .u8 0, AV.int .u8 0, AV.int .u8 0, AV.int .u8 0, AV.int .u8 0, AV.int .u8 0, AV.int .u8 0, AV.int .u8 0, AV.int .u8 0, AV.int .u8 0, AV.int .u8 0, AV.int .u8 0, AV.int .u8 0, AV.int .u8 0, AV.int .u8 0, AV.int .u8 0, AV.int .u8 0, AV.int .u8 0, AV.int .u8 0, AV.int .u8 0, AV.int .u8 0, AV.int .u8 0, AV.int .u8 0, AV.nils, AV.nils, AV.nils]), (fun x => TypeInfo.size x) (Tables.types (Program.toTables Try.prog))[45], fun p => AV.ptr p 0), Prod.fst (Prod.snd (AV.cells (AV.agg [AV.int .i64 0, AV.int .i64 0, AV.int .i64 0, AV.int .i64 0, AV.int .i64 0, AV.int .i64 0, AV.int .i64 0, AV.int .i64 0, AV.int .i64 0, AV.int .i64 0, AV.int .i64 0, AV.int .i64 0, AV.bool false, AV.int .u8 0, AV.int .u8 0, AV.int .u8 0, AV.int .u8 0, AV.int .u8 0, AV.int .u8 0, AV.int .u8 0, AV.int .u8 0, AV.int .u8 0, AV.int .u8 0, AV.int .u8 0, AV.int .u8 0, AV.int .u8 0, AV.int .u8 0, AV.int .u8 0, AV.int .u8 0, AV.int .u8 0, AV.int .u8 0, AV.int .u8 0, AV.int .u8 0, AV.int .u8 0, AV.int .u8 0, AV.int .u8 0, AV.int .u8 0, AV.int .u8 0, AV.int .u8 0, AV.int .u8 0, AV.int .u8 0, AV.int .u8 0, AV.int .u8 0, AV.int .u8 0, AV.int .u8 0, AV.nils, AV.nils, AV.nils]), (fun x => TypeInfo.size x) (Tables.types (Program.toTables Try.prog))[45], fun p => AV.ptr p 0)), Prod.snd (Prod.snd (AV.cells (AV.agg [AV.int .i64 0, AV.int .i64 0, AV.int .i64 0, AV.int .i64 0, AV.int .i64 0, AV.int .i64 0, AV.int .i64 0, AV.int .i64 0, AV.int .i64 0, AV.int .i64 0, AV.int .i64 0, AV.int .i64 0, AV.bool false, AV.int .u8 0, AV.int .u8 0, AV.int .u8 0, AV.int .u8 0, AV.int .u8 0, AV.int .u8 0, AV.int .u8 0, AV.int .u8 0, AV.int .u8 0, AV.int .u8 0, AV.int .u8 0, AV.int .u8 0, AV.int .u8 0, AV.int .u8 0, AV.int .u8 0, AV.int .u8 0, AV.int .u8 0, AV.int .u8 0, AV.int .u8 0, AV.int .u8 0, AV.int .u8 0, AV.int .u8 0, AV.int .u8 0, AV.int .u8 0, AV.int .u8 0, AV.int .u8 0, AV.int .u8 0, AV.int .u8 0, AV.int .u8 0, AV.int .u8 0, AV.int .u8 0, AV.int .u8 0, AV.nils, AV.nils, AV.nils]), (fun x => TypeInfo.size x) (Tables.types (Program.toTables Try.prog))[45], fun p => AV.ptr p 0))))) false)) PT.leaf) (some (propO s)) PT.leaf) (some (HObj.cells (beginC b) 8 false)) ((Pos.rec (motive := fun t => (fun x => PT HObj → PT HObj) t ×' Pos.below (motive := fun x => PT HObj → PT HObj) t) ⟨PT.put._f (some (HObj.cells [AV.int .i64 x.a1, AV.int .i64 x.a2] 2 false)) Pos.z PUnit.unit, PUnit.unit⟩ (fun p p_ih => ⟨PT.put._f (some (HObj.cells [AV.int .i64 x.a1, AV.int .i64 x.a2] 2 false)) (Pos.l p) p_ih, p_ih⟩) (fun p p_ih => ⟨PT.put._f (some (HObj.cells [AV.int .i64 x.a1, AV.int .i64 x.a2] 2 false)) (Pos.r p) p_ih, p_ih⟩) Pos.z).1 PT.leaf)) (H.ng (mkH (hL b s x))) (H.st (mkH (hL b s x)))) (H.next (mkH (hL b s x))) (some (HObj.cells cs (Prod.fst (Prod.snd (Prod.fst (AV.cells (AV.agg [AV.int .i64 0, AV.int .i64 0, AV.int .i64 0, AV.int .i64 0, AV.int .i64 0, AV.int .i64 0, AV.int .i64 0, AV.int .i64 0, AV.int .i64 0, AV.int .i64 0, AV.int .i64 0, AV.int .i64 0, AV.bool false, AV.int .u8 0, AV.int .u8 0, AV.int .u8 0, AV.int .u8 0, AV.int .u8 0, AV.int .u8 0, AV.int .u8 0, AV.int .u8 0, AV.int .u8 0, AV.int .u8 0, AV.int .u8 0, AV.int .u8 0, AV.int .u8 0, AV.int .u8 0, AV.int .u8 0, AV.int .u8 0, AV.int .u8 0, AV.int .u8 0, AV.int .u8 0, AV.int .u8 0, AV.int .u8 0, AV.int .u8 0, AV.int .u8 0, AV.int .u8 0, AV.int .u8 0, AV.int .u8 0, AV.int .u8 0, AV.int .u8 0, AV.int .u8 0, AV.int .u8 0, AV.int .u8 0, AV.int .u8 0, AV.nils, AV.nils, AV.nils]), (fun x => TypeInfo.size x) (Tables.types (Program.toTables Try.prog))[45], fun p => AV.ptr p 0), Prod.fst (Prod.snd (AV.cells (AV.agg [AV.int .i64 0, AV.int .i64 0, AV.int .i64 0, AV.int .i64 0, AV.int .i64 0, AV.int .i64 0, AV.int .i64 0, AV.int .i64 0, AV.int .i64 0, AV.int .i64 0, AV.int .i64 0, AV.int .i64 0, AV.bool false, AV.int .u8 0, AV.int .u8 0, AV.int .u8 0, AV.int .u8 0, AV.int .u8 0, AV.int .u8 0, AV.int .u8 0, AV.int .u8 0, AV.int .u8 0, AV.int .u8 0, AV.int .u8 0, AV.int .u8 0, AV.int .u8 0, AV.int .u8 0, AV.int .u8 0, AV.int .u8 0, AV.int .u8 0, AV.int .u8 0, AV.int .u8 0, AV.int .u8 0, AV.int .u8 0, AV.int .u8 0, AV.int .u8 0, AV.int .u8 0, AV.int .u8 0, AV.int .u8 0, AV.int .u8 0, AV.int .u8 0, AV.int .u8 0, AV.int .u8 0, AV.int .u8 0, AV.int .u8 0, AV.nils, AV.nils, AV.nils]), (fun x => TypeInfo.size x) (Tables.types (Program.toTables Try.prog))[45], fun p => AV.ptr p 0)), Prod.snd (Prod.snd (AV.cells (AV.agg [AV.int .i64 0, AV.int .i64 0, AV.int .i64 0, AV.int .i64 0, AV.int .i64 0, AV.int .i64 0, AV.int .i64 0, AV.int .i64 0, AV.int .i64 0, AV.int .i64 0, AV.int .i64 0, AV.int .i64 0, AV.bool false, AV.int .u8 0, AV.int .u8 0, AV.int .u8 0, AV.int .u8 0, AV.int .u8 0, AV.int .u8 0, AV.int .u8 0, AV.int .u8 0, AV.int .u8 0, AV.int .u8 0, AV.int .u8 0, AV.int .u8 0, AV.int .u8 0, AV.int .u8 0, AV.int .u8 0, AV.int .u8 0, AV.int .u8 0, AV.int .u8 0, AV.int .u8 0, AV.int .u8 0, AV.int .u8 0, AV.int .u8 0, AV.int .u8 0, AV.int .u8 0, AV.int .u8 0, AV.int .u8 0, AV.int .u8 0, AV.int .u8 0, AV.int .u8 0, AV.int .u8 0, AV.int .u8 0, AV.int .u8 0, AV.nils, AV.nils, AV.nils]), (fun x => TypeInfo.size x) (Tables.types (Program.toTables Try.prog))[45], fun p => AV.ptr p 0))))) false)) fun A => (fun v A => putTm (Fx.nt fx3) (PT.node (PT.node (PT.node ((Pos.rec (motive := fun t => (fun x => PT AV → PT AV) t ×' Pos.below (motive := fun x => PT AV → PT AV) t) ⟨PT.put._f (some (AV.fz ro m)) Pos.z PUnit.unit, PUnit.unit⟩ (fun p p_ih => ⟨PT.put._f (some (AV.fz ro m)) (Pos.l p) p_ih, p_ih⟩) (fun p p_ih => ⟨PT.put._f (some (AV.fz ro m)) (Pos.r p) p_ih, p_ih⟩) (Pos.rec (motive := fun t => (fun x => Pos) t ×' Pos.below (motive := fun x => Pos) t) ⟨Pos.succ._f Pos.z PUnit.unit, PUnit.unit⟩ (fun p p_ih => ⟨Pos.succ._f (Pos.l p) p_ih, p_ih⟩) (fun p p_ih => ⟨Pos.succ._f (Pos.r p) p_ih, p_ih⟩) Pos.z).1).1 PT.leaf) none (PT.node PT.leaf (some (AV.bool x.asked)) (PT.node (PT.node (PT.node (PT.node PT.leaf (some (AV.agg l)) PT.leaf) none PT.leaf) none PT.leaf) none PT.leaf))) (some (AV.fz (flat actC x.l) (List.length x.l))) (PT.node (PT.node ((Pos.rec (motive := fun t => (fun x => PT AV → PT AV) t ×' Pos.below (motive := fun x => PT AV → PT AV) t) ⟨PT.put._f (some (AV.int .i64 (Int.ofNat n))) Pos.z PUnit.unit, PUnit.unit⟩ (fun p p_ih => ⟨PT.put._f (some (AV.int .i64 (Int.ofNat n))) (Pos.l p) p_ih, p_ih⟩) (fun p p_ih => ⟨PT.put._f (some (AV.int .i64 (Int.ofNat n))) (Pos.r p) p_ih, p_ih⟩) Pos.z).1 PT.leaf) (some (AV.fz (u8s x.value) (List.length x.value))) (PT.node (PT.node (PT.node (PT.node PT.leaf (some (AV.int .i64 n_1)) PT.leaf) none PT.leaf) none PT.leaf) none PT.leaf)) (some (AV.bool true)) ((Pos.rec (motive := fun t => (fun x => PT AV → PT AV) t ×' Pos.below (motive := fun x => PT AV → PT AV) t) ⟨PT.put._f (some (AV.int .i64 (Int.ofNat x.i))) Pos.z PUnit.unit, PUnit.unit⟩ (fun p p_ih => ⟨PT.put._f (some (AV.int .i64 (Int.ofNat x.i))) (Pos.l p) p_ih, p_ih⟩) (fun p p_ih => ⟨PT.put._f (some (AV.int .i64 (Int.ofNat x.i))) (Pos.r p) p_ih, p_ih⟩) Pos.z).1 PT.leaf))) none (PT.node (PT.node (PT.node PT.leaf (some (AV.ptr (.ofNat 2) 0)) (PT.node (PT.node (PT.node (PT.node PT.leaf (some (AV.fz ro m)) PT.leaf) none PT.leaf) none PT.leaf) none PT.leaf)) none ((Pos.rec (motive := fun t => (fun x => PT AV → PT AV) t ×' Pos.below (motive := fun x => PT AV → PT AV) t) ⟨PT.put._f (some (AV.bool x.over)) Pos.z PUnit.unit, PUnit.unit⟩ (fun p p_ih => ⟨PT.put._f (some (AV.bool x.over)) (Pos.l p) p_ih, p_ih⟩) (fun p p_ih => ⟨PT.put._f (some (AV.bool x.over)) (Pos.r p) p_ih, p_ih⟩) Pos.z).1 PT.leaf)) (some (AV.ptr (.ofNat 0) 0)) (PT.node (PT.node (PT.node PT.leaf (some (AV.ptr (H.next (mkH (hL b s x))) 0)) PT.leaf) (some (AV.fz (u8s x.last) (List.length x.last))) (PT.node (PT.node (PT.node (PT.node PT.leaf (some (AV.fp ro (Nat.mul m_1 ((fun x => TypeInfo.size x) (Tables.types (Program.toTables Try.prog))[45])))) PT.leaf) none PT.leaf) none PT.leaf) none PT.leaf)) (some (AV.ptr (.ofNat 1) 0)) PT.leaf))) (Oper.dst (Oper.mk none (Op.store 45 (Operand.tmp 18) (Operand.tmp 139)) 0 "outright.go:107" #[Edge.mk 4 Ground.data, Edge.mk 3 Ground.data, Edge.mk 0 Ground.phase, Edge.mk 1 Ground.phase, Edge.mk 2 Ground.phase, Edge.mk 3 Ground.phase, Edge.mk 4 Ground.phase] none)) v fun tm => (fun i tm A marks => List.rec (motive := fun x => Program → Fx → App → Array Oper → Nat → Tm → H → List Mk → (Tm → H → List Mk → Ans) → Ans) (fun x x_1 x_2 x_3 x_4 tm A marks k => k tm A marks) (fun o x ih P fx app ops i tm A marks k => wantF ops tm o (stepGo P fx app o i tm A marks fun i tm A marks => ih P fx app ops i tm A marks k) (putTmF (Fx.nt fx) tm (Oper.dst o) (AV.tup []) fun tm => ih P fx app ops (Nat.succ i) tm A marks k) (Ans.err (Fx.fn fx) i 2000)) [] Try.prog fx3 (appF Try.prog PT.leaf (Nat.rec (motive := fun x => Ex) (fun x x_1 x_2 x_3 x_4 x_5 => Ans.err 0 0 0) (fun x ih fx c tm A marks k => codeH [] c Try.prog PT.leaf ih fx tm A marks k) 999)) #[Oper.mk (some 136) (Op.move (Operand.tmp 15)) 37 "outright.go:107" #[] none, Oper.mk (some 137) (Op.move (Operand.tmp 17)) 3 "outright.go:107" #[] none, Oper.mk (some 138) (Op.indexAddr 37 (Operand.tmp 136) (Operand.tmp 137)) 0 "outright.go:107" #[Edge.mk 0 Ground.data, Edge.mk 1 Ground.data] none, Oper.mk (some 139) (Op.load 45 (Operand.tmp 138)) 45 "outright.go:107" #[Edge.mk 2 Ground.data] none, Oper.mk (some 18) (Op.alloc 45) 0 "outright.go:107" #[] none, Oper.mk none (Op.store 45 (Operand.tmp 18) (Operand.tmp 139)) 0 "outright.go:107" #[Edge.mk 4 Ground.data, Edge.mk 3 Ground.data, Edge.mk 0 Ground.phase, Edge.mk 1 Ground.phase, Edge.mk 2 Ground.phase, Edge.mk 3 Ground.phase, Edge.mk 4 Ground.phase] none] i tm A marks fun tm A marks => pickK [1, 2, 5, 6, 8, 9, 10, 11, 12, 13, 15, 17, 18] [] [] k AExit.normal tm A marks) (Nat.succ (Nat.succ (Nat.succ (Nat.succ (Nat.succ (Nat.succ 0)))))) tm A []) (AV.tup []) A else Ans.err 2 0 0)) (Ans.err 3 3 9)) (Ans.err 3 2 26)) (Ans.err 3 2 26) := by kernel_rfl

def n9 (s : PS) (to : Int) : List AV := .int .i64 (.ofNat 9) :: .int .i64 (.ofNat s.me) :: .int .i64 to :: .int .i64 s.c1 :: .int .i64 s.c2 :: .int .i64 s.c3 :: .int .i64 s.set :: .int .i64 (.ofNat 0) :: .int .i64 s.b1 :: .int .i64 s.b2 :: .int .i64 (.ofNat 0) :: .int .i64 (.ofNat 0) :: .bool false :: zid [.nils, .nils, .nils]

def n11 (s : PS) (to : Int) : List AV := .int .i64 (.ofNat 11) :: .int .i64 (.ofNat s.me) :: .int .i64 to :: .int .i64 s.c1 :: .int .i64 s.c2 :: .int .i64 s.c3 :: .int .i64 s.set :: .int .i64 (.ofNat 0) :: .int .i64 s.b1 :: .int .i64 s.b2 :: .int .i64 (.ofNat 0) :: .int .i64 (.ofNat 0) :: .bool false :: zid [.fz (u8s s.value) s.value.length, .nils, .nils]

def n13 (s : PS) (to : Int) : List AV := .int .i64 (.ofNat 13) :: .int .i64 (.ofNat s.me) :: .int .i64 to :: .int .i64 (.ofNat 0) :: .int .i64 (.ofNat 0) :: .int .i64 (.ofNat 0) :: .int .i64 s.set :: .int .i64 (.ofNat 0) :: .int .i64 (.ofNat 0) :: .int .i64 (.ofNat 0) :: .int .i64 (.ofNat 0) :: .int .i64 (.ofNat 0) :: .bool false :: zid [.fz (u8s s.value) s.value.length, .nils, .nils]

theorem rn9 (b : BS) (s : PS) (x : LS) (ro : List AV) (m n : Nat) (to : Int) (k : AExit → List AV → H → Ans) :
    execH Try.prog (mkO [(9, orcErr)]) [⟨3, 1022, exSub fx3 r22 (mkTm (tmN x ro m n)) (mkH (hL b s x)) .normal (mkTm (tmM x ro m n)) (mkH (hL b s x ++ [some (.cells (n9 s to) 48 false)]))⟩] 1000 fx3 b4 (mkTm (tmN x ro m n)) (mkH (hL b s x)) [] (pickK [1, 2, 5, 6, 8, 9, 10, 11, 12, 13, 15, 17] [] [1, 2, 5, 6, 8, 9, 10, 11, 12, 13] k)
    = fInt (Int.ofNat n) fun n_1 => fInt (Int.ofNat m) fun n_2 => brec (k (AExit.exit 4) [AV.fz (flat actC x.l) (List.length x.l), AV.ptr (.ofNat 0) 0, AV.bool true, AV.ptr (.ofNat 1) 0, AV.ptr (.ofNat 2) 0, AV.fz (u8s x.value) (List.length x.value), AV.fz (u8s x.last) (List.length x.last), AV.bool x.asked, AV.bool x.over, AV.int .i64 (Int.ofNat x.i)] (mkH (hL b s x))) (guardK (fx3 = fx3 ∧ r22 = r22 ∧ Sub0 (mkTm (tmN x ro m n)) (mkTm [(1, AV.fz (flat actC x.l) (List.length x.l)), (2, AV.ptr (.ofNat 0) 0), (5, AV.bool true), (6, AV.ptr (.ofNat 1) 0), (8, AV.ptr (.ofNat 2) 0), (9, AV.fz (u8s x.value) (List.length x.value)), (10, AV.fz (u8s x.last) (List.length x.last)), (11, AV.bool x.asked), (12, AV.bool x.over), (13, AV.int .i64 (Int.ofNat x.i)), (15, AV.fz ro m), (17, AV.int .i64 (Int.ofNat n)), (130, AV.int .i64 n_1), (131, AV.fz ro m), (132, AV.int .i64 n_2), (133, AV.bool true)]) ∧ mkH (hL b s x) = mkH (hL b s x) ∧ MkNil []) (fInt (Int.ofNat s.me) fun n_3 => fInt b.me fun n_4 => brec (fInt to fun n_5 => fInt b.me fun n_6 => brec (fInt s.set fun n_7 => fInt b.set fun n_8 => brec (optK (boolK (ieq s.b1 x.a1) (boolK (ieq s.b2 x.a2) (some true) (some false)) (some false)) (fun q => brec (fInt (Int.ofNat n) fun n => fInt (wrapK .i64 (Int.add n (Int.ofNat 1))) fun n => fInt n fun n => k AExit.normal [AV.fz (flat actC x.l) (List.length x.l), AV.ptr (.ofNat 0) 0, AV.bool true, AV.ptr (.ofNat 1) 0, AV.ptr (.ofNat 2) 0, AV.fz (u8s x.value) (List.length x.value), AV.fz (u8s x.last) (List.length x.last), AV.bool x.asked, AV.bool x.over, AV.int .i64 (Int.ofNat x.i), AV.fz ro m, AV.int .i64 n] (mkH [some (HObj.cells (beginC b) 8 false), some (propO s), some (HObj.cells [AV.int .i64 x.a1, AV.int .i64 x.a2] 2 false), some (HObj.cells (AV.int .i64 (Int.ofNat 9) :: AV.int .i64 (Int.ofNat s.me) :: AV.int .i64 to :: AV.int .i64 s.c1 :: AV.int .i64 s.c2 :: AV.int .i64 s.c3 :: AV.int .i64 s.set :: AV.int .i64 (Int.ofNat 0) :: AV.int .i64 s.b1 :: AV.int .i64 s.b2 :: AV.int .i64 (Int.ofNat 0) :: AV.int .i64 (Int.ofNat 0) :: AV.bool false :: zid [AV.nils, AV.nils, AV.nils]) 48 false)])) (k AExit.ret [] (mkH [some (HObj.cells (beginC b) 8 false), some (propO s), some (HObj.cells [AV.int .i64 x.a1, AV.int .i64 x.a2] 2 false), some (HObj.cells (AV.int .i64 (Int.ofNat 9) :: AV.int .i64 (Int.ofNat s.me) :: AV.int .i64 to :: AV.int .i64 s.c1 :: AV.int .i64 s.c2 :: AV.int .i64 s.c3 :: AV.int .i64 s.set :: AV.int .i64 (Int.ofNat 0) :: AV.int .i64 s.b1 :: AV.int .i64 s.b2 :: AV.int .i64 (Int.ofNat 0) :: AV.int .i64 (Int.ofNat 0) :: AV.bool false :: zid [AV.nils, AV.nils, AV.nils]) 48 false)])) !q) (Ans.err 3 32 14)) (k AExit.ret [] (mkH [some (HObj.cells (beginC b) 8 false), some (propO s), some (HObj.cells [AV.int .i64 x.a1, AV.int .i64 x.a2] 2 false), some (HObj.cells (AV.int .i64 (Int.ofNat 9) :: AV.int .i64 (Int.ofNat s.me) :: AV.int .i64 to :: AV.int .i64 s.c1 :: AV.int .i64 s.c2 :: AV.int .i64 s.c3 :: AV.int .i64 s.set :: AV.int .i64 (Int.ofNat 0) :: AV.int .i64 s.b1 :: AV.int .i64 s.b2 :: AV.int .i64 (Int.ofNat 0) :: AV.int .i64 (Int.ofNat 0) :: AV.bool false :: zid [AV.nils, AV.nils, AV.nils]) 48 false)])) !ieq n_7 n_8) (k AExit.ret [] (mkH [some (HObj.cells (beginC b) 8 false), some (propO s), some (HObj.cells [AV.int .i64 x.a1, AV.int .i64 x.a2] 2 false), some (HObj.cells (AV.int .i64 (Int.ofNat 9) :: AV.int .i64 (Int.ofNat s.me) :: AV.int .i64 to :: AV.int .i64 s.c1 :: AV.int .i64 s.c2 :: AV.int .i64 s.c3 :: AV.int .i64 s.set :: AV.int .i64 (Int.ofNat 0) :: AV.int .i64 s.b1 :: AV.int .i64 s.b2 :: AV.int .i64 (Int.ofNat 0) :: AV.int .i64 (Int.ofNat 0) :: AV.bool false :: zid [AV.nils, AV.nils, AV.nils]) 48 false)])) (ieq n_5 n_6)) (k AExit.ret [] (mkH [some (HObj.cells (beginC b) 8 false), some (propO s), some (HObj.cells [AV.int .i64 x.a1, AV.int .i64 x.a2] 2 false), some (HObj.cells (AV.int .i64 (Int.ofNat 9) :: AV.int .i64 (Int.ofNat s.me) :: AV.int .i64 to :: AV.int .i64 s.c1 :: AV.int .i64 s.c2 :: AV.int .i64 s.c3 :: AV.int .i64 s.set :: AV.int .i64 (Int.ofNat 0) :: AV.int .i64 s.b1 :: AV.int .i64 s.b2 :: AV.int .i64 (Int.ofNat 0) :: AV.int .i64 (Int.ofNat 0) :: AV.bool false :: zid [AV.nils, AV.nils, AV.nils]) 48 false)])) !ieq n_3 n_4) (Ans.err 0 0 0)) (ilt n_1 n_2) := by kernel_rfl

theorem rn11 (b : BS) (s : PS) (x : LS) (ro : List AV) (m n : Nat) (to : Int) (q : Bool) (k : AExit → List AV → H → Ans) :
    execH Try.prog (mkO [(9, orcOne [.fz (u8s s.value) s.value.length, .fz (u8s x.value) x.value.length] (.bool q))]) [⟨3, 1022, exSub fx3 r22 (mkTm (tmN x ro m n)) (mkH (hL b s x)) .normal (mkTm (tmM x ro m n)) (mkH (hL b s x ++ [some (.cells (n11 s to) 48 false)]))⟩] 1000 fx3 b4 (mkTm (tmN x ro m n)) (mkH (hL b s x)) [] (pickK [1, 2, 5, 6, 8, 9, 10, 11, 12, 13, 15, 17] [] [1, 2, 5, 6, 8, 9, 10, 11, 12, 13] k)
    = fInt (Int.ofNat n) fun n_1 => fInt (Int.ofNat m) fun n_2 => brec (k (AExit.exit 4) [AV.fz (flat actC x.l) (List.length x.l), AV.ptr (.ofNat 0) 0, AV.bool true, AV.ptr (.ofNat 1) 0, AV.ptr (.ofNat 2) 0, AV.fz (u8s x.value) (List.length x.value), AV.fz (u8s x.last) (List.length x.last), AV.bool x.asked, AV.bool x.over, AV.int .i64 (Int.ofNat x.i)] (mkH (hL b s x))) (guardK (fx3 = fx3 ∧ r22 = r22 ∧ Sub0 (mkTm (tmN x ro m n)) (mkTm [(1, AV.fz (flat actC x.l) (List.length x.l)), (2, AV.ptr (.ofNat 0) 0), (5, AV.bool true), (6, AV.ptr (.ofNat 1) 0), (8, AV.ptr (.ofNat 2) 0), (9, AV.fz (u8s x.value) (List.length x.value)), (10, AV.fz (u8s x.last) (List.length x.last)), (11, AV.bool x.asked), (12, AV.bool x.over), (13, AV.int .i64 (Int.ofNat x.i)), (15, AV.fz ro m), (17, AV.int .i64 (Int.ofNat n)), (130, AV.int .i64 n_1), (131, AV.fz ro m), (132, AV.int .i64 n_2), (133, AV.bool true)]) ∧ mkH (hL b s x) = mkH (hL b s x) ∧ MkNil []) (fInt (Int.ofNat s.me) fun n_3 => fInt b.me fun n_4 => brec (fInt to fun n_5 => fInt b.me fun n_6 => brec (fInt s.set fun n_7 => fInt b.set fun n_8 => brec (optK (boolK (ieq s.b1 x.a1) (boolK (ieq s.b2 x.a2) (some true) (some false)) (some false)) (fun q_1 => brec (brec (fInt (Int.ofNat n) fun n => fInt (wrapK .i64 (Int.add n (Int.ofNat 1))) fun n => fInt n fun n => k AExit.normal [AV.fz (flat actC x.l) (List.length x.l), AV.ptr (.ofNat 0) 0, AV.bool true, AV.ptr (.ofNat 1) 0, AV.ptr (.ofNat 2) 0, AV.fz (u8s s.value) (List.length s.value), AV.fz (u8s x.last) (List.length x.last), AV.bool true, AV.bool x.over, AV.int .i64 (Int.ofNat x.i), AV.fz ro m, AV.int .i64 n] (mkH [some (HObj.cells (beginC b) 8 false), some (propO s), some (HObj.cells [AV.int .i64 x.a1, AV.int .i64 x.a2] 2 false), some (HObj.cells (AV.int .i64 (Int.ofNat 11) :: AV.int .i64 (Int.ofNat s.me) :: AV.int .i64 to :: AV.int .i64 s.c1 :: AV.int .i64 s.c2 :: AV.int .i64 s.c3 :: AV.int .i64 s.set :: AV.int .i64 (Int.ofNat 0) :: AV.int .i64 s.b1 :: AV.int .i64 s.b2 :: AV.int .i64 (Int.ofNat 0) :: AV.int .i64 (Int.ofNat 0) :: AV.bool false :: zid [AV.fz (u8s s.value) (List.length s.value), AV.nils, AV.nils]) 48 false)])) (guardK ([AV.fz (u8s s.value) (List.length s.value), AV.fz (u8s x.value) (List.length x.value)] = [AV.fz (u8s s.value) (List.length s.value), AV.fz (u8s x.value) (List.length x.value)]) (brec (k AExit.ret [] (mkH [some (HObj.cells (beginC b) 8 false), some (propO s), some (HObj.cells [AV.int .i64 x.a1, AV.int .i64 x.a2] 2 false), some (HObj.cells (AV.int .i64 (Int.ofNat 11) :: AV.int .i64 (Int.ofNat s.me) :: AV.int .i64 to :: AV.int .i64 s.c1 :: AV.int .i64 s.c2 :: AV.int .i64 s.c3 :: AV.int .i64 s.set :: AV.int .i64 (Int.ofNat 0) :: AV.int .i64 s.b1 :: AV.int .i64 s.b2 :: AV.int .i64 (Int.ofNat 0) :: AV.int .i64 (Int.ofNat 0) :: AV.bool false :: zid [AV.fz (u8s s.value) (List.length s.value), AV.nils, AV.nils]) 48 false)])) (fInt (Int.ofNat n) fun n => fInt (wrapK .i64 (Int.add n (Int.ofNat 1))) fun n => fInt n fun n => k AExit.normal [AV.fz (flat actC x.l) (List.length x.l), AV.ptr (.ofNat 0) 0, AV.bool true, AV.ptr (.ofNat 1) 0, AV.ptr (.ofNat 2) 0, AV.fz (u8s s.value) (List.length s.value), AV.fz (u8s x.last) (List.length x.last), AV.bool true, AV.bool x.over, AV.int .i64 (Int.ofNat x.i), AV.fz ro m, AV.int .i64 n] (mkH [some (HObj.cells (beginC b) 8 false), some (propO s), some (HObj.cells [AV.int .i64 x.a1, AV.int .i64 x.a2] 2 false), some (HObj.cells (AV.int .i64 (Int.ofNat 11) :: AV.int .i64 (Int.ofNat s.me) :: AV.int .i64 to :: AV.int .i64 s.c1 :: AV.int .i64 s.c2 :: AV.int .i64 s.c3 :: AV.int .i64 s.set :: AV.int .i64 (Int.ofNat 0) :: AV.int .i64 s.b1 :: AV.int .i64 s.b2 :: AV.int .i64 (Int.ofNat 0) :: AV.int .i64 (Int.ofNat 0) :: AV.bool false :: zid [AV.fz (u8s s.value) (List.length s.value), AV.nils, AV.nils]) 48 false)])) q) (Ans.err 85 0 0)) x.asked) (k AExit.ret [] (mkH [some (HObj.cells (beginC b) 8 false), some (propO s), some (HObj.cells [AV.int .i64 x.a1, AV.int .i64 x.a2] 2 false), some (HObj.cells (AV.int .i64 (Int.ofNat 11) :: AV.int .i64 (Int.ofNat s.me) :: AV.int .i64 to :: AV.int .i64 s.c1 :: AV.int .i64 s.c2 :: AV.int .i64 s.c3 :: AV.int .i64 s.set :: AV.int .i64 (Int.ofNat 0) :: AV.int .i64 s.b1 :: AV.int .i64 s.b2 :: AV.int .i64 (Int.ofNat 0) :: AV.int .i64 (Int.ofNat 0) :: AV.bool false :: zid [AV.fz (u8s s.value) (List.length s.value), AV.nils, AV.nils]) 48 false)])) !q_1) (Ans.err 3 32 14)) (k AExit.ret [] (mkH [some (HObj.cells (beginC b) 8 false), some (propO s), some (HObj.cells [AV.int .i64 x.a1, AV.int .i64 x.a2] 2 false), some (HObj.cells (AV.int .i64 (Int.ofNat 11) :: AV.int .i64 (Int.ofNat s.me) :: AV.int .i64 to :: AV.int .i64 s.c1 :: AV.int .i64 s.c2 :: AV.int .i64 s.c3 :: AV.int .i64 s.set :: AV.int .i64 (Int.ofNat 0) :: AV.int .i64 s.b1 :: AV.int .i64 s.b2 :: AV.int .i64 (Int.ofNat 0) :: AV.int .i64 (Int.ofNat 0) :: AV.bool false :: zid [AV.fz (u8s s.value) (List.length s.value), AV.nils, AV.nils]) 48 false)])) !ieq n_7 n_8) (k AExit.ret [] (mkH [some (HObj.cells (beginC b) 8 false), some (propO s), some (HObj.cells [AV.int .i64 x.a1, AV.int .i64 x.a2] 2 false), some (HObj.cells (AV.int .i64 (Int.ofNat 11) :: AV.int .i64 (Int.ofNat s.me) :: AV.int .i64 to :: AV.int .i64 s.c1 :: AV.int .i64 s.c2 :: AV.int .i64 s.c3 :: AV.int .i64 s.set :: AV.int .i64 (Int.ofNat 0) :: AV.int .i64 s.b1 :: AV.int .i64 s.b2 :: AV.int .i64 (Int.ofNat 0) :: AV.int .i64 (Int.ofNat 0) :: AV.bool false :: zid [AV.fz (u8s s.value) (List.length s.value), AV.nils, AV.nils]) 48 false)])) (ieq n_5 n_6)) (k AExit.ret [] (mkH [some (HObj.cells (beginC b) 8 false), some (propO s), some (HObj.cells [AV.int .i64 x.a1, AV.int .i64 x.a2] 2 false), some (HObj.cells (AV.int .i64 (Int.ofNat 11) :: AV.int .i64 (Int.ofNat s.me) :: AV.int .i64 to :: AV.int .i64 s.c1 :: AV.int .i64 s.c2 :: AV.int .i64 s.c3 :: AV.int .i64 s.set :: AV.int .i64 (Int.ofNat 0) :: AV.int .i64 s.b1 :: AV.int .i64 s.b2 :: AV.int .i64 (Int.ofNat 0) :: AV.int .i64 (Int.ofNat 0) :: AV.bool false :: zid [AV.fz (u8s s.value) (List.length s.value), AV.nils, AV.nils]) 48 false)])) !ieq n_3 n_4) (Ans.err 0 0 0)) (ilt n_1 n_2) := by kernel_rfl

theorem rn13 (b : BS) (s : PS) (x : LS) (ro : List AV) (m n : Nat) (to : Int) (k : AExit → List AV → H → Ans) :
    execH Try.prog (mkO [(9, orcErr)]) [⟨3, 1022, exSub fx3 r22 (mkTm (tmN x ro m n)) (mkH (hL b s x)) .normal (mkTm (tmM x ro m n)) (mkH (hL b s x ++ [some (.cells (n13 s to) 48 false)]))⟩] 1000 fx3 b4 (mkTm (tmN x ro m n)) (mkH (hL b s x)) [] (pickK [1, 2, 5, 6, 8, 9, 10, 11, 12, 13, 15, 17] [] [1, 2, 5, 6, 8, 9, 10, 11, 12, 13] k)
    = fInt (Int.ofNat n) fun n_1 => fInt (Int.ofNat m) fun n_2 => brec (k (AExit.exit 4) [AV.fz (flat actC x.l) (List.length x.l), AV.ptr (.ofNat 0) 0, AV.bool true, AV.ptr (.ofNat 1) 0, AV.ptr (.ofNat 2) 0, AV.fz (u8s x.value) (List.length x.value), AV.fz (u8s x.last) (List.length x.last), AV.bool x.asked, AV.bool x.over, AV.int .i64 (Int.ofNat x.i)] (mkH (hL b s x))) (guardK (fx3 = fx3 ∧ r22 = r22 ∧ Sub0 (mkTm (tmN x ro m n)) (mkTm [(1, AV.fz (flat actC x.l) (List.length x.l)), (2, AV.ptr (.ofNat 0) 0), (5, AV.bool true), (6, AV.ptr (.ofNat 1) 0), (8, AV.ptr (.ofNat 2) 0), (9, AV.fz (u8s x.value) (List.length x.value)), (10, AV.fz (u8s x.last) (List.length x.last)), (11, AV.bool x.asked), (12, AV.bool x.over), (13, AV.int .i64 (Int.ofNat x.i)), (15, AV.fz ro m), (17, AV.int .i64 (Int.ofNat n)), (130, AV.int .i64 n_1), (131, AV.fz ro m), (132, AV.int .i64 n_2), (133, AV.bool true)]) ∧ mkH (hL b s x) = mkH (hL b s x) ∧ MkNil []) (fInt (Int.ofNat s.me) fun n_3 => fInt b.me fun n_4 => brec (fInt to fun n_5 => fInt b.me fun n_6 => brec (fInt s.set fun n_7 => fInt b.set fun n_8 => brec (fInt (Int.ofNat n) fun n => fInt (wrapK .i64 (Int.add n (Int.ofNat 1))) fun n => fInt n fun n => k AExit.normal [AV.fz (flat actC x.l) (List.length x.l), AV.ptr (.ofNat 0) 0, AV.bool true, AV.ptr (.ofNat 1) 0, AV.ptr (.ofNat 2) 0, AV.fz (u8s x.value) (List.length x.value), AV.fz (u8s x.last) (List.length x.last), AV.bool x.asked, AV.bool x.over, AV.int .i64 (Int.ofNat x.i), AV.fz ro m, AV.int .i64 n] (mkH [some (HObj.cells (beginC b) 8 false), some (propO s), some (HObj.cells [AV.int .i64 x.a1, AV.int .i64 x.a2] 2 false), some (HObj.cells (AV.int .i64 (Int.ofNat 13) :: AV.int .i64 (Int.ofNat s.me) :: AV.int .i64 to :: AV.int .i64 (Int.ofNat 0) :: AV.int .i64 (Int.ofNat 0) :: AV.int .i64 (Int.ofNat 0) :: AV.int .i64 s.set :: AV.int .i64 (Int.ofNat 0) :: AV.int .i64 (Int.ofNat 0) :: AV.int .i64 (Int.ofNat 0) :: AV.int .i64 (Int.ofNat 0) :: AV.int .i64 (Int.ofNat 0) :: AV.bool false :: zid [AV.fz (u8s s.value) (List.length s.value), AV.nils, AV.nils]) 48 false)])) (k AExit.ret [] (mkH [some (HObj.cells (beginC b) 8 false), some (propO s), some (HObj.cells [AV.int .i64 x.a1, AV.int .i64 x.a2] 2 false), some (HObj.cells (AV.int .i64 (Int.ofNat 13) :: AV.int .i64 (Int.ofNat s.me) :: AV.int .i64 to :: AV.int .i64 (Int.ofNat 0) :: AV.int .i64 (Int.ofNat 0) :: AV.int .i64 (Int.ofNat 0) :: AV.int .i64 s.set :: AV.int .i64 (Int.ofNat 0) :: AV.int .i64 (Int.ofNat 0) :: AV.int .i64 (Int.ofNat 0) :: AV.int .i64 (Int.ofNat 0) :: AV.int .i64 (Int.ofNat 0) :: AV.bool false :: zid [AV.fz (u8s s.value) (List.length s.value), AV.nils, AV.nils]) 48 false)])) !ieq n_7 n_8) (k AExit.ret [] (mkH [some (HObj.cells (beginC b) 8 false), some (propO s), some (HObj.cells [AV.int .i64 x.a1, AV.int .i64 x.a2] 2 false), some (HObj.cells (AV.int .i64 (Int.ofNat 13) :: AV.int .i64 (Int.ofNat s.me) :: AV.int .i64 to :: AV.int .i64 (Int.ofNat 0) :: AV.int .i64 (Int.ofNat 0) :: AV.int .i64 (Int.ofNat 0) :: AV.int .i64 s.set :: AV.int .i64 (Int.ofNat 0) :: AV.int .i64 (Int.ofNat 0) :: AV.int .i64 (Int.ofNat 0) :: AV.int .i64 (Int.ofNat 0) :: AV.int .i64 (Int.ofNat 0) :: AV.bool false :: zid [AV.fz (u8s s.value) (List.length s.value), AV.nils, AV.nils]) 48 false)])) (ieq n_5 n_6)) (k AExit.ret [] (mkH [some (HObj.cells (beginC b) 8 false), some (propO s), some (HObj.cells [AV.int .i64 x.a1, AV.int .i64 x.a2] 2 false), some (HObj.cells (AV.int .i64 (Int.ofNat 13) :: AV.int .i64 (Int.ofNat s.me) :: AV.int .i64 to :: AV.int .i64 (Int.ofNat 0) :: AV.int .i64 (Int.ofNat 0) :: AV.int .i64 (Int.ofNat 0) :: AV.int .i64 s.set :: AV.int .i64 (Int.ofNat 0) :: AV.int .i64 (Int.ofNat 0) :: AV.int .i64 (Int.ofNat 0) :: AV.int .i64 (Int.ofNat 0) :: AV.int .i64 (Int.ofNat 0) :: AV.bool false :: zid [AV.fz (u8s s.value) (List.length s.value), AV.nils, AV.nils]) 48 false)])) !ieq n_3 n_4) (Ans.err 0 0 0)) (ilt n_1 n_2) := by kernel_rfl

theorem seg_at {α : Type} {f : α → List AV} {N : Nat} (hN : ∀ a, (f a).length = N) {l : List α} {i : Nat} {a : α} (h : l[i]? = some a) (F : List AV → Ans) (e : Ans) : segK (Nat.mul i N) (flat f l) N F e = F (f a) := by
  have hi := (List.getElem?_eq_some_iff.1 h).1
  have hl := flat_length hN l
  have h1 : i * N + N ≤ (flat f l).length := by
    rw [hl]
    calc i * N + N = (i + 1) * N := by rw [Nat.add_mul, Nat.one_mul]
      _ ≤ l.length * N := Nat.mul_le_mul_right N hi
  rw [segK_eq, show Nat.mul i N = i * N from rfl, if_pos h1, flat_whole hN h]

theorem sets_all : ∀ (vs l : List AV), vs.length = l.length → sets vs l 0 = vs
  | [], [], _ => rfl
  | v :: vs, a :: l, h => by
    have := sets_all vs l (by simpa using h)
    rw [sets_zero, this]

theorem setsB_all {vs l : List AV} (h : vs.length = l.length) (f : List AV → Ans) (e : Ans) : setsB 0 vs l f e = f vs := by
  rw [setsB_eq, if_pos (by omega), sets_all vs l h]

theorem seg48 (s : PS) {ms : List Int} {n : Nat} {to : Int} (h : ms[n]? = some to) (F : List AV → Ans) (e : Ans) : segK (Nat.mul n 48) (flat (noteC s) ms) 48 F e = F (noteC s to) := seg_at (noteC_len s) h F e

theorem load22 (b : BS) (s : PS) (x : LS) {ms : List Int} {n : Nat} {to : Int} (h : ms[n]? = some to) : CodeOK Try.prog fx3 r22 (mkTm (tmN x (flat (noteC s) ms) ms.length n)) (mkH (hL b s x)) [] .normal (mkTm (tmM x (flat (noteC s) ms) ms.length n)) (mkH (hL b s x ++ [some (.cells (noteC s to) 48 false)])) [] :=
  CodeOK.of_pick hmix .leaf .nil (N := 1000) [1, 2, 5, 6, 8, 9, 10, 11, 12, 13, 15, 17, 18] [] [] fun k => (ra22 b s x (flat (noteC s) ms) ms.length n k).trans (by
    have hn := (List.getElem?_eq_some_iff.1 h).1
    have c1 : Nat.blt n ms.length = true := blt_true hn
    have c2 : onesF (noteC s to) = true := by rw [onesF_eq]; exact noteC_ones s to
    have c3 : Nat.beq (noteC s to).length 48 = true := AM.beq_true (noteC_len s to)
    simp only [fInt_eq, natOf_of, c1, boolK_true, seg48 s h, fList_eq, c2, c3]
    rw [setsB_all (by rw [noteC_len]; rfl)]
    try exact rfl)

theorem eInt_str (a : List Nat) (f : IntKind → Int → Ans) (e : Ans) : eInt (.str a) f e = e := rfl
theorem eAgg_str (a : List Nat) (f : List AV → Ans) (e : Ans) : eAgg (.str a) f e = e := rfl

theorem same_ok {a b : List Nat} (ha : isBytes a) (hb : isBytes b) : FunOK Try.prog 9 [.fz (u8s a) a.length, .fz (u8s b) b.length] (mkH []) (.bool (lbeq a b)) (mkH []) :=
  FunOK.of_runH hmix .leaf .nil (N := 1000) (f := 9) fun k => (sameT a b k).trans (by
    have hv : binV Try.prog BinOp.eql 9 (Operand.tmp 6) (Operand.tmp 8) (.str a) (.str b) = some (.bool (lbeq a b)) := by kernel_rfl
    simp only [bytes_fz ha, bytes_fz hb, optK_some, fAVF_eq, fAV_eq]
    rw [eInt_str, eAgg_str]
    simp only [hv, optK_some, fAV_eq])

theorem same_nils {b : List Nat} (hb : isBytes b) : FunOK Try.prog 9 [.nils, .fz (u8s b) b.length] (mkH []) (.bool (lbeq [] b)) (mkH []) :=
  FunOK.of_runH hmix .leaf .nil (N := 1000) (f := 9) fun k => (sameN b k).trans (by
    have hv : binV Try.prog BinOp.eql 9 (Operand.tmp 6) (Operand.tmp 8) (.str []) (.str b) = some (.bool (lbeq [] b)) := by kernel_rfl
    simp only [bytes_fz hb, optK_some, fAVF_eq, fAV_eq, hv])

/-- What stands behind a note. -/
def NX (s : PS) (x : LS) : LS := if s.phase = 2 then { x with value := s.value, asked := true } else x

/-- What holds at the notes. -/
structure NInv (b : BS) (s : PS) (x : LS) : Prop where
  me : b.me = (s.me : Int)
  set : b.set = s.set
  at1 : s.phase = 1 ∨ s.phase = 2 → s.b1 = x.a1 ∧ s.b2 = x.a2
  val : s.phase = 2 → x.asked = true → x.value = s.value
  sb : okb s.value
  xb : okb x.value

theorem NInv.nx {b : BS} {s : PS} {x : LS} (h : NInv b s x) : NInv b s (NX s x) := by
  unfold NX
  split
  · exact ⟨h.me, h.set, h.at1, fun _ _ => rfl, h.sb, h.sb⟩
  · exact h

theorem lbeq_self (l : List Nat) : lbeq l l = true := by rw [lbeq_iff]; exact beq_self_eq_true l

noncomputable def o4 (x : LS) (ro : List AV) (m n : Nat) : List AV := [.fz (flat actC x.l) x.l.length, .ptr (.ofNat 0) 0, .bool true, .ptr (.ofNat 1) 0, .ptr (.ofNat 2) 0, .fz (u8s x.value) x.value.length, .fz (u8s x.last) x.last.length, .bool x.asked, .bool x.over, .int .i64 (.ofNat x.i), .fz ro m, .int .i64 (.ofNat n)]

theorem round22 {b : BS} {s : PS} {x : LS} {ms : List Int} {n : Nat} {to : Int} (h : NInv b s x) (hn : ms[n]? = some to) (hto : to ≠ (s.me : Int)) (hl : n < 1000000) :
    CodeOK Try.prog fx3 b4 (mkTm (tmN x (flat (noteC s) ms) ms.length n)) (mkH (hL b s x)) [] .normal (mkTm ([1, 2, 5, 6, 8, 9, 10, 11, 12, 13, 15, 17].zip (o4 (NX s x) (flat (noteC s) ms) ms.length (n + 1)))) (mkH (hL b s x ++ [some (.cells (noteC s to) 48 false)])) [] := by
  have hn' := (List.getElem?_eq_some_iff.1 hn).1
  have L := load22 b s x hn
  have c1 : ilt (Int.ofNat n) (Int.ofNat ms.length) = true := blt_true hn'
  have c2 : ieq (Int.ofNat s.me) b.me = true := ieq_true h.me.symm
  have c3 : ieq to b.me = false := ieq_false (by rw [h.me]; exact hto)
  have c4 : ieq s.set b.set = true := ieq_true h.set.symm
  have c5 : wrapK .i64 (Int.add (Int.ofNat n) (Int.ofNat 1)) = .ofNat (n + 1) := wrap_add (by omega)
  by_cases p1 : s.phase = 1
  · have e : noteC s to = n9 s to := if_pos p1
    have ex : NX s x = x := if_neg (by omega)
    obtain ⟨a1, a2⟩ := h.at1 (.inl p1)
    have d1 := ieq_true a1
    have d2 := ieq_true a2
    rw [e] at L ⊢
    rw [ex]
    exact CodeOK.of_pick hmix (OrOK.cons good_err .nil) (HolesOK.one (exSub_ok L)) (N := 1000) _ [] [1, 2, 5, 6, 8, 9, 10, 11, 12, 13] fun k => (rn9 b s x (flat (noteC s) ms) ms.length n to k).trans (by
      simp only [fInt_eq, c1, brec_true, brec_false]
      refine (guardK_pos (by repeat' first | trivial | rfl | exact LTm.nil | refine LTm.cons (by kernel_rfl) ?_ | refine Sub0.of_list ?_ | constructor) _ _).trans ?_
      simp only [fInt_eq, c2, c3, c4, c5, d1, d2, boolK_true, optK_some, brec_true, brec_false, Bool.not_true, Bool.not_false]
      try exact rfl)
  · by_cases p2 : s.phase = 2
    · have e : noteC s to = n11 s to := (if_neg p1).trans (if_pos p2)
      have ex : NX s x = { x with value := s.value, asked := true } := if_pos p2
      obtain ⟨a1, a2⟩ := h.at1 (.inr p2)
      have d1 := ieq_true a1
      have d2 := ieq_true a2
      have g := good_one (same_ok h.sb.2 h.xb.2) (fun _ => rfl) (fun _ => rfl)
      rw [e] at L ⊢
      rw [ex]
      exact CodeOK.of_pick hmix (OrOK.cons g .nil) (HolesOK.one (exSub_ok L)) (N := 1000) _ [] [1, 2, 5, 6, 8, 9, 10, 11, 12, 13] fun k => (rn11 b s x (flat (noteC s) ms) ms.length n to _ k).trans (by
        simp only [fInt_eq, c1, brec_true, brec_false]
        refine (guardK_pos (by repeat' first | trivial | rfl | exact LTm.nil | refine LTm.cons (by kernel_rfl) ?_ | refine Sub0.of_list ?_ | constructor) _ _).trans ?_
        simp only [fInt_eq, c2, c3, c4, c5, d1, d2, boolK_true, optK_some, brec_true, brec_false, Bool.not_true, Bool.not_false]
        cases ha : x.asked
        · simp only [boolK_false, boolK_true, brec_true, brec_false]
          try exact rfl
        · have hv := h.val p2 ha
          have hq : lbeq s.value x.value = true := by rw [hv]; exact lbeq_self _
          simp only [hq, boolK_false, boolK_true, brec_true, brec_false, Bool.not_true]
          refine (guardK_pos (by repeat' first | trivial | rfl | constructor) _ _).trans ?_
          try exact rfl)
    · have e : noteC s to = n13 s to := (if_neg p1).trans (if_neg p2)
      have ex : NX s x = x := if_neg p2
      rw [e] at L ⊢
      rw [ex]
      exact CodeOK.of_pick hmix (OrOK.cons good_err .nil) (HolesOK.one (exSub_ok L)) (N := 1000) _ [] [1, 2, 5, 6, 8, 9, 10, 11, 12, 13] fun k => (rn13 b s x (flat (noteC s) ms) ms.length n to k).trans (by
        simp only [fInt_eq, c1, brec_true, brec_false]
        refine (guardK_pos (by repeat' first | trivial | rfl | exact LTm.nil | refine LTm.cons (by kernel_rfl) ?_ | refine Sub0.of_list ?_ | constructor) _ _).trans ?_
        simp only [fInt_eq, c2, c3, c4, c5, boolK_true, optK_some, brec_true, brec_false, Bool.not_true, Bool.not_false]
        try exact rfl)

theorem rnE (b : BS) (s : PS) (x : LS) (ro : List AV) (m n : Nat) (k : AExit → List AV → H → Ans) :
    execH Try.prog (mkO [(9, orcErr)]) [⟨3, 1022, exErr⟩] 1000 fx3 b4 (mkTm (tmN x ro m n)) (mkH (hL b s x)) [] (pickK [1, 2, 5, 6, 8, 9, 10, 11, 12, 13, 15, 17] [] [1, 2, 5, 6, 8, 9, 10, 11, 12, 13] k)
    = fInt (Int.ofNat n) fun n => fInt (Int.ofNat m) fun n_1 => brec (k (AExit.exit 4) [AV.fz (flat actC x.l) (List.length x.l), AV.ptr (.ofNat 0) 0, AV.bool true, AV.ptr (.ofNat 1) 0, AV.ptr (.ofNat 2) 0, AV.fz (u8s x.value) (List.length x.value), AV.fz (u8s x.last) (List.length x.last), AV.bool x.asked, AV.bool x.over, AV.int .i64 (Int.ofNat x.i)] (mkH (hL b s x))) (Ans.err 79 0 0) (ilt n n_1) := by kernel_rfl

noncomputable def e4 (x : LS) : List AV := [.fz (flat actC x.l) x.l.length, .ptr (.ofNat 0) 0, .bool true, .ptr (.ofNat 1) 0, .ptr (.ofNat 2) 0, .fz (u8s x.value) x.value.length, .fz (u8s x.last) x.last.length, .bool x.asked, .bool x.over, .int .i64 (.ofNat x.i)]

theorem hL_nx (b : BS) (s : PS) (x : LS) : hL b s (NX s x) = hL b s x := by unfold NX; split <;> rfl

theorem nx_nx (s : PS) (x : LS) : NX s (NX s x) = NX s x := by
  by_cases p : s.phase = 2
  · simp only [NX, if_pos p]
  · simp only [NX, if_neg p]

theorem hL_ren (σ : Pos → Pos) (x : LS) : (HObj.cells [.int .i64 x.a1, .int .i64 x.a2] 2 false).ren σ = .cells [.int .i64 x.a1, .int .i64 x.a2] 2 false := rfl

theorem stop4 {ρ0 : RM} {A0 : H} {w0 : World} {b : BS} {s : PS} {x : LS} {ro : List AV} {m n : Nat} (h : m ≤ n) :
    CodeR Try.prog ρ0 A0 w0 fx3 b4 (mkTm (tmN x ro m n)) (mkH (hL b s x)) (.exit 4) (mkTm ([1, 2, 5, 6, 8, 9, 10, 11, 12, 13].zip (e4 x))) (mkH (hL b s x)) := by
  have c1 : ilt (Int.ofNat n) (Int.ofNat m) = false := blt_false h
  exact CodeR.of rfl (CodeOK.of_pick hmix (OrOK.cons good_err .nil) (HolesOK.one exErr_ok) (N := 1000) [1, 2, 5, 6, 8, 9, 10, 11, 12, 13, 15, 17] [] [1, 2, 5, 6, 8, 9, 10, 11, 12, 13] fun k => (rnE b s x ro m n k).trans (by
    simp only [fInt_eq, c1, brec_true, brec_false]
    try exact rfl))

theorem next4 {ρ0 : RM} {w0 : World} {b : BS} {s : PS} {x : LS} {ms : List Int} {n : Nat} {to : Int} (h : NInv b s x) (hn : ms[n]? = some to) (hto : to ≠ (s.me : Int)) (hl : n < 1000000) (hr0 : Rel ρ0 (mkH (hL b s x)) w0) :
    CodeR Try.prog ρ0 (mkH (hL b s x)) w0 fx3 b4 (mkTm (tmN x (flat (noteC s) ms) ms.length n)) (mkH (hL b s x)) .normal (mkTm (tmN (NX s x) (flat (noteC s) ms) ms.length (n + 1))) (mkH (hL b s x)) := by
  refine (CodeR.of rfl (round22 h hn hto hl)).post (Retell.sel hr0 (τ := seat [0, 1, 2] 4) ?_ (SubT.of_list (l := tmN (NX s x) (flat (noteC s) ms) ms.length (n + 1)) (by repeat first | exact .nil | refine .cons (by kernel_rfl) ?_)))
  have e : hL b s x ++ [some (.cells (noteC s to) 48 false)] = [some (.cells (beginC b) 8 false), some (propO s), some (.cells [.int .i64 x.a1, .int .i64 x.a2] 2 false), some (.cells (noteC s to) 48 false)] := rfl
  rw [e, mkH_next]
  refine Sel.of_listN (n := 3) (N := 4) (t := [0, 1, 2]) rfl rfl ?_ (by show [0, 1, 2].Nodup; decide) ⟨rfl, rfl, rfl, trivial⟩
  exact .some rfl rfl (.some rfl (prop_ren _ _).symm (.some rfl rfl .nil))

theorem loop4 {b : BS} {s : PS} {ms : List Int} (hms : ∀ to ∈ ms, to ≠ (s.me : Int)) (hl : ms.length < 1000000) : ∀ (j n : Nat) (x : LS), n + j = ms.length → NInv b s x → ∀ (ρ0 : RM) (w0 : World), Rel ρ0 (mkH (hL b s x)) w0 →
    LoopR Try.prog ρ0 (mkH (hL b s x)) w0 fx3 b4 (mkTm (tmN x (flat (noteC s) ms) ms.length n)) (mkH (hL b s x)) (.exit 4) (mkTm ([1, 2, 5, 6, 8, 9, 10, 11, 12, 13].zip (e4 (if j = 0 then x else NX s x)))) (mkH (hL b s x)) := by
  intro j
  induction j with
  | zero => exact fun n x hn h ρ0 w0 hr0 => .stop (fun e => by cases e) (stop4 (by omega))
  | succ j ih =>
    intro n x hn h ρ0 w0 hr0
    have hg : ms[n]? = some (ms[n]'(by omega)) := List.getElem?_eq_getElem (by omega)
    have I := ih (n + 1) (NX s x) (by omega) h.nx ρ0 w0 (by rw [hL_nx]; exact hr0)
    rw [hL_nx, nx_nx] at I
    refine .next (next4 h hg (hms _ (List.getElem_mem _)) (by omega) hr0) ?_
    rw [if_neg (by omega)]
    by_cases hj : j = 0
    · rw [if_pos hj] at I; exact I
    · rw [if_neg hj] at I; exact I

theorem block4 {b : BS} {s : PS} {x : LS} {ms : List Int} (hms : ∀ to ∈ ms, to ≠ (s.me : Int)) (hl : ms.length < 1000000) (h : NInv b s x) :
    CodeOK Try.prog fx3 (subC [1,1,1,1,1,1,1,0,1,1,1,1,0,1,1,1,0,1] (bodyC Try.f3)) (mkTm (tmN x (flat (noteC s) ms) ms.length 0)) (mkH (hL b s x)) [] .normal (mkTm ([1, 2, 5, 6, 8, 9, 10, 11, 12, 13].zip (e4 (if ms.length = 0 then x else NX s x)))) (mkH (hL b s x)) [] := by
  rw [b4_eq]
  exact CodeOK.of_base rfl fun ρ0 w0 hr0 => .block (loop4 hms hl ms.length 0 x (Nat.zero_add _) h ρ0 w0 hr0).code

theorem less8T (a b c d : Int) (k : AV → H → Ans) :
    bodyF Try.prog (execH Try.prog .leaf [] 1000) (Pos.ofNat 8) [] [] [.agg [.int .i64 a, .int .i64 b], .agg [.int .i64 c, .int .i64 d]] (mkH []) k
    = fInt a fun n => fInt c fun n_1 => brec (fInt a fun n => fInt c fun n_2 => brec (k (AV.bool false) (mkH [some (HObj.cells [AV.int .i64 a, AV.int .i64 b] 2 false), some (HObj.cells [AV.int .i64 c, AV.int .i64 d] 2 false)])) (fInt b fun n => fInt d fun n_3 => brec (k (AV.bool false) (mkH [some (HObj.cells [AV.int .i64 a, AV.int .i64 b] 2 false), some (HObj.cells [AV.int .i64 c, AV.int .i64 d] 2 false)])) (k (AV.bool true) (mkH [some (HObj.cells [AV.int .i64 a, AV.int .i64 b] 2 false), some (HObj.cells [AV.int .i64 c, AV.int .i64 d] 2 false)])) (ilt n n_3)) (ieq n n_2)) (k (AV.bool true) (mkH [some (HObj.cells [AV.int .i64 a, AV.int .i64 b] 2 false), some (HObj.cells [AV.int .i64 c, AV.int .i64 d] 2 false)])) (ilt n n_1) := by kernel_rfl

theorem less8 (a b c d : Int) : FunOK Try.prog 8 [.agg [.int .i64 a, .int .i64 b], .agg [.int .i64 c, .int .i64 d]] (mkH []) (.bool (bless a b c d)) (mkH []) := by
  have fin : ∀ {t : Bool} {A' : H}, (∀ k : AV → H → Ans, bodyF Try.prog (execH Try.prog .leaf [] 1000) (Pos.ofNat 8) [] [] [.agg [.int .i64 a, .int .i64 b], .agg [.int .i64 c, .int .i64 d]] (mkH []) k = k (.bool t) A') → bless a b c d = t → FunOK Try.prog 8 [.agg [.int .i64 a, .int .i64 b], .agg [.int .i64 c, .int .i64 d]] (mkH []) (.bool (bless a b c d)) (mkH []) := by
    intro t A' h e
    rw [e]
    exact (FunOK.of_runH hmix .leaf .nil (N := 1000) (f := 8) h).bare fun _ => rfl
  rcases Int.lt_trichotomy a c with h | h | h <;> rcases Int.lt_trichotomy b d with h' | h' | h'
  all_goals
    have e : ∀ k : AV → H → Ans, _ = _ := fun k => (less8T a b c d k).trans (by
      simp (maxSteps := 4000000) (disch := omega) only [fInt_eq, fNat_eq, fNats_eq, fAVF_eq, fAV_eq, ilt_nat, ieq_nat, ieq_self, Bool.and_self, blt_true, blt_false, ble_true, ble_false, AM.beq_true, AM.beq_false, brec_true, brec_false, boolK_true, boolK_false, natOf_of, Option.map_some, optK_some, eStr_str, eInt_int, nthK_eq, segK_eq, appK_eq, set1K_eq, strs_len, strs_get, ints_len, ints_get, wrap_nat, wrap_add, wrap_sub, Nat.add_eq, Nat.mul_eq, Nat.sub_eq, Nat.mul_one, Nat.zero_add, Nat.add_zero, Nat.sub_zero, Bool.not_true, Bool.not_false, if_pos, ilt_true, ilt_false, ieq_true, ieq_false]
      try exact rfl)
    first
    | exact fin e (decide_eq_true (by omega))
    | exact fin e (decide_eq_false (by omega))

noncomputable def blA : List AV → Bool
  | [.agg [.int .i64 a, .int .i64 b], .agg [.int .i64 c, .int .i64 d]] => bless a b c d
  | _ => false

theorem blA_eq (a b c d : Int) : blA [.agg [.int .i64 a, .int .i64 b], .agg [.int .i64 c, .int .i64 d]] = bless a b c d := rfl

def okLL (args : List AV) : Prop := ∃ a b c d : Int, args = [.agg [.int .i64 a, .int .i64 b], .agg [.int .i64 c, .int .i64 d]]

noncomputable def orcLL : Orc := fun args A k _ => guardK (okLL args) (k (.bool (blA args)) A) (.err 86 0 0)

theorem good_LL : Good Try.prog 8 orcLL := good_pure fun args A k els h => by
  unfold orcLL guardK at h
  split at h
  · rename_i hc
    obtain ⟨a, b, c, d, rfl⟩ := hc
    exact ⟨_, h, (less8 a b c d).every (fun _ => rfl) (fun _ => rfl) A⟩
  · cases h

noncomputable def c2 : Code := subC [1,1,1,1,1,1,1,0,1,1,1,1,0,1,1,0,1] (bodyC Try.f3)

noncomputable def tmF (x : LS) (F : List AV) (n : Nat) (N : List AV) (m : Nat) : List (Nat × AV) := tmL x ++ [(14, .fz F n), (15, .fz N m), (16, .int .i64 (.ofNat 0))]

theorem fa0 (b : BS) (s : PS) (x : LS) (N : List AV) (m : Nat) (k : AExit → List AV → H → Ans) :
    execH Try.prog (mkO [(8, orcErr)]) [] 1000 fx3 c2 (mkTm (tmF x [] 0 N m)) (mkH (hL b s x)) [] (pickK [1, 2, 5, 6, 8, 9, 10, 11, 12, 13, 15] [] [] k)
    = k AExit.normal [AV.fz (flat actC x.l) (List.length x.l), AV.ptr (.ofNat 0) 0, AV.bool true, AV.ptr (.ofNat 1) 0, AV.ptr (.ofNat 2) 0, AV.fz (u8s x.value) (List.length x.value), AV.fz (u8s x.last) (List.length x.last), AV.bool x.asked, AV.bool x.over, AV.int .i64 (Int.ofNat x.i), AV.fz N m] (mkH (hL b s x)) := by kernel_rfl

theorem fa1 (b : BS) (s : PS) (x : LS) (d : List Nat) (N : List AV) (m : Nat) (k : AExit → List AV → H → Ans) :
    execH Try.prog (mkO [(8, orcErr)]) [] 1000 fx3 c2 (mkTm (tmF x (factC 9 s.set 0 0 d) 1 N m)) (mkH (hL b s x)) [] (pickK [1, 2, 5, 6, 8, 9, 10, 11, 12, 13, 15] [] [] k)
    = k AExit.normal [AV.fz (flat actC x.l) (List.length x.l), AV.ptr (.ofNat 0) 0, AV.bool true, AV.ptr (.ofNat 1) 0, AV.ptr (.ofNat 2) 0, AV.fz (u8s x.value) (List.length x.value), AV.fz (u8s x.last) (List.length x.last), AV.bool x.asked, AV.bool x.over, AV.int .i64 (Int.ofNat x.i), AV.fz N m] (mkH (hL b s x)) := by kernel_rfl

theorem fa2 (b : BS) (s : PS) (x : LS) (e1 e2 : Int) (d : List Nat) (N : List AV) (m : Nat) (k : AExit → List AV → H → Ans) :
    execH Try.prog (mkO [(8, orcErr)]) [] 1000 fx3 c2 (mkTm (tmF x (factC 8 s.set e1 e2 d) 1 N m)) (mkH (hL b s x)) [] (pickK [1, 2, 5, 6, 8, 9, 10, 11, 12, 13, 15] [] [] k)
    = k AExit.normal [AV.fz (flat actC x.l) (List.length x.l), AV.ptr (.ofNat 0) 0, AV.bool true, AV.ptr (.ofNat 1) 0, AV.ptr (.ofNat 2) 0, AV.fz (u8s x.value) (List.length x.value), AV.fz (u8s x.last) (List.length x.last), AV.bool x.asked, AV.bool x.over, AV.int .i64 (Int.ofNat x.i), AV.fz N m] (mkH (hL b s x)) := by kernel_rfl

theorem fa3 (b : BS) (s : PS) (x : LS) (e1 e2 : Int) (N : List AV) (m : Nat) (k : AExit → List AV → H → Ans) :
    execH Try.prog (mkO [(8, orcLL)]) [] 1000 fx3 c2 (mkTm (tmF x (factP s.set e1 e2) 1 N m)) (mkH (hL b s x)) [] (pickK [1, 2, 5, 6, 8, 9, 10, 11, 12, 13, 15] [] [] k)
    = guardK (okLL ([] ++ ([AV.agg [AV.int .i64 x.a1, AV.int .i64 x.a2], AV.agg [AV.int .i64 e1, AV.int .i64 e2]] ++ []))) (brec (k AExit.ret [] (mkH (hL b s x))) (fInt e2 fun n => fInt n fun n => fInt b.me fun n_1 => fInt n_1 fun n_2 => brec (fInt (Int.ofNat x.i) fun n => natOf n (fun m_1 => boolK (Nat.blt m_1 (List.length x.l)) (segK (Nat.add (Nat.add (Nat.mul m_1 57) 50) 1) (flat actC x.l) 2 (fun l => fList l fun l => fList l fun l => guardK (okLL ([] ++ ([AV.agg l, AV.agg [AV.int .i64 e1, AV.int .i64 e2]] ++ []))) (brec (k AExit.ret [] (mkH (hL b s x))) (k AExit.normal [AV.fz (flat actC x.l) (List.length x.l), AV.ptr (.ofNat 0) 0, AV.bool true, AV.ptr (.ofNat 1) 0, AV.ptr (.ofNat 2) 0, AV.fz (u8s x.value) (List.length x.value), AV.fz (u8s x.last) (List.length x.last), AV.bool false, AV.bool x.over, AV.int .i64 (Int.ofNat x.i), AV.fz N m] (mkH [some (HObj.cells (beginC b) 8 false), some (propO s), some (HObj.cells [AV.int .i64 e1, AV.int .i64 e2] 2 false)])) (blA [AV.agg l, AV.agg [AV.int .i64 e1, AV.int .i64 e2]])) (Ans.err 86 0 0)) (Ans.err 3 25 3010)) (Ans.err 3 22 3027)) (Ans.err 3 22 3027)) (k AExit.ret [] (mkH (hL b s x))) !ieq n n_2) (blA [AV.agg [AV.int .i64 x.a1, AV.int .i64 x.a2], AV.agg [AV.int .i64 e1, AV.int .i64 e2]])) (Ans.err 86 0 0) := by kernel_rfl

theorem actC_len (a : AS) : (actC a).length = 57 := by kernel_rfl

theorem seg_prom {l : List AS} {i : Nat} {a : AS} (h : l[i]? = some a) (F : List AV → Ans) (e : Ans) : segK (Nat.add (Nat.add (Nat.mul i 57) 50) 1) (flat actC l) 2 F e = F [.int .i64 a.v.p1, .int .i64 a.v.p2] := by
  have hi := (List.getElem?_eq_some_iff.1 h).1
  have hl := flat_length actC_len l
  have h1 : i * 57 + 51 + 2 ≤ (flat actC l).length := by rw [hl]; omega
  have hp := flat_part actC_len h (j := 51) (n := 2) (by decide)
  have hr : ((actC a).drop 51).take 2 = [.int .i64 a.v.p1, .int .i64 a.v.p2] := by kernel_rfl
  rw [segK_eq, show Nat.add (Nat.add (Nat.mul i 57) 50) 1 = i * 57 + 51 from rfl, if_pos h1, hp, hr]

noncomputable def f2 (x : LS) (N : List AV) (m : Nat) : List AV := e4 x ++ [.fz N m]

theorem facts_prom {b : BS} {s : PS} {x : LS} {a : AS} {e1 e2 : Int} {N : List AV} {m : Nat} (h : x.l[x.i]? = some a) (h1 : bless x.a1 x.a2 e1 e2 = true) (h2 : e2 = b.me) (h3 : bless a.v.p1 a.v.p2 e1 e2 = true) :
    CodeOK Try.prog fx3 c2 (mkTm (tmF x (factP s.set e1 e2) 1 N m)) (mkH (hL b s x)) [] .normal (mkTm ([1, 2, 5, 6, 8, 9, 10, 11, 12, 13, 15].zip (f2 { x with a1 := e1, a2 := e2, asked := false } N m))) (mkH (hL b s { x with a1 := e1, a2 := e2, asked := false })) [] := by
  have c1 : ieq e2 b.me = true := ieq_true h2
  have c2 : Nat.blt x.i x.l.length = true := blt_true (List.getElem?_eq_some_iff.1 h).1
  exact CodeOK.of_pick hmix (OrOK.cons good_LL .nil) .nil (N := 1000) [1, 2, 5, 6, 8, 9, 10, 11, 12, 13, 15] [] [] fun k => (fa3 b s x e1 e2 N m k).trans (by
    refine (guardK_pos ⟨_, _, _, _, rfl⟩ _ _).trans ?_
    simp only [fInt_eq, natOf_of, blA_eq, h1, c1, c2, boolK_true, brec_true, brec_false, Bool.not_true, seg_prom h, fList_eq]
    refine (guardK_pos ⟨_, _, _, _, rfl⟩ _ _).trans ?_
    simp only [blA_eq, h3, brec_true]
    try exact rfl)

theorem facts_none {b : BS} {s : PS} {x : LS} {N : List AV} {m : Nat} :
    CodeOK Try.prog fx3 c2 (mkTm (tmF x [] 0 N m)) (mkH (hL b s x)) [] .normal (mkTm ([1, 2, 5, 6, 8, 9, 10, 11, 12, 13, 15].zip (f2 x N m))) (mkH (hL b s x)) [] :=
  CodeOK.of_pick hmix (OrOK.cons good_err .nil) .nil (N := 1000) [1, 2, 5, 6, 8, 9, 10, 11, 12, 13, 15] [] [] fun k => (fa0 b s x N m k).trans rfl

theorem facts_dec {b : BS} {s : PS} {x : LS} {d : List Nat} {N : List AV} {m : Nat} :
    CodeOK Try.prog fx3 c2 (mkTm (tmF x (factC 9 s.set 0 0 d) 1 N m)) (mkH (hL b s x)) [] .normal (mkTm ([1, 2, 5, 6, 8, 9, 10, 11, 12, 13, 15].zip (f2 x N m))) (mkH (hL b s x)) [] :=
  CodeOK.of_pick hmix (OrOK.cons good_err .nil) .nil (N := 1000) [1, 2, 5, 6, 8, 9, 10, 11, 12, 13, 15] [] [] fun k => (fa1 b s x d N m k).trans rfl

theorem facts_acc {b : BS} {s : PS} {x : LS} {e1 e2 : Int} {d : List Nat} {N : List AV} {m : Nat} :
    CodeOK Try.prog fx3 c2 (mkTm (tmF x (factC 8 s.set e1 e2 d) 1 N m)) (mkH (hL b s x)) [] .normal (mkTm ([1, 2, 5, 6, 8, 9, 10, 11, 12, 13, 15].zip (f2 x N m))) (mkH (hL b s x)) [] :=
  CodeOK.of_pick hmix (OrOK.cons good_err .nil) .nil (N := 1000) [1, 2, 5, 6, 8, 9, 10, 11, 12, 13, 15] [] [] fun k => (fa2 b s x e1 e2 d N m k).trans rfl

end Pro
