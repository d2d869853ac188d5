import Derived.Test.YtcjilddpkekcgaaBag9
import Derived.Test.YtcjilddpkekcgaaAmTro
import Derived.KernelRfl
set_option maxHeartbeats 0
set_option maxRecDepth 1000000
set_option linter.unusedSimpArgs false
set_option linter.unusedVariables false
open Go Go.AM Go.Proofs
namespace Pro

theorem tickC (s : PS) (v : VS) (lo : HObj) (k : AV → H → Ans) :
    bodyF Try.prog (execH Try.prog (mkO [(33, orcErr), (40, orcErr), (41, orcErr), (29, orcErr)]) [] 1000) (Pos.ofNat 22) [] [] [.ptr (.ofNat 0) 0, .ptr (.ofNat 1) 0, .agg (voteC v)] (mkH [some (propO s), some lo]) k
    = fInt (Int.ofNat s.nodes) fun n => brec (fInt s.phase fun n => brec (brec (brec (k (AV.tup [AV.nils, AV.nils]) (mkH [some (propO s), some lo, some (HObj.cells (voteC v) 6 false)])) (fInt s.wait fun n => brec (fInt s.wait fun n => fInt (wrapK .i64 (Int.sub n (Int.ofNat 1))) fun n => fInt n fun n_1 => brec (k (AV.tup [AV.nils, AV.nils]) (mkH [some (HObj.cells (AV.int .i64 s.set :: AV.int .i64 (Int.ofNat s.me) :: AV.int .i64 (Int.ofNat s.nodes) :: AV.int .i64 s.c1 :: AV.int .i64 s.c2 :: AV.int .i64 s.c3 :: AV.fz (u8s s.own) (List.length s.own) :: AV.int .i64 s.retry :: AV.int .i64 s.phase :: AV.int .i64 s.b1 :: AV.int .i64 s.b2 :: AV.int .i64 s.s1 :: AV.int .i64 s.s2 :: AV.int .i64 s.e1 :: AV.int .i64 s.e2 :: yl s.ys 65 0 [AV.fz (u8s s.told) (List.length s.told), AV.fz (u8s s.value) (List.length s.value), AV.int .i64 s.ticks, AV.int .i64 n]) 84 false), some lo, some (HObj.cells (voteC v) 6 false)])) (Ans.err 77 0 0) (ieq n_1 (Int.ofNat 0))) (k (AV.tup [AV.nils, AV.nils]) (mkH [some (propO s), some lo, some (HObj.cells (voteC v) 6 false)])) (ieq n (Int.ofNat 0))) (ieq n (Int.ofNat 4))) (fInt s.ticks fun n => fInt (wrapK .i64 (Int.add n (Int.ofNat 1))) fun n => fInt n fun n_1 => fInt n_1 fun n_2 => fInt s.retry fun n_3 => fInt n_3 fun n_4 => brec (Ans.err 77 0 0) (k (AV.tup [AV.nils, AV.nils]) (mkH [some (HObj.cells (AV.int .i64 s.set :: AV.int .i64 (Int.ofNat s.me) :: AV.int .i64 (Int.ofNat s.nodes) :: AV.int .i64 s.c1 :: AV.int .i64 s.c2 :: AV.int .i64 s.c3 :: AV.fz (u8s s.own) (List.length s.own) :: AV.int .i64 s.retry :: AV.int .i64 s.phase :: AV.int .i64 s.b1 :: AV.int .i64 s.b2 :: AV.int .i64 s.s1 :: AV.int .i64 s.s2 :: AV.int .i64 s.e1 :: AV.int .i64 s.e2 :: yl s.ys 65 0 [AV.fz (u8s s.told) (List.length s.told), AV.fz (u8s s.value) (List.length s.value), AV.int .i64 n, AV.int .i64 s.wait]) 84 false), some lo, some (HObj.cells (voteC v) 6 false)])) (ilt n_2 n_4)) (ieq n (Int.ofNat 2))) (fInt s.ticks fun n => fInt (wrapK .i64 (Int.add n (Int.ofNat 1))) fun n => fInt n fun n_1 => fInt n_1 fun n_2 => fInt s.retry fun n_3 => fInt n_3 fun n_4 => brec (Ans.err 77 0 0) (k (AV.tup [AV.nils, AV.nils]) (mkH [some (HObj.cells (AV.int .i64 s.set :: AV.int .i64 (Int.ofNat s.me) :: AV.int .i64 (Int.ofNat s.nodes) :: AV.int .i64 s.c1 :: AV.int .i64 s.c2 :: AV.int .i64 s.c3 :: AV.fz (u8s s.own) (List.length s.own) :: AV.int .i64 s.retry :: AV.int .i64 s.phase :: AV.int .i64 s.b1 :: AV.int .i64 s.b2 :: AV.int .i64 s.s1 :: AV.int .i64 s.s2 :: AV.int .i64 s.e1 :: AV.int .i64 s.e2 :: yl s.ys 65 0 [AV.fz (u8s s.told) (List.length s.told), AV.fz (u8s s.value) (List.length s.value), AV.int .i64 n, AV.int .i64 s.wait]) 84 false), some lo, some (HObj.cells (voteC v) 6 false)])) (ilt n_2 n_4)) (ieq n (Int.ofNat 1))) (k (AV.tup [AV.nils, AV.nils]) (mkH [some (propO s), some lo, some (HObj.cells (voteC v) 6 false)])) (ieq n (Int.ofNat 0)) := by kernel_rfl

/-- What holds of a proposer that is alone. -/
structure Al (s : PS) : Prop where
  n : s.nodes = 1
  m : s.me = 1
  own : okb s.own
  told : okb s.told
  value : okb s.value
  ph : s.phase = 0 ∨ s.phase = 3 ∨ (s.phase = 4 ∧ s.wait = 0)

/-- What a call of its comes to. -/
inductive OutA (s : PS) (v : VS) : PS → List AV → Nat → Prop
  | quiet : OutA s v s [] 0
  | fail : s.phase = 0 → OutA s v { s with phase := 4, wait := 0 } [] 0
  | all {s' : PS} : s.phase = 0 → s'.phase = 3 → bless s.b1 s.b2 s'.b1 s'.b2 = true → s'.b2 = (s'.me : Int) → bless v.p1 v.p2 s'.b1 s'.b2 = true → OutA s v s' (factA s'.set s'.b1 s'.b2 s'.value) 3

def ActA (f : Nat) (args : List AV) (s : PS) (v : VS) : Prop :=
  ∃ (s' : PS) (F : List AV) (n : Nat), Al s' ∧ Par s s' ∧ OutA s v s' F n ∧ FunOK Try.prog f args (mkH [some (propO s)]) (.tup [.fz F n, .fz [] 0]) (mkH [some (propO s')])

theorem round_al {s : PS} {v : VS} (h : Al s) (hd : okb v.data) (hp : s.phase = 0) : ActA 29 [.ptr (.ofNat 0) 0, .agg (voteC v)] s v := by
  by_cases hE : nxE (mxB s v).1 (mxB s v).2 s.me = 0
  · obtain ⟨e1, e2, e3, e4⟩ := nxt_ok hE
    have e2' : bless (mxB s v).1 (mxB s v).2 (rouS s v).b1 (rouS s v).b2 = true := by
      show bless _ _ (nxN _ _ _) (nxM _ _ _) = true
      rw [e1]; exact e2
    obtain ⟨g1, g2⟩ := bmx_less (a := bmx (bmx (0, 0) (s.s1, s.s2)) (s.b1, s.b2)) (b := (v.p1, v.p2)) (z := ((rouS s v).b1, (rouS s v).b2)) e2'
    obtain ⟨g3, g4⟩ := bmx_less (a := bmx (0, 0) (s.s1, s.s2)) (b := (s.b1, s.b2)) (z := ((rouS s v).b1, (rouS s v).b2)) g1
    have hval : okb (aloS s v).value := by
      show okb (valS (rouS s v))
      unfold valS
      split
      · exact hd
      · exact h.own
    exact ⟨aloS s v, _, 3, ⟨h.n, h.m, h.own, hd, hval, .inr (.inl rfl)⟩, ⟨rfl, rfl, rfl, rfl, rfl, rfl, rfl, rfl⟩, .all (s' := aloS s v) hp rfl g4 e1 g2, (round_alone h.n h.m h.own.1 hd.1 hE).wk (Wk.tup (.cons (.refl _) (.cons .nils .nil))) (.refl _)⟩
  · exact ⟨{ s with phase := 4, wait := 0 }, _, 0, ⟨h.n, h.m, h.own, h.told, h.value, .inr (.inr ⟨rfl, rfl⟩)⟩, ⟨rfl, rfl, rfl, rfl, rfl, rfl, rfl, rfl⟩, .fail hp, round_none hE⟩

theorem start_al {s : PS} {v : VS} (h : Al s) (hd : okb v.data) :
    ∃ (s' : PS) (F : List AV) (n : Nat) (er : Int), Al s' ∧ Par s s' ∧ OutA s v s' F n ∧ FunOK Try.prog 18 [.ptr (.ofNat 0) 0, .agg (voteC v)] (mkH [some (propO s)]) (.tup [.fz F n, .fz [] 0, .int .i64 er]) (mkH [some (propO s')]) := by
  have c0 : ieq (Int.ofNat s.nodes) (Int.ofNat 0) = false := ieq_false (by have := h.n; show ¬ ((s.nodes : Int) = 0); omega)
  by_cases hp : s.phase = 0
  · have c1 : ieq s.phase (Int.ofNat 0) = true := ieq_true hp
    obtain ⟨s', F, n, i, p, o, R⟩ := round_al (v := v) h hd hp
    refine ⟨s', F, n, 0, i, p, o, ?_⟩
    have g := good_obj (p := 0) (args' := [.ptr (.ofNat 0) 0, .agg (voteC v)]) R (fun σ => prop_ren σ _) (fun σ => prop_ren σ _) (fun _ => rfl) (fun σ hσ => by show [AV.ptr (σ Pos.z) 0, AV.agg (voteC v)] = _; rw [hσ])
    have R2 := FunOK.of_runH (v := .tup [.fz F n, .fz [] 0, .int .i64 0]) (A' := mkH [some (propO s'), some (.cells (voteC v) 6 false)]) hmix (OrOK.cons g .nil) .nil (N := 1000) (f := 18) fun k => (staT s s' v _ _ k).trans (by
      simp only [fInt_eq, c0, c1, brec_true, brec_false, Bool.not_true, Bool.not_false, fAVF_fz]
      refine (guardK_pos (by repeat' first | trivial | rfl | constructor) _ _).trans ?_
      try exact rfl)
    exact R2.drop1 (fun σ => prop_ren σ _) (fun _ => rfl)
  · have c1 : ieq s.phase (Int.ofNat 0) = false := ieq_false hp
    refine ⟨s, [], 0, 9, h, .refl s, .quiet, ?_⟩
    have R2 := FunOK.of_runH (v := .tup [.nils, .nils, .int .i64 9]) (A' := mkH [some (propO s), some (.cells (voteC v) 6 false)]) hmix (OrOK.cons good_err .nil) .nil (N := 1000) (f := 18) fun k => (staE s v k).trans (by
      simp only [fInt_eq, c0, c1, brec_true, brec_false, Bool.not_true, Bool.not_false]
      try exact rfl)
    exact (R2.drop1 (fun σ => prop_ren σ _) (fun _ => rfl)).wk (Wk.tup (.cons .nils (.cons .nils (.cons (.refl _) .nil)))) (.refl _)

theorem take_al {s : PS} {x : NS} {v : VS} (h : Al s) : FunOK Try.prog 19 [.ptr (.ofNat 0) 0, .agg (noteX x), .agg (voteC v)] (mkH [some (propO s)]) (.tup [.fz [] 0, .fz [] 0]) (mkH [some (propO s)]) := by
  have h0 : s.nodes ≠ 0 := by have := h.n; omega
  have he : earlyB s x = true := by
    unfold earlyB
    refine decide_eq_true ?_
    have := h.n
    have := h.m
    omega
  have hc := early_ok s x v h0
  rw [he] at hc
  have R := FunOK.of_runH (v := .tup [.nils, .nils]) (A' := mkH [some (propO s), some (.cells (noteX x) 48 false), some (.cells (voteC v) 6 false)]) hmix (OrOK.cons good_err (OrOK.cons good_err (OrOK.cons good_err (OrOK.cons good_err (OrOK.cons good_err (OrOK.cons good_err .nil)))))) (HolesOK.cons (exSub_ok hc) (HolesOK.cons exErr_ok (HolesOK.cons exErr_ok (HolesOK.cons exErr_ok (HolesOK.cons exErr_ok (HolesOK.cons exErr_ok .nil)))))) (N := 1000) (f := 19) fun k => (takE s x v true k).trans (by
    refine (guardK_pos (by exact ⟨rfl, rfl, Sub0.of_list (by repeat first | exact .nil | refine .cons (by kernel_rfl) ?_), rfl, rfl⟩) _ _).trans ?_
    try exact rfl)
  exact (R.drop1 (fun σ => prop_ren σ _) (fun _ => rfl)).wk (Wk.tup (.cons .nils (.cons .nils .nil))) (.refl _)

theorem tick_al {s : PS} {v : VS} {lo : HObj} (h : Al s) (hl : ∀ σ, lo.ren σ = lo) : FunOK Try.prog 22 [.ptr (.ofNat 0) 0, .ptr (.ofNat 1) 0, .agg (voteC v)] (mkH [some (propO s), some lo]) (.tup [.fz [] 0, .fz [] 0]) (mkH [some (propO s), some lo]) := by
  have c0 : ieq (Int.ofNat s.nodes) (Int.ofNat 0) = false := ieq_false (by have := h.n; show ¬ ((s.nodes : Int) = 0); omega)
  have c1 : ieq s.phase (Int.ofNat 1) = false := ieq_false (by have := h.ph; show ¬ s.phase = 1; omega)
  have c2 : ieq s.phase (Int.ofNat 2) = false := ieq_false (by have := h.ph; show ¬ s.phase = 2; omega)
  have R : FunOK Try.prog 22 [.ptr (.ofNat 0) 0, .ptr (.ofNat 1) 0, .agg (voteC v)] (mkH [some (propO s), some lo]) (.tup [.nils, .nils]) (mkH [some (propO s), some lo, some (.cells (voteC v) 6 false)]) := FunOK.of_runH hmix (OrOK.cons good_err (OrOK.cons good_err (OrOK.cons good_err (OrOK.cons good_err .nil)))) .nil (N := 1000) (f := 22) fun k => (tickC s v lo k).trans (by
    by_cases h4 : s.phase = 4
    · have c4 : ieq s.phase (Int.ofNat 4) = true := ieq_true h4
      have c5 : ieq s.wait (Int.ofNat 0) = true := ieq_true (by have := h.ph; show s.wait = 0; omega)
      simp only [fInt_eq, c0, c1, c2, c4, c5, brec_true, brec_false, Bool.not_true, Bool.not_false]
      try exact rfl
    · have c4 : ieq s.phase (Int.ofNat 4) = false := ieq_false h4
      simp only [fInt_eq, c0, c1, c2, c4, brec_true, brec_false, Bool.not_true, Bool.not_false]
      try exact rfl)
  exact (drop2 R (fun σ => prop_ren σ _) hl (fun _ => rfl)).wk (Wk.tup (.cons .nils (.cons .nils .nil))) (.refl _)

theorem take7_al {s : PS} {a : AS} {b : BS} (h : Al s) :
    ∃ G : HL, CodeOK Try.prog fx7 r7 (mkTm [(0, .ptr (.ofNat 0) 0), (4, .ptr (.ofNat 1) 0), (5, .ptr (.ofNat 2) 0)]) (mkH (L7 s a b)) [] .normal (mkTm ([6, 7].zip [.fz [] 0, .fz [] 0])) (mkH (some (propO s) :: G)) [] :=
  take7_okG (by have := h.n; omega) (take_al h)

theorem act_al {s : PS} {a : AS} {b : BS} (h : Al s) (hv : okb a.v.data) (hl : a.lots.length ≤ 20) : ActA 7 [.ptr (.ofNat 0) 0, .agg (actC a), .agg (beginC b)] s a.v := by
  have quiet : ∀ {G : HL}, FunOK Try.prog 7 [.ptr (.ofNat 0) 0, .agg (actC a), .agg (beginC b)] (mkH [some (propO s)]) (.tup [.nils, .nils]) (mkH (some (propO s) :: G)) → ActA 7 [.ptr (.ofNat 0) 0, .agg (actC a), .agg (beginC b)] s a.v := fun {G} R =>
    ⟨s, [], 0, h, .refl s, .quiet, (R.drop1 (fun σ => prop_ren σ _) (fun _ => rfl)).wk (Wk.tup (.cons .nils (.cons .nils .nil))) (.refl _)⟩
  by_cases h0 : a.kind = 0
  · have c0 : ieq a.kind (Int.ofNat 0) = true := ieq_true h0
    obtain ⟨s', F, n, er, i, p, o, R⟩ := start_al (v := a.v) h hv
    refine ⟨s', F, n, i, p, o, ?_⟩
    have g := good_obj (p := 0) (args' := [.ptr (.ofNat 0) 0, .agg (voteC a.v)]) R (fun σ => prop_ren σ _) (fun σ => prop_ren σ _) (fun _ => rfl) (fun σ hσ => by show [AV.ptr (σ Pos.z) 0, AV.agg (voteC a.v)] = _; rw [hσ])
    have R2 := FunOK.of_runH (v := .tup [.fz F n, .fz [] 0]) (A' := mkH (some (propO s') :: _)) hmix (OrOK.cons g (OrOK.cons good_err (OrOK.cons good_err (OrOK.cons good_err .nil)))) (HolesOK.one exErr_ok) (N := 1000) (f := 7) fun k => (actA s s' a b _ _ er k).trans (by
      simp only [fInt_eq, c0, brec_true, brec_false]
      refine (guardK_pos (by exact ⟨rfl, trivial⟩) _ _).trans ?_
      simp only [fAVF_fz, fInt_eq]
      try exact rfl)
    exact R2.drop1 (fun σ => prop_ren σ _) (fun _ => rfl)
  have c0 : ieq a.kind (Int.ofNat 0) = false := ieq_false h0
  by_cases h12 : a.kind = 1 ∨ a.kind = 2
  · obtain ⟨G, hG⟩ := take7_al (a := a) (b := b) h
    refine ⟨s, [], 0, h, .refl s, .quiet, ?_⟩
    have R2 := FunOK.of_runH (v := .tup [.fz [] 0, .fz [] 0]) hmix (OrOK.cons good_err (OrOK.cons good_err (OrOK.cons good_err (OrOK.cons good_err .nil)))) (HolesOK.one (exSub_ok hG)) (N := 1000) (f := 7) fun k => (actR s a b [] 0 [] 0 (mkH (some (propO s) :: G)) k).trans (by
      rcases h12 with h1 | h1
      · have c1 : ieq a.kind (Int.ofNat 1) = true := ieq_true h1
        simp only [fInt_eq, c0, c1, brec_true, brec_false]
        refine (guardK_pos (by repeat' first | trivial | rfl | exact LTm.nil | refine LTm.cons (by kernel_rfl) ?_ | refine Sub0.of_list ?_ | constructor) _ _).trans ?_
        try simp only [fAVF_fz]
        try exact rfl
      · have c1 : ieq a.kind (Int.ofNat 1) = false := ieq_false (by show ¬ a.kind = 1; omega)
        have c2 : ieq a.kind (Int.ofNat 2) = true := ieq_true h1
        simp only [fInt_eq, c0, c1, c2, brec_true, brec_false]
        refine (guardK_pos (by repeat' first | trivial | rfl | exact LTm.nil | refine LTm.cons (by kernel_rfl) ?_ | refine Sub0.of_list ?_ | constructor) _ _).trans ?_
        try simp only [fAVF_fz]
        try exact rfl)
    exact R2.drop1 (fun σ => prop_ren σ _) (fun _ => rfl)
  have c1 : ieq a.kind (Int.ofNat 1) = false := ieq_false (by show ¬ a.kind = 1; omega)
  have c2 : ieq a.kind (Int.ofNat 2) = false := ieq_false (by show ¬ a.kind = 2; omega)
  by_cases h3 : a.kind = 3
  · have c3 : ieq a.kind (Int.ofNat 3) = true := ieq_true h3
    rcases new_lot a.lots hl with hN | hN
    · have lN : LocFun Try.prog 21 [.fz (ints a.lots) a.lots.length] 3 [] (.tup [.nilp, .int .i64 (.ofNat 2)]) [] [] := LocFun.of hN [] rfl .nil (fun i hi => by cases hi) (Nat.le_refl _) trivial rfl rfl rfl rfl rfl
      refine quiet (G := [some (.cells (actC a) 57 false), some (.cells (beginC b) 8 false)]) (FunOK.of_runH hmix (OrOK.cons good_err (OrOK.cons good_err (OrOK.cons lN.good (OrOK.cons good_err .nil)))) (HolesOK.one exErr_ok) (N := 1000) (f := 7) fun k => (actN s a b k).trans ?_)
      simp only [fInt_eq, c0, c1, c2, c3, brec_true, brec_false]
      refine (guardK_pos (by repeat' first | trivial | rfl | constructor) _ _).trans ?_
      try exact rfl
    · have R := tick_al (v := a.v) (lo := lotZ a.lots a.lots.length 0) h (lot_still _ _ _).ren
      have lN : LocFun Try.prog 21 [.fz (ints a.lots) a.lots.length] 3 [] (.tup [.ptr (.ofNat 3) 0, .int .i64 (.ofNat 0)]) [] [some (lotZ a.lots a.lots.length 0)] := LocFun.of hN [] rfl .nil (fun i hi => by cases hi) (Nat.zero_le _) ⟨rfl, trivial⟩ rfl rfl rfl rfl (by
        show [some ((lotZ a.lots a.lots.length 0).ren _)] = _
        rw [(lot_still _ _ _).ren])
      have lT : LocFun Try.prog 22 [.ptr (.ofNat 0) 0, .ptr (.ofNat 3) 0, .agg (voteC a.v)] 4 [(0, propO s), (3, lotZ a.lots a.lots.length 0)] (.tup [.fz [] 0, .fz [] 0]) [(0, some (propO s)), (3, some (lotZ a.lots a.lots.length 0))] [] := LocFun.of R [0, 3] rfl (by show [0, 3].Nodup; decide) (by show ∀ i ∈ [0, 3], i < 4; decide) (Nat.le_refl _) trivial rfl rfl (by
        simp only [preL, prop_ren, (lot_still _ _ _).ren]) (by simp only [postL, Option.map_some, prop_ren, (lot_still _ _ _).ren]) rfl
      refine ⟨s, [], 0, h, .refl s, .quiet, ?_⟩
      have R2 := FunOK.of_runH (v := .tup [.fz [] 0, .fz [] 0]) (A' := mkH (some (propO s) :: _)) hmix (OrOK.cons good_err (OrOK.cons good_err (OrOK.cons lN.good (OrOK.cons lT.good .nil)))) (HolesOK.one exErr_ok) (N := 1000) (f := 7) fun k => (actT s s a b _ _ _ _ k).trans (by
        simp only [fInt_eq, c0, c1, c2, c3, brec_true, brec_false]
        refine (guardK_pos (by repeat' first | trivial | rfl | constructor) _ _).trans ?_
        refine (guardK_pos (by repeat' first | trivial | rfl | constructor) _ _).trans ?_
        simp only [fAVF_fz]
        try exact rfl)
      exact R2.drop1 (fun σ => prop_ren σ _) (fun _ => rfl)
  have c3 : ieq a.kind (Int.ofNat 3) = false := ieq_false h3
  refine quiet (G := [some (.cells (actC a) 57 false), some (.cells (beginC b) 8 false)]) (FunOK.of_runH hmix (OrOK.cons good_err (OrOK.cons good_err (OrOK.cons good_err (OrOK.cons good_err .nil)))) (HolesOK.one exErr_ok) (N := 1000) (f := 7) fun k => (actO s a b k).trans ?_)
  simp only [fInt_eq, c0, c1, c2, c3, brec_true, brec_false]
  try exact rfl

theorem fa4 (b : BS) (s : PS) (x : LS) (e1 e2 : Int) (d : List Nat) (N : List AV) (m : Nat) (k : AExit → List AV → H → Ans) :
    execH Try.prog (mkO [(8, orcLL)]) [] 1000 fx3 c2 (mkTm (tmF x (factA s.set e1 e2 d) 3 N m)) (mkH (hL b s x)) [] (pickK [1, 2, 5, 6, 8, 9, 10, 11, 12, 13, 15] [] [] k)
    = guardK (okLL ([] ++ ([AV.agg [AV.int .i64 x.a1, AV.int .i64 x.a2], AV.agg [AV.int .i64 e1, AV.int .i64 e2]] ++ []))) (brec (k AExit.ret [] (mkH (hL b s x))) (fInt e2 fun n => fInt n fun n => fInt b.me fun n_1 => fInt n_1 fun n_2 => brec (fInt (Int.ofNat x.i) fun n => natOf n (fun m_1 => boolK (Nat.blt m_1 (List.length x.l)) (segK (Nat.add (Nat.add (Nat.mul m_1 57) 50) 1) (flat actC x.l) 2 (fun l => fList l fun l => fList l fun l => guardK (okLL ([] ++ ([AV.agg l, AV.agg [AV.int .i64 e1, AV.int .i64 e2]] ++ []))) (brec (k AExit.ret [] (mkH (hL b s x))) (k AExit.normal [AV.fz (flat actC x.l) (List.length x.l), AV.ptr (.ofNat 0) 0, AV.bool true, AV.ptr (.ofNat 1) 0, AV.ptr (.ofNat 2) 0, AV.fz (u8s x.value) (List.length x.value), AV.fz (u8s x.last) (List.length x.last), AV.bool false, AV.bool x.over, AV.int .i64 (Int.ofNat x.i), AV.fz N m] (mkH [some (HObj.cells (beginC b) 8 false), some (propO s), some (HObj.cells [AV.int .i64 e1, AV.int .i64 e2] 2 false)])) (blA [AV.agg l, AV.agg [AV.int .i64 e1, AV.int .i64 e2]])) (Ans.err 86 0 0)) (Ans.err 3 25 3010)) (Ans.err 3 22 3027)) (Ans.err 3 22 3027)) (k AExit.ret [] (mkH (hL b s x))) !ieq n n_2) (blA [AV.agg [AV.int .i64 x.a1, AV.int .i64 x.a2], AV.agg [AV.int .i64 e1, AV.int .i64 e2]])) (Ans.err 86 0 0) := by kernel_rfl

theorem facts_three {b : BS} {s : PS} {x : LS} {a : AS} {e1 e2 : Int} {d : List Nat} {N : List AV} {m : Nat} (h : x.l[x.i]? = some a) (h1 : bless x.a1 x.a2 e1 e2 = true) (h2 : e2 = b.me) (h3 : bless a.v.p1 a.v.p2 e1 e2 = true) :
    CodeOK Try.prog fx3 c2 (mkTm (tmF x (factA s.set e1 e2 d) 3 N m)) (mkH (hL b s x)) [] .normal (mkTm ([1, 2, 5, 6, 8, 9, 10, 11, 12, 13, 15].zip (f2 { x with a1 := e1, a2 := e2, asked := false } N m))) (mkH (hL b s { x with a1 := e1, a2 := e2, asked := false })) [] := by
  have c1 : ieq e2 b.me = true := ieq_true h2
  have c2 : Nat.blt x.i x.l.length = true := blt_true (List.getElem?_eq_some_iff.1 h).1
  exact CodeOK.of_pick hmix (OrOK.cons good_LL .nil) .nil (N := 1000) [1, 2, 5, 6, 8, 9, 10, 11, 12, 13, 15] [] [] fun k => (fa4 b s x e1 e2 d N m k).trans (by
    refine (guardK_pos ⟨_, _, _, _, rfl⟩ _ _).trans ?_
    simp only [fInt_eq, natOf_of, blA_eq, h1, c1, c2, boolK_true, brec_true, brec_false, Bool.not_true, seg_prom h, fList_eq]
    refine (guardK_pos ⟨_, _, _, _, rfl⟩ _ _).trans ?_
    simp only [blA_eq, h3, brec_true]
    try exact rfl)

/-- What always holds ahead of a round, alone. -/
structure LInvA (b : BS) (s : PS) (x : LS) : Prop where
  al : Al s
  me : b.me = (s.me : Int)
  set : b.set = s.set
  nd : b.nodes = 1
  a1 : s.b1 = x.a1
  a2 : s.b2 = x.a2
  over : x.over = decide (s.phase = 3)
  last : s.phase = 3 → x.last = s.value
  lb : isBytes x.last
  vb : okb x.value

theorem lastA {s : PS} (h : Al s) : isBytes (if s.phase = 3 then s.value else []) := by
  split
  · exact h.value.2
  · exact isB_nil

theorem step_al {b : BS} {s : PS} {x : LS} {a : AS} (h : LInvA b s x) (ha : x.l[x.i]? = some a) (hx : okb a.x.data) (D : ActA 7 [.ptr (.ofNat 0) 0, .agg (actC a), .agg (beginC b)] s a.v) :
    ∃ (s' : PS) (x' : LS), LInvA b s' x' ∧ x'.l = x.l ∧ x'.i = x.i ∧ CodeOK Try.prog fx3 inner (mkTm (tmL x)) (mkH (hL b s x)) [] .normal (mkTm (tmL x')) (mkH (hL b s' x')) [] := by
  obtain ⟨s', F, n, hI, hP, hO, R⟩ := D
  have me' : b.me = (s'.me : Int) := by rw [hP.me]; exact h.me
  have set' : b.set = s'.set := by rw [hP.set]; exact h.set
  have n0 : s'.nodes ≠ 0 := by have := hI.n; omega
  have nb : ∀ {q : Prop}, 1 < b.nodes → q := fun e => absurd e (by rw [h.nd]; decide)
  cases hO with
  | quiet =>
    refine ⟨s, lastL s x, ⟨hI, me', set', h.nd, h.a1, h.a2, rfl, fun p => if_pos p, lastA hI, h.vb⟩, rfl, rfl, ?_⟩
    exact inner_ok (ms := []) (x2 := x) ha R facts_none (fun _ h => by cases h) (by decide) ⟨me', set', fun _ => ⟨h.a1, h.a2⟩, fun p _ => by have := hI.ph; omega, hI.value, h.vb⟩ (rest_okG n0 hI.value ha hx.2 h.lb h.vb.2 (fun (ho : x.over = true) => by
        have p3 : s.phase = 3 := by have := h.over; rw [ho] at this; exact of_decide_eq_true this.symm
        exact ⟨p3, h.last p3⟩) (fun _ _ _ e => nb e))
  | fail p0 =>
    have ho : x.over = false := by rw [h.over]; exact decide_eq_false (by omega)
    refine ⟨{ s with phase := 4, wait := 0 }, lastL { s with phase := 4, wait := 0 } x, ⟨hI, me', set', h.nd, h.a1, h.a2, rfl, fun p => if_pos p, lastA hI, h.vb⟩, rfl, rfl, ?_⟩
    exact inner_ok (ms := []) (x2 := x) ha R facts_none (fun _ h => by cases h) (by decide) ⟨me', set', fun _ => ⟨h.a1, h.a2⟩, fun p _ => (by cases p), hI.value, h.vb⟩ (rest_okG n0 hI.value ha hx.2 h.lb h.vb.2 (fun (ho' : x.over = true) => by rw [ho] at ho'; cases ho') (fun _ _ _ e => nb e))
  | all p0 p3 q1 q2 q3 =>
    have ho : x.over = false := by rw [h.over]; exact decide_eq_false (by omega)
    refine ⟨s', lastL s' { x with a1 := s'.b1, a2 := s'.b2, asked := false }, ⟨hI, me', set', h.nd, rfl, rfl, rfl, fun p => if_pos p, lastA hI, h.vb⟩, rfl, rfl, ?_⟩
    exact inner_ok (ms := []) (x2 := { x with a1 := s'.b1, a2 := s'.b2, asked := false }) ha R (facts_three ha (by rw [← h.a1, ← h.a2]; exact q1) (q2.trans me'.symm) q3) (fun _ h => by cases h) (by decide) ⟨me', set', fun _ => ⟨rfl, rfl⟩, fun p _ => by omega, hI.value, h.vb⟩ (rest_okG n0 hI.value ha hx.2 h.lb h.vb.2 (fun (ho' : x.over = true) => by rw [ho] at ho'; cases ho') (fun _ _ _ e => nb e))

theorem loop_al {b : BS} {l : List AS} (hl : l.length ≤ 60) (ha : ∀ a ∈ l, ActOk a) : ∀ (j : Nat) (s : PS) (x : LS), x.l = l → l.length - x.i = j → LInvA b s x →
    ∃ (s' : PS) (x' : LS), LInvA b s' x' ∧ ∀ (ρ0 : RM) (A0 : H) (w0 : World), LoopR Try.prog ρ0 A0 w0 fx3 b0 (mkTm (tmL x)) (mkH (hL b s x)) (.exit 0) (mkTm [(5, .bool true), (6, .ptr (.ofNat 1) 0), (8, .ptr (.ofNat 2) 0)]) (mkH (hL b s' x')) := by
  intro j
  induction j with
  | zero =>
    intro s x e hj h
    exact ⟨s, x, h, fun _ _ _ => .stop (fun e => by cases e) (CodeR.of rfl (stop0 (by rw [e]; omega)))⟩
  | succ j ih =>
    intro s x e hj h
    have hi : x.i < x.l.length := by rw [e]; omega
    have hm := ha x.l[x.i] (by rw [← e]; exact List.getElem_mem hi)
    obtain ⟨s1, x1, h1, e1, e2, R⟩ := step_al h (List.getElem?_eq_getElem hi) hm.2.1 (act_al h.al hm.1 hm.2.2)
    obtain ⟨s', x', h', L⟩ := ih s1 { x1 with i := x1.i + 1 } (e1.trans e) (by show l.length - (x1.i + 1) = j; omega) ⟨h1.al, h1.me, h1.set, h1.nd, h1.a1, h1.a2, h1.over, h1.last, h1.lb, h1.vb⟩
    exact ⟨s', x', h', fun ρ0 A0 w0 => .next (CodeR.of rfl (round0 hi (by rw [e]; exact hl) e2 R)) (L ρ0 A0 w0)⟩

theorem okb_nil : okb [] := ⟨by decide, isB_nil⟩

theorem loop_to {b : BS} {l : List AS} {m N : Nat} (hm : b.me = m) (hN : b.nodes = N) (h1 : 1 ≤ m) (h2 : m ≤ N) (h3 : N ≤ 64) (hd : okb b.data) (hl : l.length ≤ 60) (ha : ∀ a ∈ l, ActOk a) : LoopTo b l (s0 b m N) := by
  by_cases hn : N = 1
  · subst hn
    have e1 : m = 1 := by omega
    subst e1
    obtain ⟨s', x', h', L⟩ := loop_al (b := b) hl ha l.length (s0 b 1 1) (x0 l) rfl (by show l.length - 0 = _; omega) ⟨⟨rfl, rfl, hd, okb_nil, okb_nil, .inl rfl⟩, hm, rfl, hN, rfl, rfl, rfl, (fun p => by cases p), isB_nil, okb_nil⟩
    exact ⟨s', x', by have := h'.al.n; omega, h'.a1, h'.a2, L⟩
  · obtain ⟨s', x', h', L⟩ := loop0 (b := b) hl ha l.length (s0 b m N) (x0 l) rfl (by show l.length - 0 = _; omega) ⟨⟨by show 2 ≤ N; omega, h3, by show m < 65; omega, hd, okb_nil, okb_nil⟩, hm, rfl, rfl, rfl, (fun p => by cases p), (fun p => by cases p), rfl, (fun p => by cases p), isB_nil, okb_nil⟩
    exact ⟨s', x', by have := h'.inv.n1; omega, h'.a1, h'.a2, L⟩

/-- What is asked of an act that comes in. -/
def InOK (a : AS) : Prop := LenOK a ∧ isBytes a.x.data ∧ isBytes a.v.data

/-- The law. -/
theorem law_ok {b : BS} {l : List AS} (hb : isBytes b.data) (ha : ∀ a ∈ l, InOK a) : ∃ A', FunOK Try.prog 3 [.agg (beginC b), .fz (flat actC l) l.length] (mkH []) (.bool true) A' := by
  rcases make_ok b with R | ⟨m, N, hm, hN, h1, h2, h3, h4, R⟩
  · exact refused_ok R
  · rcases long_ok (l := l) fun a h => (ha a h).1 with hL | ⟨hL, hl, hs⟩
    · exact early_end R (.inr hL)
    · by_cases hd : 300 < b.data.length
      · exact early_end R (.inl hd)
      · refine end_ok R (by omega) hL (loop_to hm hN h1 h2 h3 ⟨by omega, hb⟩ hl fun a h => ?_)
        obtain ⟨g1, g2⟩ := hs a h
        obtain ⟨g3, g4, g5⟩ := ha a h
        exact ⟨⟨by omega, g5⟩, ⟨by omega, g4⟩, g2⟩

theorem ty_int {l : List AV} (h : Ty Try.prog 3 l) : ∃ n, l = [.int .i64 n] := (h.num (k := .i64) (by kernel_rfl)).imp fun _ h => h.1

theorem ty_bool {l : List AV} (h : Ty Try.prog 4 l) : ∃ b, l = [.bool b] := h.ofBool (by kernel_rfl)

theorem ty_call {l : List AV} (h : Ty Try.prog 23 l) : ∃ a b c, l = [.int .i64 a, .int .i64 b, .int .i64 c] := by
  have F := h.fields (ts := [3, 3, 3]) (by kernel_rfl)
  obtain ⟨_, _, rfl, h1, F⟩ := F.inv
  obtain ⟨_, _, rfl, h2, F⟩ := F.inv
  obtain ⟨_, _, rfl, h3, F⟩ := F.inv
  obtain rfl := F.end_
  obtain ⟨a, rfl⟩ := ty_int h1
  obtain ⟨b, rfl⟩ := ty_int h2
  obtain ⟨c, rfl⟩ := ty_int h3
  exact ⟨a, b, c, rfl⟩

theorem ty_ballot {l : List AV} (h : Ty Try.prog 35 l) : ∃ a b, l = [.int .i64 a, .int .i64 b] := by
  have F := h.fields (ts := [3, 3]) (by kernel_rfl)
  obtain ⟨_, _, rfl, h1, F⟩ := F.inv
  obtain ⟨_, _, rfl, h2, F⟩ := F.inv
  obtain rfl := F.end_
  obtain ⟨a, rfl⟩ := ty_int h1
  obtain ⟨b, rfl⟩ := ty_int h2
  exact ⟨a, b, rfl⟩

theorem ty_u8 {l : List AV} (h : Ty Try.prog 5 l) : ∃ n : Nat, l = [.int .u8 (.ofNat n)] ∧ n < 256 := by
  obtain ⟨n, rfl, hw⟩ := h.num (k := .u8) (by kernel_rfl)
  have hx : 0 ≤ n ∧ n ≤ 255 := by simpa [Lit.wf, IntKind.min, IntKind.max, IntKind.signed, IntKind.bits] using hw
  obtain ⟨m, rfl⟩ := Int.eq_ofNat_of_zero_le hx.1
  exact ⟨m, rfl, by omega⟩

theorem flat_one {α : Type} (g : α → AV) : ∀ l : List α, flat (fun a => [g a]) l = l.map g
  | [] => rfl
  | a :: l => by rw [flat_cons, flat_one g l]; rfl

theorem ty_bytes {l : List AV} (h : Ty Try.prog 24 l) : ∃ d : List Nat, isBytes d ∧ d.length ≤ 140737488351232 ∧ l = [.fz (u8s d) d.length] := by
  obtain ⟨rows, rfl, hb, hN⟩ := h.elems (e := 5) (by kernel_rfl)
  obtain ⟨d, h1, h2, h3⟩ := hN.each (f := fun n : Nat => [.int .u8 (.ofNat n)]) (Q := fun n => n < 256) fun r h => ty_u8 h
  have e5 : Try.prog.bytesOf 5 = 1 := by kernel_rfl
  rw [e5, h2] at hb
  have hb' : d.length ≤ 140737488351232 := by
    have : reachBytes = 140737488351232 := by decide
    omega
  exact ⟨d, h3, hb', by rw [h1, h2, flat_one]; rfl⟩

theorem ty_ints {l : List AV} (h : Ty Try.prog 48 l) : ∃ d : List Int, l = [.fz (ints d) d.length] := by
  obtain ⟨rows, rfl, hb, hN⟩ := h.elems (e := 3) (by kernel_rfl)
  obtain ⟨d, h1, h2, h3⟩ := hN.each (f := fun n : Int => [.int .i64 n]) (Q := fun _ => True) fun r h => (ty_int h).imp fun _ e => ⟨e, trivial⟩
  exact ⟨d, by rw [h1, h2, flat_one]; rfl⟩

theorem idl_app (f : Nat → Int) : ∀ (n k : Nat) (r : List AV), idl f n k r = idl f n k [] ++ r
  | 0, _, _ => rfl
  | n + 1, k, r => by show _ :: idl f n (k + 1) r = _; rw [idl_app f n (k + 1) r]; rfl

theorem idl_of : ∀ (L : List Int) (f : Nat → Int) (k : Nat), (∀ i, i < L.length → L[i]? = some (f (k + i))) → L.map (AV.int .u8) = idl f L.length k []
  | [], _, _, _ => rfl
  | x :: L, f, k, h => by
    have h0 := h 0 (by simp)
    simp at h0
    show .int .u8 x :: L.map _ = .int .u8 (f k) :: idl f L.length (k + 1) []
    rw [← h0, idl_of L f (k + 1) fun i hi => by
      have := h (i + 1) (by simpa using hi)
      simp only [List.getElem?_cons_succ] at this
      rw [this, show k + (i + 1) = k + 1 + i by omega]]

theorem ty_id {l : List AV} (h : Ty Try.prog 41 l) : ∃ f : Nat → Int, l = idl f 32 0 [] := by
  obtain ⟨rows, rfl, hn, hN⟩ := h.arr (n := 32) (e := 5) (by kernel_rfl)
  obtain ⟨L, h1, h2, h3⟩ := hN.each (f := fun n : Int => [.int .u8 n]) (Q := fun _ => True) fun r h => by
    obtain ⟨n, e, _⟩ := ty_u8 h
    exact ⟨_, e, trivial⟩
  refine ⟨fun k => L.getD k 0, ?_⟩
  rw [h1, flat_one, idl_of L (fun k => L.getD k 0) 0 fun i hi => by rw [List.getD_eq_getElem?_getD, Nat.zero_add, List.getElem?_eq_getElem hi]; rfl, ← h2, hn]

theorem ty_note {l : List AV} (h : Ty Try.prog 45 l) : ∃ x : NS, l = noteX x ∧ isBytes x.data ∧ x.data.length ≤ 140737488351232 := by
  have F := h.fields (ts := [3, 3, 3, 23, 3, 3, 35, 35, 4, 41, 24, 42, 43]) (by kernel_rfl)
  obtain ⟨_, _, rfl, h1, F⟩ := F.inv
  obtain ⟨_, _, rfl, h2, F⟩ := F.inv
  obtain ⟨_, _, rfl, h3, F⟩ := F.inv
  obtain ⟨_, _, rfl, h4, F⟩ := F.inv
  obtain ⟨_, _, rfl, h5, F⟩ := F.inv
  obtain ⟨_, _, rfl, h6, F⟩ := F.inv
  obtain ⟨_, _, rfl, h7, F⟩ := F.inv
  obtain ⟨_, _, rfl, h8, F⟩ := F.inv
  obtain ⟨_, _, rfl, h9, F⟩ := F.inv
  obtain ⟨_, _, rfl, h10, F⟩ := F.inv
  obtain ⟨_, _, rfl, h11, F⟩ := F.inv
  obtain ⟨_, _, rfl, h12, F⟩ := F.inv
  obtain ⟨_, _, rfl, h13, F⟩ := F.inv
  obtain rfl := F.end_
  obtain ⟨kind, rfl⟩ := ty_int h1
  obtain ⟨frm, rfl⟩ := ty_int h2
  obtain ⟨to, rfl⟩ := ty_int h3
  obtain ⟨c1, c2, c3, rfl⟩ := ty_call h4
  obtain ⟨set, rfl⟩ := ty_int h5
  obtain ⟨home, rfl⟩ := ty_int h6
  obtain ⟨b1, b2, rfl⟩ := ty_ballot h7
  obtain ⟨o1, o2, rfl⟩ := ty_ballot h8
  obtain ⟨yes, rfl⟩ := ty_bool h9
  obtain ⟨id, rfl⟩ := ty_id h10
  obtain ⟨data, d1, d2, rfl⟩ := ty_bytes h11
  obtain ⟨ids, rfl, _, _⟩ := h12.elems (e := 41) (by kernel_rfl)
  obtain ⟨wl, rfl, _, _⟩ := h13.elems (e := 118) (by kernel_rfl)
  refine ⟨⟨kind, frm, to, c1, c2, c3, set, home, b1, b2, o1, o2, yes, id, data, ids.flatten, ids.length, wl.flatten, wl.length⟩, ?_, d1, d2⟩
  unfold noteX
  rw [idl_app]
  rfl

theorem ty_vote {l : List AV} (h : Ty Try.prog 47 l) : ∃ v : VS, l = voteC v ∧ isBytes v.data ∧ v.data.length ≤ 140737488351232 := by
  have F := h.fields (ts := [3, 35, 35, 24]) (by kernel_rfl)
  obtain ⟨_, _, rfl, h1, F⟩ := F.inv
  obtain ⟨_, _, rfl, h2, F⟩ := F.inv
  obtain ⟨_, _, rfl, h3, F⟩ := F.inv
  obtain ⟨_, _, rfl, h4, F⟩ := F.inv
  obtain rfl := F.end_
  obtain ⟨set, rfl⟩ := ty_int h1
  obtain ⟨p1, p2, rfl⟩ := ty_ballot h2
  obtain ⟨a1, a2, rfl⟩ := ty_ballot h3
  obtain ⟨data, d1, d2, rfl⟩ := ty_bytes h4
  exact ⟨⟨set, p1, p2, a1, a2, data⟩, rfl, d1, d2⟩

theorem ty_act {l : List AV} (h : Ty Try.prog 50 l) : ∃ a : AS, l = actC a ∧ InOK a := by
  have F := h.fields (ts := [3, 45, 4, 47, 48]) (by kernel_rfl)
  obtain ⟨_, _, rfl, h1, F⟩ := F.inv
  obtain ⟨_, _, rfl, h2, F⟩ := F.inv
  obtain ⟨_, _, rfl, h3, F⟩ := F.inv
  obtain ⟨_, _, rfl, h4, F⟩ := F.inv
  obtain ⟨_, _, rfl, h5, F⟩ := F.inv
  obtain rfl := F.end_
  obtain ⟨kind, rfl⟩ := ty_int h1
  obtain ⟨x, rfl, x1, x2⟩ := ty_note h2
  obtain ⟨mine, rfl⟩ := ty_bool h3
  obtain ⟨v, rfl, v1, v2⟩ := ty_vote h4
  obtain ⟨lots, rfl⟩ := ty_ints h5
  exact ⟨⟨kind, x, mine, v, lots⟩, rfl, ⟨x2, v2⟩, x1, v1⟩

theorem ty_acts {l : List AV} (h : Ty Try.prog 27 l) : ∃ L : List AS, l = [.fz (flat actC L) L.length] ∧ ∀ a ∈ L, InOK a := by
  obtain ⟨rows, rfl, _, hN⟩ := h.elems (e := 50) (by kernel_rfl)
  obtain ⟨L, h1, h2, h3⟩ := hN.each (f := actC) (Q := InOK) fun r h => ty_act h
  exact ⟨L, by rw [h1, h2], h3⟩

theorem ty_begin {l : List AV} (h : Ty Try.prog 26 l) : ∃ b : BS, l = beginC b ∧ isBytes b.data := by
  have F := h.fields (ts := [3, 3, 3, 23, 24, 3]) (by kernel_rfl)
  obtain ⟨_, _, rfl, h1, F⟩ := F.inv
  obtain ⟨_, _, rfl, h2, F⟩ := F.inv
  obtain ⟨_, _, rfl, h3, F⟩ := F.inv
  obtain ⟨_, _, rfl, h4, F⟩ := F.inv
  obtain ⟨_, _, rfl, h5, F⟩ := F.inv
  obtain ⟨_, _, rfl, h6, F⟩ := F.inv
  obtain rfl := F.end_
  obtain ⟨set, rfl⟩ := ty_int h1
  obtain ⟨me, rfl⟩ := ty_int h2
  obtain ⟨nodes, rfl⟩ := ty_int h3
  obtain ⟨c1, c2, c3, rfl⟩ := ty_call h4
  obtain ⟨data, d1, d2, rfl⟩ := ty_bytes h5
  obtain ⟨retry, rfl⟩ := ty_int h6
  exact ⟨⟨set, me, nodes, c1, c2, c3, data, retry⟩, rfl, d1⟩

theorem plain26 : plainB Try.prog 10 26 = true := by kernel_rfl

theorem plain27 : plainB Try.prog 10 27 = true := by kernel_rfl

end Pro
