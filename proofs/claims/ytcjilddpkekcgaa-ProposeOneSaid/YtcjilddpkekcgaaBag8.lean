import Derived.Test.YtcjilddpkekcgaaBag7
import Derived.KernelRfl
set_option maxHeartbeats 0
set_option maxRecDepth 1000000
set_option linter.unusedSimpArgs false
set_option linter.unusedVariables false
open Go Go.AM Go.Proofs
namespace Pro

/-- What always holds ahead of a round. -/
structure LInv (b : BS) (s : PS) (x : LS) : Prop where
  inv : Inv s
  me : b.me = (s.me : Int)
  set : b.set = s.set
  a1 : s.b1 = x.a1
  a2 : s.b2 = x.a2
  p1 : s.phase = 1 → x.asked = false
  p2 : s.phase = 2 → x.asked = true ∧ x.value = s.value
  over : x.over = decide (s.phase = 3)
  last : s.phase = 3 → x.last = s.value
  lb : isBytes x.last
  vb : okb x.value

theorem LInv.no {b : BS} {s : PS} {x : LS} (h : LInv b s x) (p : s.phase ≠ 3) : x.over = false := by rw [h.over]; exact decide_eq_false p

theorem isB_nil : isBytes [] := fun _ h => by cases h

theorem lastB {s : PS} (h : Inv s) : isBytes (if s.phase = 3 then s.value else []) := by
  split
  · exact h.value.2
  · exact isB_nil

theorem x3L_nx {s : PS} {x : LS} {ms : List Int} : x3L s x ms = x ∨ x3L s x ms = NX s x := by unfold x3L; split; exact .inl rfl; exact .inr rfl

theorem x3L_same (s : PS) (x : LS) (ms : List Int) : (x3L s x ms).l = x.l ∧ (x3L s x ms).i = x.i ∧ (x3L s x ms).over = x.over ∧ (x3L s x ms).last = x.last ∧ (x3L s x ms).a1 = x.a1 ∧ (x3L s x ms).a2 = x.a2 := by
  rcases x3L_nx (s := s) (x := x) (ms := ms) with h | h <;> rw [h]
  · exact ⟨rfl, rfl, rfl, rfl, rfl, rfl⟩
  · unfold NX; split <;> exact ⟨rfl, rfl, rfl, rfl, rfl, rfl⟩

theorem x3L_not2 {s : PS} {x : LS} {ms : List Int} (h : s.phase ≠ 2) : x3L s x ms = x := by
  rcases x3L_nx (s := s) (x := x) (ms := ms) with h' | h' <;> rw [h']
  unfold NX; rw [if_neg h]

/-- All kinds of rounds end so. -/
theorem fin_ok {b : BS} {s s' : PS} {x x2 : LS} {a : AS} {F : List AV} {n : Nat} {ms : List Int} (hI : Inv s') (ha : x.l[x.i]? = some a) (hx : okb a.x.data)
    (R : FunOK Try.prog 7 [.ptr (.ofNat 0) 0, .agg (actC a), .agg (beginC b)] (mkH [some (propO s)]) (.tup [.fz F n, .fz (flat (noteC s') ms) ms.length]) (mkH [some (propO s')]))
    (hF : CodeOK Try.prog fx3 c2 (mkTm (tmF x F n (flat (noteC s') ms) ms.length)) (mkH (hL b s' x)) [] .normal (mkTm ([1, 2, 5, 6, 8, 9, 10, 11, 12, 13, 15].zip (f2 x2 (flat (noteC s') ms) ms.length))) (mkH (hL b s' x2)) [])
    (hms : ∀ to ∈ ms, to ≠ (s'.me : Int)) (hl : ms.length < 1000000) (el : x2.l = x.l) (ei : x2.i = x.i) (me' : b.me = (s'.me : Int)) (set' : b.set = s'.set) (a1 : s'.b1 = x2.a1) (a2 : s'.b2 = x2.a2)
    (p1 : s'.phase = 1 → x2.asked = false) (v2 : s'.phase = 2 → x2.asked = true → x2.value = s'.value) (p2 : s'.phase = 2 → x2.asked = true ∨ ms ≠ []) (ov : x2.over = true → s'.phase = 3 ∧ x2.last = s'.value)
    (h3 : s'.phase = 3 → x2.over = false → toldB a (donV s') = false → x2.asked = true ∧ x2.value = s'.value) (lb : isBytes x2.last) (vb : okb x2.value) :
    ∃ (s' : PS) (x' : LS), LInv b s' x' ∧ x'.l = x.l ∧ x'.i = x.i ∧ CodeOK Try.prog fx3 inner (mkTm (tmL x)) (mkH (hL b s x)) [] .normal (mkTm (tmL x')) (mkH (hL b s' x')) [] := by
  obtain ⟨f1, f2', f3, f4, f5, f6⟩ := x3L_same s' x2 ms
  have hN : NInv b s' x2 := ⟨me', set', fun _ => ⟨a1, a2⟩, v2, hI.value, vb⟩
  have vb3 : okb (x3L s' x2 ms).value := by
    rcases x3L_nx (s := s') (x := x2) (ms := ms) with h' | h' <;> rw [h']
    · exact vb
    · exact hN.nx.xb
  have q2 : s'.phase = 2 → (x3L s' x2 ms).asked = true ∧ (x3L s' x2 ms).value = s'.value := fun p => by
    by_cases hm : ms.length = 0
    · rw [show x3L s' x2 ms = x2 from if_pos hm]
      rcases p2 p with q | q
      · exact ⟨q, v2 p q⟩
      · exact absurd (List.eq_nil_of_length_eq_zero hm) q
    · rw [show x3L s' x2 ms = NX s' x2 from if_neg hm, show NX s' x2 = _ from if_pos p]
      exact ⟨rfl, rfl⟩
  refine ⟨s', lastL s' (x3L s' x2 ms), ⟨hI, me', set', a1.trans f5.symm, a2.trans f6.symm, fun p => ?_, q2, rfl, fun p => if_pos p, lastB hI, vb3⟩, f1.trans el, f2'.trans ei, ?_⟩
  · show (x3L s' x2 ms).asked = false
    rw [x3L_not2 (by omega)]; exact p1 p
  · refine inner_ok ha R hF hms hl hN (rest_ok hI (by rw [f1, f2', el, ei]; exact ha) hx.2 (by rw [f4]; exact lb) vb3.2 (fun ho => by rw [f4]; exact ov (f3 ▸ ho)) (fun p ho ht => ?_))
    rw [x3L_not2 (by omega)] at ho ⊢
    exact h3 p ho ht

/-- A round keeps what holds. -/
theorem step_ok {b : BS} {s : PS} {x : LS} {a : AS} (h : LInv b s x) (ha : x.l[x.i]? = some a) (hx : okb a.x.data) (D : DoneOK s a b) :
    ∃ (s' : PS) (x' : LS), LInv b s' x' ∧ x'.l = x.l ∧ x'.i = x.i ∧ CodeOK Try.prog fx3 inner (mkTm (tmL x)) (mkH (hL b s x)) [] .normal (mkTm (tmL x')) (mkH (hL b s' x')) [] := by
  obtain ⟨s', F, n, N, m, y, hI, hP, hO, hy, R⟩ := D
  have me' : b.me = (s'.me : Int) := by rw [hP.me]; exact h.me
  have set' : b.set = s'.set := by rw [hP.set]; exact h.set
  cases hO with
  | quiet q1 q2 q3 q4 =>
    have hv : s'.phase = 2 → x.asked = true ∧ x.value = s'.value := fun p => by
      rcases q4 with q | ⟨_, q⟩
      · rw [q3]; exact h.p2 (q ▸ p)
      · rw [q] at p; cases p
    refine ⟨s', lastL s' x, ⟨hI, me', set', q1.trans h.a1, q2.trans h.a2, fun p => ?_, hv, rfl, fun p => if_pos p, lastB hI, h.vb⟩, rfl, rfl, ?_⟩
    · rcases q4 with q | ⟨_, q⟩
      · exact h.p1 (q ▸ p)
      · rw [q] at p; cases p
    · exact inner_ok (ms := []) (x2 := x) ha R facts_none (fun _ h => by cases h) (by decide) ⟨me', set', fun _ => ⟨q1.trans h.a1, q2.trans h.a2⟩, fun p _ => (hv p).2, hI.value, h.vb⟩ (rest_ok hI ha hx.2 h.lb h.vb.2 (fun (ho : x.over = true) => by
        have p3 : s.phase = 3 := by have := h.over; rw [ho] at this; exact of_decide_eq_true this.symm
        rcases q4 with q | ⟨q, _⟩
        · exact ⟨q.trans p3, by rw [q3]; exact h.last p3⟩
        · exact absurd p3 q) (fun p (ho : x.over = false) _ => by
        rcases q4 with q | ⟨_, q⟩
        · have := h.over; rw [ho, decide_eq_true (q ▸ p)] at this; cases this
        · rw [q] at p; cases p))
  | again ms q0 q1 q2 q3 q4 q5 => exact fin_ok (x2 := x) hI ha hx R facts_none q0.1 (by have := q0.2.2; omega) rfl rfl me' set' (q1.trans h.a1) (q2.trans h.a2) (fun p => h.p1 (q4 ▸ p)) (fun p _ => by rw [q3]; exact (h.p2 (q4 ▸ p)).2) (fun p => .inl (h.p2 (q4 ▸ p)).1) (fun ho => by rw [h.no (by omega)] at ho; cases ho) (fun p _ _ => by omega) h.lb h.vb
  | prom ms q0 q1 q2 q3 q4 q5 => exact fin_ok (x2 := { x with a1 := s'.b1, a2 := s'.b2, asked := false }) hI ha hx R (facts_prom ha (by rw [← h.a1, ← h.a2]; exact q3) (q4.trans h.me.symm) q5) q0.1 (by have := q0.2.2; omega) rfl rfl me' set' rfl rfl (fun _ => rfl) (fun _ e => by cases e) (fun p => by omega) (fun ho => by rw [show ({ x with a1 := s'.b1, a2 := s'.b2, asked := false } : LS).over = x.over from rfl, h.no q1] at ho; cases ho) (fun p _ _ => by omega) h.lb h.vb
  | acc ms n q0 q1 q2 q3 q4 q5 =>
    refine fin_ok (x2 := x) hI ha hx R ?_ q0.1 (by have := q0.2.2; omega) rfl rfl me' set' (q3.trans h.a1) (q4.trans h.a2) (fun p => by omega) (fun _ e => by rw [h.p1 q1] at e; cases e) (fun _ => .inr (q0.2.1 rfl hI.n1)) (fun ho => by rw [h.no (by omega)] at ho; cases ho) (fun p _ _ => by omega) h.lb h.vb
    rcases (show n = 0 ∨ n = 1 by omega) with rfl | rfl
    · exact facts_none
    · exact facts_acc
  | dec ms q0 q1 q2 q3 q4 q5 =>
    exact fin_ok (x2 := x) hI ha hx R facts_dec q0.1 (by have := q0.2.2; omega) rfl rfl me' set' (q3.trans h.a1) (q4.trans h.a2) (fun p => by omega) (fun p => by omega) (fun p => by omega) (fun ho => by rw [h.no (by omega)] at ho; cases ho) (fun _ _ _ => by rw [q5]; exact h.p2 q1) h.lb h.vb
  | told z q0 q1 q2 q3 q4 q5 q6 =>
    obtain ⟨g1, g2, g3⟩ := hy z q0
    refine fin_ok (ms := []) (x2 := x) hI ha hx R facts_dec (fun _ h => by cases h) (by decide) rfl rfl me' set' (q4.trans h.a1) (q5.trans h.a2) (fun p => by omega) (fun p => by omega) (fun p => by omega) (fun ho => by rw [h.no q2] at ho; cases ho) (fun _ _ ht => ?_) h.lb h.vb
    have hd : donV s' = .fz (u8s a.x.data) a.x.data.length := by
      rw [show donV s' = _ from if_pos q3, q6, g3]
    have : toldB a (donV s') = true := by
      unfold toldB
      rw [hd, sameS_self, Bool.and_true]
      have k1 : (decide (a.kind = 1) || decide (a.kind = 2)) = true := by rcases g1 with g | g <;> simp [g]
      have k2 : (decide (a.x.kind = 13) || decide (a.x.kind = 15)) = true := by rcases q1 with g | g <;> simp [← g2, g]
      rw [k1, k2]; rfl
    rw [this] at ht; cases ht

noncomputable def b0 : Code := subC [1,1,1,1,1,1,1,0,1,1,1] (bodyC Try.f3)

noncomputable def h9 : Code := subC [1,1,1,1,1,1,1,0,1,1,1,0] (bodyC Try.f3)

noncomputable def r10 : Code := subC [1,1,1,1,1,1,1,0,1,1,1,1,1] (bodyC Try.f3)

theorem b0_eq : b0 = .seq h9 (.seq (.block 1 inner) r10) := by kernel_rfl

theorem blk0_eq : subC [1,1,1,1,1,1,1,0,1] (bodyC Try.f3) = .block 0 (.loop b0) := by kernel_rfl

theorem rh9 (b : BS) (s : PS) (x : LS) (k : AExit → List AV → H → Ans) :
    execH Try.prog .leaf [] 1000 fx3 h9 (mkTm (tmL x)) (mkH (hL b s x)) [] (pickK [1, 2, 5, 6, 8, 9, 10, 11, 12, 13] [] [5, 6, 8] k)
    = fInt (Int.ofNat x.i) fun n => fInt (Int.ofNat (List.length x.l)) fun n_1 => brec (k (AExit.exit 0) [AV.bool true, AV.ptr (.ofNat 1) 0, AV.ptr (.ofNat 2) 0] (mkH (hL b s x))) (k AExit.normal [AV.fz (flat actC x.l) (List.length x.l), AV.ptr (.ofNat 0) 0, AV.bool true, AV.ptr (.ofNat 1) 0, AV.ptr (.ofNat 2) 0, AV.fz (u8s x.value) (List.length x.value), AV.fz (u8s x.last) (List.length x.last), AV.bool x.asked, AV.bool x.over, AV.int .i64 (Int.ofNat x.i)] (mkH (hL b s x))) (ilt n n_1) := by kernel_rfl

theorem rr10 (b : BS) (s : PS) (x : LS) (k : AExit → List AV → H → Ans) :
    execH Try.prog .leaf [] 1000 fx3 r10 (mkTm (tmL x)) (mkH (hL b s x)) [] (pickK [1, 2, 5, 6, 8, 9, 10, 11, 12, 13] [] [] k)
    = fInt (Int.ofNat x.i) fun n => fInt (wrapK .i64 (Int.add n (Int.ofNat 1))) fun n => fInt n fun n => k AExit.normal [AV.fz (flat actC x.l) (List.length x.l), AV.ptr (.ofNat 0) 0, AV.bool true, AV.ptr (.ofNat 1) 0, AV.ptr (.ofNat 2) 0, AV.fz (u8s x.value) (List.length x.value), AV.fz (u8s x.last) (List.length x.last), AV.bool x.asked, AV.bool x.over, AV.int .i64 n] (mkH (hL b s x)) := by kernel_rfl

noncomputable def tmE (x : LS) : List (Nat × AV) := [1, 2, 5, 6, 8, 9, 10, 11, 12, 13].zip [.fz (flat actC x.l) x.l.length, .ptr (.ofNat 0) 0, .bool true, .ptr (.ofNat 1) 0, .ptr (.ofNat 2) 0, .fz (u8s x.value) x.value.length, .fz (u8s x.last) x.last.length, .bool x.asked, .bool x.over, .int .i64 (.ofNat x.i)]

theorem head_go {b : BS} {s : PS} {x : LS} (h : x.i < x.l.length) : CodeOK Try.prog fx3 h9 (mkTm (tmL x)) (mkH (hL b s x)) [] .normal (mkTm (tmE x)) (mkH (hL b s x)) [] :=
  CodeOK.of_pick hmix .leaf .nil (N := 1000) [1, 2, 5, 6, 8, 9, 10, 11, 12, 13] [] [5, 6, 8] fun k => (rh9 b s x k).trans (by
    have c1 : ilt (Int.ofNat x.i) (Int.ofNat x.l.length) = true := blt_true h
    simp only [fInt_eq, c1, brec_true]
    try exact rfl)

theorem head_end {b : BS} {s : PS} {x : LS} (h : x.l.length ≤ x.i) : CodeOK Try.prog fx3 h9 (mkTm (tmL x)) (mkH (hL b s x)) [] (.exit 0) (mkTm [(5, .bool true), (6, .ptr (.ofNat 1) 0), (8, .ptr (.ofNat 2) 0)]) (mkH (hL b s x)) [] :=
  CodeOK.of_pick (l := [.bool true, .ptr (.ofNat 1) 0, .ptr (.ofNat 2) 0]) hmix .leaf .nil (N := 1000) [1, 2, 5, 6, 8, 9, 10, 11, 12, 13] [] [5, 6, 8] fun k => (rh9 b s x k).trans (by
    have c1 : ilt (Int.ofNat x.i) (Int.ofNat x.l.length) = false := blt_false h
    simp only [fInt_eq, c1, brec_false]
    try exact rfl)

theorem tmE_eq (x : LS) : tmE x = tmL x := rfl

theorem next10 {b : BS} {s : PS} {x : LS} (h : x.i < 1000000) : CodeOK Try.prog fx3 r10 (mkTm (tmL x)) (mkH (hL b s x)) [] .normal (mkTm (tmL { x with i := x.i + 1 })) (mkH (hL b s x)) [] :=
  CodeOK.of_pick (l := [.fz (flat actC x.l) x.l.length, .ptr (.ofNat 0) 0, .bool true, .ptr (.ofNat 1) 0, .ptr (.ofNat 2) 0, .fz (u8s x.value) x.value.length, .fz (u8s x.last) x.last.length, .bool x.asked, .bool x.over, .int .i64 (.ofNat (x.i + 1))]) hmix .leaf .nil (N := 1000) [1, 2, 5, 6, 8, 9, 10, 11, 12, 13] [] [] fun k => (rr10 b s x k).trans (by
    have c1 : wrapK .i64 (Int.add (Int.ofNat x.i) (Int.ofNat 1)) = .ofNat (x.i + 1) := wrap_add (by omega)
    simp only [fInt_eq, c1]
    try exact rfl)

/-- What is asked of an act. -/
def ActOk (a : AS) : Prop := okb a.v.data ∧ okb a.x.data ∧ a.lots.length ≤ 20

/-- One round of the law's loop, from what a round of its inner code is. -/
theorem round0 {b : BS} {s s' : PS} {x x' : LS} (h : x.i < x.l.length) (hl : x.l.length ≤ 60) (ei : x'.i = x.i)
    (R : CodeOK Try.prog fx3 inner (mkTm (tmL x)) (mkH (hL b s x)) [] .normal (mkTm (tmL x')) (mkH (hL b s' x')) []) :
    CodeOK Try.prog fx3 b0 (mkTm (tmL x)) (mkH (hL b s x)) [] .normal (mkTm (tmL { x' with i := x'.i + 1 })) (mkH (hL b s' { x' with i := x'.i + 1 })) [] := by
  rw [b0_eq]
  exact (head_go h).seq ((CodeOK.block_other hmix (by intro e; cases e) R).seq (next10 (by omega)))

theorem stop0 {b : BS} {s : PS} {x : LS} (h : x.l.length ≤ x.i) :
    CodeOK Try.prog fx3 b0 (mkTm (tmL x)) (mkH (hL b s x)) [] (.exit 0) (mkTm [(5, .bool true), (6, .ptr (.ofNat 1) 0), (8, .ptr (.ofNat 2) 0)]) (mkH (hL b s x)) [] := by
  rw [b0_eq]
  exact (head_end h).seq_exit (by intro e; cases e)

theorem loop0 {b : BS} {l : List AS} (hl : l.length ≤ 60) (ha : ∀ a ∈ l, ActOk a) : ∀ (j : Nat) (s : PS) (x : LS), x.l = l → l.length - x.i = j → LInv b s x →
    ∃ (s' : PS) (x' : LS), LInv b s' x' ∧ ∀ (ρ0 : RM) (A0 : H) (w0 : World), LoopR Try.prog ρ0 A0 w0 fx3 b0 (mkTm (tmL x)) (mkH (hL b s x)) (.exit 0) (mkTm [(5, .bool true), (6, .ptr (.ofNat 1) 0), (8, .ptr (.ofNat 2) 0)]) (mkH (hL b s' x')) := by
  intro j
  induction j with
  | zero =>
    intro s x e hj h
    exact ⟨s, x, h, fun _ _ _ => .stop (fun e => by cases e) (CodeR.of rfl (stop0 (by rw [e]; omega)))⟩
  | succ j ih =>
    intro s x e hj h
    have hi : x.i < x.l.length := by rw [e]; omega
    have hm := ha x.l[x.i] (by rw [← e]; exact List.getElem_mem hi)
    obtain ⟨s1, x1, h1, e1, e2, R⟩ := step_ok h (List.getElem?_eq_getElem hi) hm.2.1 (act_ok h.inv hm.1 hm.2.1 hm.2.2)
    obtain ⟨s', x', h', L⟩ := ih s1 { x1 with i := x1.i + 1 } (e1.trans e) (by show l.length - (x1.i + 1) = j; omega) ⟨h1.inv, h1.me, h1.set, h1.a1, h1.a2, h1.p1, h1.p2, h1.over, h1.last, h1.lb, h1.vb⟩
    exact ⟨s', x', h', fun ρ0 A0 w0 => .next (CodeR.of rfl (round0 hi (by rw [e]; exact hl) e2 R)) (L ρ0 A0 w0)⟩

noncomputable def isT : AV → H → Ans := fun v _ => eBool v (fun b => boolK b .ok (.err 0 0 0)) (.err 0 0 1)

theorem of_isT {P : Program} (hmix : P.follows .mixedOrders = true) {O : PT Orc} (hO : OrOK P O) {hs : List Hole} (hh : HolesOK P hs) {N f : Nat} {args : List AV} {A : H}
    (h : bodyF P (execH P O hs N) (Pos.ofNat f) [] [] args A isT = .ok) : ∃ A', FunOK P f args A (.bool true) A' := by
  rw [bodyF_eq] at h
  obtain ⟨v1, A1, hk, hg⟩ := appFunc_sound (execH_sound hmix hO hh N).ok h
  have hv : v1 = .bool true := by
    unfold isT at hk
    rw [eBool_eq] at hk
    split at hk
    · rename_i b
      cases b
      · cases hk
      · rfl
    · cases hk
  subst hv
  refine ⟨A1, fun ρ w args' hr ha => ?_⟩
  obtain ⟨h1, h2⟩ := hg ρ w #[] #[] args' hr .nil .nil ha
  simp only [Array.empty_append, Array.append_empty, Pos.idx_ofNat] at h1 h2
  exact .inl ⟨_, _, h1 w, h2⟩

/-- The chapter's examples are answered as it says. -/
theorem known_ok : FunOK Try.prog 4 [] (mkH []) (.bool true) (mkH []) := by
  obtain ⟨A', h⟩ := of_isT (P := Try.prog) hmix .leaf .nil (N := 1000) (f := 4) (args := []) (A := mkH []) (by kernel_rfl)
  exact h.bare fun _ => rfl

noncomputable def fx6 : Fx := ⟨none, 6, 60⟩

noncomputable def b6 : Code := subC [1,0,1,1,1] (bodyC Try.f6)

theorem b6_eq : subC [1,0,1] (bodyC Try.f6) = .block 0 (.loop b6) := by kernel_rfl

noncomputable def tm6 (l : List AS) (i : Nat) : List (Nat × AV) := [(0, .fz (flat actC l) l.length), (2, .bool false), (3, .int .i64 (.ofNat i))]

theorem long6 (l : List AS) (i : Nat) (k : AExit → List AV → H → Ans) :
    execH Try.prog .leaf [] 1000 fx6 b6 (mkTm (tm6 l i)) (mkH []) [] (pickK [0, 2, 3] [2] [0, 2] k)
    = fInt (Int.ofNat i) fun n => fInt (Int.ofNat (List.length l)) fun n_1 => brec (k (AExit.exit 0) [AV.fz (flat actC l) (List.length l), AV.bool false] (mkH [])) (fInt (Int.ofNat i) fun n => brec (k (AExit.exit 0) [AV.fz (flat actC l) (List.length l), AV.bool false] (mkH [])) (fInt (Int.ofNat i) fun n => natOf n (fun m => boolK (Nat.blt m (List.length l)) (nthK (flat actC l) (Nat.add (Nat.add (Nat.mul m 57) 1) 45) (fun v => eFz v (fun l_1 n => fInt (Int.ofNat n) fun n => fInt (Int.ofNat i) fun n_2 => natOf n_2 (fun m => boolK (Nat.blt m (List.length l)) (nthK (flat actC l) (Nat.add (Nat.add (Nat.mul m 57) 50) 5) (fun v => eFz v (fun l_2 n_3 => fInt (Int.ofNat n_3) fun n_4 => fInt (wrapK .i64 (Int.add n n_4)) fun n => brec (fInt (Int.ofNat i) fun n => natOf n (fun m => boolK (Nat.blt m (List.length l)) (nthK (flat actC l) (Nat.add (Nat.mul m 57) 56) (fun v => eFz v (fun l_3 n => fInt (Int.ofNat n) fun n => brec (fInt (Int.ofNat i) fun n => natOf n (fun m => boolK (Nat.blt m (List.length l)) (nthK (flat actC l) (Nat.add (Nat.add (Nat.mul m 57) 1) 46) (fun v => eFz v (fun l_4 n => fInt (Int.ofNat n) fun n => fInt (Int.ofNat i) fun n_5 => natOf n_5 (fun m => boolK (Nat.blt m (List.length l)) (nthK (flat actC l) (Nat.add (Nat.add (Nat.mul m 57) 1) 47) (fun v => eFz v (fun l_5 n_6 => fInt (Int.ofNat n_6) fun n_7 => fInt (wrapK .i64 (Int.add n n_7)) fun n => brec (fInt (Int.ofNat i) fun n => fInt (wrapK .i64 (Int.add n (Int.ofNat 1))) fun n => fInt n fun n => k AExit.normal [AV.fz (flat actC l) (List.length l), AV.bool false, AV.int .i64 n] (mkH [])) (k AExit.ret [AV.bool true] (mkH [])) (ilt (Int.ofNat 20) n)) (Ans.err 6 38 3010)) (Ans.err 6 38 3010)) (Ans.err 6 35 3027)) (Ans.err 6 35 3027)) (Ans.err 6 31 3010)) (Ans.err 6 31 3010)) (Ans.err 6 28 3027)) (Ans.err 6 28 3027)) (k AExit.ret [AV.bool true] (mkH [])) (ilt (Int.ofNat 20) n)) (Ans.err 6 21 3010)) (Ans.err 6 21 3010)) (Ans.err 6 19 3027)) (Ans.err 6 19 3027)) (k AExit.ret [AV.bool true] (mkH [])) (ilt (Int.ofNat 300) n)) (Ans.err 6 12 3010)) (Ans.err 6 12 3010)) (Ans.err 6 9 3027)) (Ans.err 6 9 3027)) (Ans.err 6 5 3010)) (Ans.err 6 5 3010)) (Ans.err 6 2 3027)) (Ans.err 6 2 3027)) (ilt n (Int.ofNat 61))) (ilt n n_1) := by kernel_rfl

theorem long6e (l : List AS) (k : AV → H → Ans) :
    bodyF Try.prog (execH Try.prog .leaf [⟨6, 0, exSub fx6 (subC [1,0,1] (bodyC Try.f6)) (mkTm (tm6 l 0)) (mkH []) .normal (mkTm [(0, .fz (flat actC l) l.length), (2, .bool false)]) (mkH [])⟩] 1000) (Pos.ofNat 6) [] [] [.fz (flat actC l) l.length] (mkH []) k
    = guardK (fx6 = fx6 ∧ subC [1, 0, 1] (bodyC Try.f6) = subC [1, 0, 1] (bodyC Try.f6) ∧ Sub0 (mkTm (tm6 l 0)) (mkTm [(0, AV.fz (flat actC l) (List.length l)), (2, AV.bool false), (3, AV.int .i64 (Int.ofNat 0))]) ∧ mkH [] = mkH [] ∧ MkNil []) (fInt (Int.ofNat (List.length l)) fun n => brec (k (AV.bool false) (mkH [])) (k (AV.bool true) (mkH [])) (ilt (Int.ofNat 60) n)) (Ans.err 0 0 0) := by kernel_rfl

theorem long6r (l : List AS) (k : AV → H → Ans) :
    bodyF Try.prog (execH Try.prog .leaf [⟨6, 0, exSub fx6 (subC [1,0,1] (bodyC Try.f6)) (mkTm (tm6 l 0)) (mkH []) .ret (mkTm [(2, .bool true)]) (mkH [])⟩] 1000) (Pos.ofNat 6) [] [] [.fz (flat actC l) l.length] (mkH []) k
    = guardK (fx6 = fx6 ∧ subC [1, 0, 1] (bodyC Try.f6) = subC [1, 0, 1] (bodyC Try.f6) ∧ Sub0 (mkTm (tm6 l 0)) (mkTm [(0, AV.fz (flat actC l) (List.length l)), (2, AV.bool false), (3, AV.int .i64 (Int.ofNat 0))]) ∧ mkH [] = mkH [] ∧ MkNil []) (k (AV.bool true) (mkH [])) (Ans.err 0 0 0) := by kernel_rfl

/-- What the law's loop may want. -/
def LenOK (a : AS) : Prop := a.x.data.length ≤ 140737488351232 ∧ a.v.data.length ≤ 140737488351232

def Short (a : AS) : Prop := a.x.data.length + a.v.data.length ≤ 300 ∧ a.lots.length ≤ 20

theorem round6 {l : List AS} {i : Nat} {a : AS} (ha : l[i]? = some a) (hi : i < 61) (hL : LenOK a) :
    CodeOK Try.prog fx6 b6 (mkTm (tm6 l i)) (mkH []) [] .ret (mkTm [(2, .bool true)]) (mkH []) [] ∨ (CodeOK Try.prog fx6 b6 (mkTm (tm6 l i)) (mkH []) [] .normal (mkTm (tm6 l (i + 1))) (mkH []) [] ∧ Short a) := by
  have hil := (List.getElem?_eq_some_iff.1 ha).1
  have c1 : ilt (Int.ofNat i) (Int.ofNat l.length) = true := blt_true hil
  have c2 : ilt (Int.ofNat i) (Int.ofNat 61) = true := blt_true hi
  have c3 : Nat.blt i l.length = true := blt_true hil
  have n1 : ∀ (f : AV → Ans) (e : Ans), nthK (flat actC l) (Nat.add (Nat.add (Nat.mul i 57) 1) 45) f e = f (.fz (u8s a.x.data) a.x.data.length) := nth_act ha (j := 46) (by decide) (by kernel_rfl) rfl
  have n2 : ∀ (f : AV → Ans) (e : Ans), nthK (flat actC l) (Nat.add (Nat.add (Nat.mul i 57) 50) 5) f e = f (.fz (u8s a.v.data) a.v.data.length) := nth_act ha (j := 55) (by decide) (by kernel_rfl) rfl
  have n3 : ∀ (f : AV → Ans) (e : Ans), nthK (flat actC l) (Nat.add (Nat.mul i 57) 56) f e = f (.fz (ints a.lots) a.lots.length) := nth_act ha (j := 56) (by decide) (by kernel_rfl) rfl
  have n4 : ∀ (f : AV → Ans) (e : Ans), nthK (flat actC l) (Nat.add (Nat.add (Nat.mul i 57) 1) 46) f e = f (.fz a.x.ids a.x.idn) := nth_act ha (j := 47) (by decide) (by kernel_rfl) rfl
  have n5 : ∀ (f : AV → Ans) (e : Ans), nthK (flat actC l) (Nat.add (Nat.add (Nat.mul i 57) 1) 47) f e = f (.fz a.x.wl a.x.wn) := nth_act ha (j := 48) (by decide) (by kernel_rfl) rfl
  have w1 : wrapK .i64 (Int.add (Int.ofNat a.x.data.length) (Int.ofNat a.v.data.length)) = .ofNat (a.x.data.length + a.v.data.length) := wrap_add (by have := hL.1; have := hL.2; omega)
  have w2 : wrapK .i64 (Int.add (Int.ofNat i) (Int.ofNat 1)) = .ofNat (i + 1) := wrap_add (by omega)
  by_cases h1 : 300 < a.x.data.length + a.v.data.length
  · have d1 : ilt (Int.ofNat 300) (Int.ofNat (a.x.data.length + a.v.data.length)) = true := blt_true h1
    exact .inl (CodeOK.of_pick (l := [.bool true]) hmix .leaf .nil (N := 1000) [0, 2, 3] [2] [0, 2] fun k => (long6 l i k).trans (by
      simp only [fInt_eq, natOf_of, c1, c2, c3, n1, n2, eFz_at, boolK_true, brec_true, brec_false, w1, d1]))
  have d1 : ilt (Int.ofNat 300) (Int.ofNat (a.x.data.length + a.v.data.length)) = false := blt_false (by omega)
  by_cases h2 : 20 < a.lots.length
  · have d2 : ilt (Int.ofNat 20) (Int.ofNat a.lots.length) = true := blt_true h2
    exact .inl (CodeOK.of_pick (l := [.bool true]) hmix .leaf .nil (N := 1000) [0, 2, 3] [2] [0, 2] fun k => (long6 l i k).trans (by
      simp only [fInt_eq, natOf_of, c1, c2, c3, n1, n2, n3, eFz_at, boolK_true, brec_true, brec_false, w1, d1, d2]))
  have d2 : ilt (Int.ofNat 20) (Int.ofNat a.lots.length) = false := blt_false (by omega)
  cases d3 : ilt (Int.ofNat 20) (wrapK .i64 (Int.add (Int.ofNat a.x.idn) (Int.ofNat a.x.wn)))
  · refine .inr ⟨CodeOK.of_pick (l := [.fz (flat actC l) l.length, .bool false, .int .i64 (.ofNat (i + 1))]) hmix .leaf .nil (N := 1000) [0, 2, 3] [2] [0, 2] fun k => (long6 l i k).trans (by
      simp only [fInt_eq, natOf_of, c1, c2, c3, n1, n2, n3, n4, n5, eFz_at, boolK_true, brec_true, brec_false, w1, w2, d1, d2, d3]), by omega, by omega⟩
  · exact .inl (CodeOK.of_pick (l := [.bool true]) hmix .leaf .nil (N := 1000) [0, 2, 3] [2] [0, 2] fun k => (long6 l i k).trans (by
      simp only [fInt_eq, natOf_of, c1, c2, c3, n1, n2, n3, n4, n5, eFz_at, boolK_true, brec_true, brec_false, w1, d1, d2, d3]))

theorem stop6 {l : List AS} {i : Nat} (h : l.length ≤ i ∨ 61 ≤ i) : CodeOK Try.prog fx6 b6 (mkTm (tm6 l i)) (mkH []) [] (.exit 0) (mkTm [(0, .fz (flat actC l) l.length), (2, .bool false)]) (mkH []) [] :=
  CodeOK.of_pick (l := [.fz (flat actC l) l.length, .bool false]) hmix .leaf .nil (N := 1000) [0, 2, 3] [2] [0, 2] fun k => (long6 l i k).trans (by
    by_cases h1 : i < l.length
    · have c1 : ilt (Int.ofNat i) (Int.ofNat l.length) = true := blt_true h1
      have c2 : ilt (Int.ofNat i) (Int.ofNat 61) = false := blt_false (by omega)
      simp only [fInt_eq, c1, c2, brec_true, brec_false]
    · have c1 : ilt (Int.ofNat i) (Int.ofNat l.length) = false := blt_false (by omega)
      simp only [fInt_eq, c1, brec_true, brec_false])

theorem loop6 {l : List AS} (hL : ∀ a ∈ l, LenOK a) : ∀ (j i : Nat), 61 - i = j →
    (∀ ρ0 A0 w0, LoopR Try.prog ρ0 A0 w0 fx6 b6 (mkTm (tm6 l i)) (mkH []) .ret (mkTm [(2, .bool true)]) (mkH [])) ∨
    ((∀ ρ0 A0 w0, LoopR Try.prog ρ0 A0 w0 fx6 b6 (mkTm (tm6 l i)) (mkH []) (.exit 0) (mkTm [(0, .fz (flat actC l) l.length), (2, .bool false)]) (mkH [])) ∧ ∀ k a, i ≤ k → k < 61 → l[k]? = some a → Short a) := by
  intro j
  induction j with
  | zero => exact fun i hj => .inr ⟨fun _ _ _ => .stop (fun e => by cases e) (CodeR.of rfl (stop6 (.inr (by omega)))), fun k a h1 h2 => by omega⟩
  | succ j ih =>
    intro i hj
    by_cases hi : i < l.length
    · have ha : l[i]? = some l[i] := List.getElem?_eq_getElem hi
      rcases round6 ha (by omega) (hL _ (List.getElem_mem hi)) with R | ⟨R, hs⟩
      · exact .inl fun _ _ _ => .stop (fun e => by cases e) (CodeR.of rfl R)
      · rcases ih (i + 1) (by omega) with L | ⟨L, h⟩
        · exact .inl fun _ _ _ => .next (CodeR.of rfl R) (L _ _ _)
        · refine .inr ⟨fun _ _ _ => .next (CodeR.of rfl R) (L _ _ _), fun k a h1 h2 hk => ?_⟩
          by_cases e : k = i
          · subst e; rw [ha] at hk; cases hk; exact hs
          · exact h k a (by omega) h2 hk
    · exact .inr ⟨fun _ _ _ => .stop (fun e => by cases e) (CodeR.of rfl (stop6 (.inl (by omega)))), fun k a h1 _ hk => by
        have := (List.getElem?_eq_some_iff.1 hk).1; omega⟩

theorem long_ok {l : List AS} (hL : ∀ a ∈ l, LenOK a) : FunOK Try.prog 6 [.fz (flat actC l) l.length] (mkH []) (.bool true) (mkH []) ∨ (FunOK Try.prog 6 [.fz (flat actC l) l.length] (mkH []) (.bool false) (mkH []) ∧ l.length ≤ 60 ∧ ∀ a ∈ l, Short a) := by
  rcases loop6 hL 61 0 rfl with L | ⟨L, h⟩
  · have hB : CodeOK Try.prog fx6 (subC [1,0,1] (bodyC Try.f6)) (mkTm (tm6 l 0)) (mkH []) [] .ret (mkTm [(2, .bool true)]) (mkH []) [] := by
      rw [b6_eq]
      exact CodeOK.of_base rfl fun ρ0 w0 _ => .block_other (fun e => by cases e) (L ρ0 _ w0).code
    exact .inl (FunOK.of_runH hmix .leaf (HolesOK.one (exSub_ok hB)) (N := 1000) (f := 6) fun k => (long6r l k).trans (by
      refine (guardK_pos (by repeat' first | trivial | rfl | exact LTm.nil | refine LTm.cons (by kernel_rfl) ?_ | refine Sub0.of_list ?_ | constructor) _ _).trans ?_
      try exact rfl))
  · have hB : CodeOK Try.prog fx6 (subC [1,0,1] (bodyC Try.f6)) (mkTm (tm6 l 0)) (mkH []) [] .normal (mkTm [(0, .fz (flat actC l) l.length), (2, .bool false)]) (mkH []) [] := by
      rw [b6_eq]
      exact CodeOK.of_base rfl fun ρ0 w0 _ => .block (L ρ0 _ w0).code
    by_cases hl : 60 < l.length
    · have d : ilt (Int.ofNat 60) (Int.ofNat l.length) = true := blt_true hl
      exact .inl (FunOK.of_runH hmix .leaf (HolesOK.one (exSub_ok hB)) (N := 1000) (f := 6) fun k => (long6e l k).trans (by
        refine (guardK_pos (by repeat' first | trivial | rfl | exact LTm.nil | refine LTm.cons (by kernel_rfl) ?_ | refine Sub0.of_list ?_ | constructor) _ _).trans ?_
        simp only [fInt_eq, d, brec_true]))
    · have d : ilt (Int.ofNat 60) (Int.ofNat l.length) = false := blt_false (by omega)
      refine .inr ⟨FunOK.of_runH hmix .leaf (HolesOK.one (exSub_ok hB)) (N := 1000) (f := 6) fun k => (long6e l k).trans (by
        refine (guardK_pos (by repeat' first | trivial | rfl | exact LTm.nil | refine LTm.cons (by kernel_rfl) ?_ | refine Sub0.of_list ?_ | constructor) _ _).trans ?_
        simp only [fInt_eq, d, brec_false]), by omega, fun a ha => ?_⟩
      obtain ⟨k, hk, e⟩ := List.getElem_of_mem ha
      exact h k a (by omega) (by omega) (by rw [List.getElem?_eq_getElem hk, e])

theorem makeT (b : BS) (k : AV → H → Ans) :
    bodyF Try.prog (execH Try.prog (mkO [(17, orcClone)]) [] 1000) (Pos.ofNat 5) [] [] [.int .i64 b.set, .int .i64 b.me, .int .i64 b.nodes, .agg [.int .i64 b.c1, .int .i64 b.c2, .int .i64 b.c3], .fz (u8s b.data) b.data.length, .int .i64 b.retry] (mkH []) k
    = fInt b.set fun n => fInt n fun n_1 => brec (fInt n fun n => brec (fInt b.c2 fun n => fInt n fun n_2 => brec (fInt n fun n => brec (fInt b.c3 fun n => fInt n fun n_3 => brec (fInt n fun n => brec (fInt b.retry fun n => fInt n fun n_4 => brec (fInt n fun n => brec (fInt b.nodes fun n => brec (fInt b.nodes fun n => brec (fInt b.me fun n => brec (fInt b.me fun n => fInt b.nodes fun n_5 => brec (fInt b.c1 fun n => fInt b.me fun n_6 => brec (fInt (Int.ofNat (List.length b.data)) fun n => brec (fInt b.set fun n => fInt b.me fun n_7 => fInt b.nodes fun n_8 => fInt b.retry fun n_9 => boolK (Nat.beq (List.length (u8s b.data)) (List.length b.data)) (boolK (Nat.blt (List.length b.data) 400000) (boolK (Pend.chk (Pend.mk 8 fun B => match (motive := Option HObj → Bool) PT.get (H.t B) (H.next (H.mk (Pos.ofNat 1) (PT.node PT.leaf (some (HObj.cells [AV.int .i64 b.c1, AV.int .i64 b.c2, AV.int .i64 b.c3] (Prod.fst (Prod.snd ([AV.int .i64 b.c1, AV.int .i64 b.c2, AV.int .i64 b.c3], (fun x => TypeInfo.size x) (Tables.types (Program.toTables Try.prog))[OfNat.ofNat 23], fun p => AV.ptr p (OfNat.ofNat 0)))) false)) PT.leaf) (H.ng (mkH [])) (H.st (mkH [])))) with | some (HObj.cells ds e r') => sames ds (Prod.snd (Prod.fst (OfNat.ofNat 0, Operand.tmp (OfNat.ofNat 63)), AV.int .i64 n) :: Prod.snd (Prod.fst (OfNat.ofNat 1, Operand.tmp (OfNat.ofNat 64)), AV.int .i64 n_7) :: Prod.snd (Prod.fst (OfNat.ofNat 2, Operand.tmp (OfNat.ofNat 65)), AV.int .i64 n_8) :: AV.int .i64 b.c1 :: AV.int .i64 b.c2 :: AV.int .i64 b.c3 :: Prod.snd (Prod.fst (OfNat.ofNat 4, Operand.tmp (OfNat.ofNat 68)), AV.fz (u8s b.data) (List.length b.data)) :: Prod.snd (Prod.fst (OfNat.ofNat 5, Operand.tmp (OfNat.ofNat 69)), AV.int .i64 n_9) :: AV.int .i64 (OfNat.ofNat 0) :: AV.int .i64 (OfNat.ofNat 0) :: AV.int .i64 (OfNat.ofNat 0) :: AV.int .i64 (OfNat.ofNat 0) :: AV.int .i64 (OfNat.ofNat 0) :: AV.int .i64 (OfNat.ofNat 0) :: AV.int .i64 (OfNat.ofNat 0) :: yl (fun _ => false) 65 0 [AV.nils, AV.nils, AV.int .i64 (OfNat.ofNat 0), AV.int .i64 (OfNat.ofNat 0)]) && (Nat.beq e ((fun x => TypeInfo.size x) (Tables.types (Program.toTables Try.prog))[OfNat.ofNat 68]) && !r') | x => false) (mkH [some (HObj.cells [AV.int .i64 b.c1, AV.int .i64 b.c2, AV.int .i64 b.c3] 3 false), some (HObj.cells (AV.int .i64 n :: AV.int .i64 n_7 :: AV.int .i64 n_8 :: AV.int .i64 b.c1 :: AV.int .i64 b.c2 :: AV.int .i64 b.c3 :: AV.fz (u8s b.data) (List.length b.data) :: AV.int .i64 n_9 :: AV.int .i64 (Int.ofNat 0) :: AV.int .i64 (Int.ofNat 0) :: AV.int .i64 (Int.ofNat 0) :: AV.int .i64 (Int.ofNat 0) :: AV.int .i64 (Int.ofNat 0) :: AV.int .i64 (Int.ofNat 0) :: AV.int .i64 (Int.ofNat 0) :: yl (fun _ => false) 65 0 [AV.nils, AV.nils, AV.int .i64 (Int.ofNat 0), AV.int .i64 (Int.ofNat 0)]) 84 false)])) (boolK (boolK (ieq b.c1 b.c1) (boolK (ieq b.c2 b.c2) (boolK (ieq b.c3 b.c3) true false) false) false) (k (AV.tup [AV.ptr (.ofNat 1) 0, AV.int .i64 (Int.ofNat 0)]) (mkH [some (HObj.cells [AV.int .i64 b.c1, AV.int .i64 b.c2, AV.int .i64 b.c3] 3 false), some (HObj.cells (AV.int .i64 n :: AV.int .i64 n_7 :: AV.int .i64 n_8 :: AV.int .i64 b.c1 :: AV.int .i64 b.c2 :: AV.int .i64 b.c3 :: AV.fz (u8s b.data) (List.length b.data) :: AV.int .i64 n_9 :: AV.int .i64 (Int.ofNat 0) :: AV.int .i64 (Int.ofNat 0) :: AV.int .i64 (Int.ofNat 0) :: AV.int .i64 (Int.ofNat 0) :: AV.int .i64 (Int.ofNat 0) :: AV.int .i64 (Int.ofNat 0) :: AV.int .i64 (Int.ofNat 0) :: yl (fun _ => false) 65 0 [AV.nils, AV.nils, AV.int .i64 (Int.ofNat 0), AV.int .i64 (Int.ofNat 0)]) 84 false)])) (Ans.err 5 0 3000)) (Ans.err 5 0 3000)) (Ans.err 82 0 0)) (Ans.err 82 1 0)) (k (AV.tup [AV.nilp, AV.int .i64 (Int.ofNat 2)]) (mkH [some (HObj.cells [AV.int .i64 b.c1, AV.int .i64 b.c2, AV.int .i64 b.c3] 3 false)])) (ilt (Int.ofNat 3000) n)) (k (AV.tup [AV.nilp, AV.int .i64 (Int.ofNat 2)]) (mkH [some (HObj.cells [AV.int .i64 b.c1, AV.int .i64 b.c2, AV.int .i64 b.c3] 3 false)])) !ieq n n_6) (k (AV.tup [AV.nilp, AV.int .i64 (Int.ofNat 2)]) (mkH [some (HObj.cells [AV.int .i64 b.c1, AV.int .i64 b.c2, AV.int .i64 b.c3] 3 false)])) (ilt n_5 n)) (k (AV.tup [AV.nilp, AV.int .i64 (Int.ofNat 2)]) (mkH [some (HObj.cells [AV.int .i64 b.c1, AV.int .i64 b.c2, AV.int .i64 b.c3] 3 false)])) (ilt n (Int.ofNat 1))) (k (AV.tup [AV.nilp, AV.int .i64 (Int.ofNat 2)]) (mkH [some (HObj.cells [AV.int .i64 b.c1, AV.int .i64 b.c2, AV.int .i64 b.c3] 3 false)])) (ilt (Int.ofNat 64) n)) (k (AV.tup [AV.nilp, AV.int .i64 (Int.ofNat 2)]) (mkH [some (HObj.cells [AV.int .i64 b.c1, AV.int .i64 b.c2, AV.int .i64 b.c3] 3 false)])) (ilt n (Int.ofNat 1))) (k (AV.tup [AV.nilp, AV.int .i64 (Int.ofNat 2)]) (mkH [some (HObj.cells [AV.int .i64 b.c1, AV.int .i64 b.c2, AV.int .i64 b.c3] 3 false)])) (ilt (Int.ofNat 2147483647) n)) (k (AV.tup [AV.nilp, AV.int .i64 (Int.ofNat 2)]) (mkH [some (HObj.cells [AV.int .i64 b.c1, AV.int .i64 b.c2, AV.int .i64 b.c3] 3 false)])) (ilt n_4 (Int.ofNat 1))) (k (AV.tup [AV.nilp, AV.int .i64 (Int.ofNat 2)]) (mkH [some (HObj.cells [AV.int .i64 b.c1, AV.int .i64 b.c2, AV.int .i64 b.c3] 3 false)])) (ilt (Int.ofNat 2147483647) n)) (k (AV.tup [AV.nilp, AV.int .i64 (Int.ofNat 2)]) (mkH [some (HObj.cells [AV.int .i64 b.c1, AV.int .i64 b.c2, AV.int .i64 b.c3] 3 false)])) (ilt n_3 (Int.ofNat 1))) (k (AV.tup [AV.nilp, AV.int .i64 (Int.ofNat 2)]) (mkH [some (HObj.cells [AV.int .i64 b.c1, AV.int .i64 b.c2, AV.int .i64 b.c3] 3 false)])) (ilt (Int.ofNat 2147483647) n)) (k (AV.tup [AV.nilp, AV.int .i64 (Int.ofNat 2)]) (mkH [some (HObj.cells [AV.int .i64 b.c1, AV.int .i64 b.c2, AV.int .i64 b.c3] 3 false)])) (ilt n_2 (Int.ofNat 1))) (k (AV.tup [AV.nilp, AV.int .i64 (Int.ofNat 2)]) (mkH [some (HObj.cells [AV.int .i64 b.c1, AV.int .i64 b.c2, AV.int .i64 b.c3] 3 false)])) (ilt (Int.ofNat 2147483647) n)) (k (AV.tup [AV.nilp, AV.int .i64 (Int.ofNat 2)]) (mkH [some (HObj.cells [AV.int .i64 b.c1, AV.int .i64 b.c2, AV.int .i64 b.c3] 3 false)])) (ilt n_1 (Int.ofNat 1)) := by kernel_rfl

theorem sames_nil : sames [] [] = true := rfl

theorem sames_cons {a : AV} {l : List AV} (h : same1 a a = true) (hl : sames l l = true) : sames (a :: l) (a :: l) = true := by
  show (match same1 a a with | true => sames l l | false => false) = true
  rw [h]; exact hl

theorem same1_int (k : IntKind) (n : Int) : same1 (.int k n) (.int k n) = true := by
  show ((k == k) && ieq n n) = true
  rw [ieq_self]; simp

theorem same1_bool (b : Bool) : same1 (.bool b) (.bool b) = true := by cases b <;> rfl

theorem same1_fz (l : List AV) (n : Nat) : same1 (.fz l n) (.fz l n) = true := by
  show (ceq l l && Nat.beq n n) = true
  rw [ceq_self, AM.beq_true rfl]; rfl

theorem same1_nils : same1 .nils .nils = true := rfl

theorem sames_yl (ys : Nat → Bool) {r : List AV} (h : sames r r = true) : ∀ n k : Nat, sames (yl ys n k r) (yl ys n k r) = true
  | 0, _ => h
  | n + 1, k => sames_cons (same1_bool _) (sames_yl ys h n (k + 1))

theorem boolK_pos {c : Bool} (h : c = true) (a b : Ans) : boolK c a b = a := by rw [h]; rfl

/-- A proposer that was just made. -/
def s0 (b : BS) (m N : Nat) : PS := ⟨b.set, m, N, b.c1, b.c2, b.c3, b.data, b.retry, 0, 0, 0, 0, 0, 0, 0, fun _ => false, [], [], 0, 0⟩

def newArgs (b : BS) : List AV := [.int .i64 b.set, .int .i64 b.me, .int .i64 b.nodes, .agg [.int .i64 b.c1, .int .i64 b.c2, .int .i64 b.c3], .fz (u8s b.data) b.data.length, .int .i64 b.retry]

def newL (b : BS) (m N : Nat) : List AV := .int .i64 b.set :: .int .i64 (.ofNat m) :: .int .i64 (.ofNat N) :: .int .i64 b.c1 :: .int .i64 b.c2 :: .int .i64 b.c3 :: .fz (u8s b.data) b.data.length :: .int .i64 b.retry :: .int .i64 (.ofNat 0) :: .int .i64 (.ofNat 0) :: .int .i64 (.ofNat 0) :: .int .i64 (.ofNat 0) :: .int .i64 (.ofNat 0) :: .int .i64 (.ofNat 0) :: .int .i64 (.ofNat 0) :: yl (fun _ => false) 65 0 [.nils, .nils, .int .i64 (.ofNat 0), .int .i64 (.ofNat 0)]

theorem wks_yl (ys : Nat → Bool) {r r' : List AV} (h : Wks r r') : ∀ n k : Nat, Wks (yl ys n k r) (yl ys n k r')
  | 0, _ => h
  | n + 1, k => .cons (.refl _) (wks_yl ys h n (k + 1))

theorem new_wk (b : BS) (m N : Nat) : Wks (newL b m N) (propC (s0 b m N)) := by
  unfold newL propC
  iterate 15 refine .cons (.refl _) ?_
  exact wks_yl _ (.cons .nils (.cons .nils (.refl _))) _ _

/-- 'New'. -/
theorem make_ok (b : BS) : FunOK Try.prog 5 (newArgs b) (mkH []) (.tup [.nilp, .int .i64 2]) (mkH []) ∨
    ∃ m N : Nat, b.me = m ∧ b.nodes = N ∧ 1 ≤ m ∧ m ≤ N ∧ N ≤ 64 ∧ b.data.length ≤ 3000 ∧ FunOK Try.prog 5 (newArgs b) (mkH []) (.tup [.ptr (.ofNat 0) 0, .int .i64 0]) (mkH [some (propO (s0 b m N))]) := by
  have no : ∀ {A' : H}, FunOK Try.prog 5 (newArgs b) (mkH []) (.tup [.nilp, .int .i64 2]) A' → FunOK Try.prog 5 (newArgs b) (mkH []) (.tup [.nilp, .int .i64 2]) (mkH []) := fun R => R.bare fun _ => rfl
  by_cases h0 : b.set < 1
  · have c : ilt b.set (Int.ofNat 1) = true := ilt_true h0
    exact .inl (no (FunOK.of_runH hmix (OrOK.cons good_clone .nil) .nil (N := 1000) (f := 5) fun k => (makeT b k).trans (by
      simp only [fInt_eq, c, brec_true, brec_false, Bool.not_true, Bool.not_false]
      try exact rfl)))
  have d0 : ilt b.set (Int.ofNat 1) = false := ilt_false (Int.not_lt.1 h0)
  by_cases h1 : 2147483647 < b.set
  · have c : ilt (Int.ofNat 2147483647) b.set = true := ilt_true h1
    exact .inl (no (FunOK.of_runH hmix (OrOK.cons good_clone .nil) .nil (N := 1000) (f := 5) fun k => (makeT b k).trans (by
      simp only [fInt_eq, d0, c, brec_true, brec_false, Bool.not_true, Bool.not_false]
      try exact rfl)))
  have d1 : ilt (Int.ofNat 2147483647) b.set = false := ilt_false (Int.not_lt.1 h1)
  by_cases h2 : b.c2 < 1
  · have c : ilt b.c2 (Int.ofNat 1) = true := ilt_true h2
    exact .inl (no (FunOK.of_runH hmix (OrOK.cons good_clone .nil) .nil (N := 1000) (f := 5) fun k => (makeT b k).trans (by
      simp only [fInt_eq, d0, d1, c, brec_true, brec_false, Bool.not_true, Bool.not_false]
      try exact rfl)))
  have d2 : ilt b.c2 (Int.ofNat 1) = false := ilt_false (Int.not_lt.1 h2)
  by_cases h3 : 2147483647 < b.c2
  · have c : ilt (Int.ofNat 2147483647) b.c2 = true := ilt_true h3
    exact .inl (no (FunOK.of_runH hmix (OrOK.cons good_clone .nil) .nil (N := 1000) (f := 5) fun k => (makeT b k).trans (by
      simp only [fInt_eq, d0, d1, d2, c, brec_true, brec_false, Bool.not_true, Bool.not_false]
      try exact rfl)))
  have d3 : ilt (Int.ofNat 2147483647) b.c2 = false := ilt_false (Int.not_lt.1 h3)
  by_cases h4 : b.c3 < 1
  · have c : ilt b.c3 (Int.ofNat 1) = true := ilt_true h4
    exact .inl (no (FunOK.of_runH hmix (OrOK.cons good_clone .nil) .nil (N := 1000) (f := 5) fun k => (makeT b k).trans (by
      simp only [fInt_eq, d0, d1, d2, d3, c, brec_true, brec_false, Bool.not_true, Bool.not_false]
      try exact rfl)))
  have d4 : ilt b.c3 (Int.ofNat 1) = false := ilt_false (Int.not_lt.1 h4)
  by_cases h5 : 2147483647 < b.c3
  · have c : ilt (Int.ofNat 2147483647) b.c3 = true := ilt_true h5
    exact .inl (no (FunOK.of_runH hmix (OrOK.cons good_clone .nil) .nil (N := 1000) (f := 5) fun k => (makeT b k).trans (by
      simp only [fInt_eq, d0, d1, d2, d3, d4, c, brec_true, brec_false, Bool.not_true, Bool.not_false]
      try exact rfl)))
  have d5 : ilt (Int.ofNat 2147483647) b.c3 = false := ilt_false (Int.not_lt.1 h5)
  by_cases h6 : b.retry < 1
  · have c : ilt b.retry (Int.ofNat 1) = true := ilt_true h6
    exact .inl (no (FunOK.of_runH hmix (OrOK.cons good_clone .nil) .nil (N := 1000) (f := 5) fun k => (makeT b k).trans (by
      simp only [fInt_eq, d0, d1, d2, d3, d4, d5, c, brec_true, brec_false, Bool.not_true, Bool.not_false]
      try exact rfl)))
  have d6 : ilt b.retry (Int.ofNat 1) = false := ilt_false (Int.not_lt.1 h6)
  by_cases h7 : 2147483647 < b.retry
  · have c : ilt (Int.ofNat 2147483647) b.retry = true := ilt_true h7
    exact .inl (no (FunOK.of_runH hmix (OrOK.cons good_clone .nil) .nil (N := 1000) (f := 5) fun k => (makeT b k).trans (by
      simp only [fInt_eq, d0, d1, d2, d3, d4, d5, d6, c, brec_true, brec_false, Bool.not_true, Bool.not_false]
      try exact rfl)))
  have d7 : ilt (Int.ofNat 2147483647) b.retry = false := ilt_false (Int.not_lt.1 h7)
  by_cases h8 : b.nodes < 1
  · have c : ilt b.nodes (Int.ofNat 1) = true := ilt_true h8
    exact .inl (no (FunOK.of_runH hmix (OrOK.cons good_clone .nil) .nil (N := 1000) (f := 5) fun k => (makeT b k).trans (by
      simp only [fInt_eq, d0, d1, d2, d3, d4, d5, d6, d7, c, brec_true, brec_false, Bool.not_true, Bool.not_false]
      try exact rfl)))
  have d8 : ilt b.nodes (Int.ofNat 1) = false := ilt_false (Int.not_lt.1 h8)
  by_cases h9 : 64 < b.nodes
  · have c : ilt (Int.ofNat 64) b.nodes = true := ilt_true h9
    exact .inl (no (FunOK.of_runH hmix (OrOK.cons good_clone .nil) .nil (N := 1000) (f := 5) fun k => (makeT b k).trans (by
      simp only [fInt_eq, d0, d1, d2, d3, d4, d5, d6, d7, d8, c, brec_true, brec_false, Bool.not_true, Bool.not_false]
      try exact rfl)))
  have d9 : ilt (Int.ofNat 64) b.nodes = false := ilt_false (Int.not_lt.1 h9)
  by_cases h10 : b.me < 1
  · have c : ilt b.me (Int.ofNat 1) = true := ilt_true h10
    exact .inl (no (FunOK.of_runH hmix (OrOK.cons good_clone .nil) .nil (N := 1000) (f := 5) fun k => (makeT b k).trans (by
      simp only [fInt_eq, d0, d1, d2, d3, d4, d5, d6, d7, d8, d9, c, brec_true, brec_false, Bool.not_true, Bool.not_false]
      try exact rfl)))
  have d10 : ilt b.me (Int.ofNat 1) = false := ilt_false (Int.not_lt.1 h10)
  by_cases h11 : b.nodes < b.me
  · have c : ilt b.nodes b.me = true := ilt_true h11
    exact .inl (no (FunOK.of_runH hmix (OrOK.cons good_clone .nil) .nil (N := 1000) (f := 5) fun k => (makeT b k).trans (by
      simp only [fInt_eq, d0, d1, d2, d3, d4, d5, d6, d7, d8, d9, d10, c, brec_true, brec_false, Bool.not_true, Bool.not_false]
      try exact rfl)))
  have d11 : ilt b.nodes b.me = false := ilt_false (Int.not_lt.1 h11)
  by_cases h12 : b.c1 = b.me
  case neg =>
    have c : ieq b.c1 b.me = false := ieq_false h12
    exact .inl (no (FunOK.of_runH hmix (OrOK.cons good_clone .nil) .nil (N := 1000) (f := 5) fun k => (makeT b k).trans (by
      simp only [fInt_eq, d0, d1, d2, d3, d4, d5, d6, d7, d8, d9, d10, d11, c, brec_true, brec_false, Bool.not_true, Bool.not_false]
      try exact rfl)))
  have d12 : ieq b.c1 b.me = true := ieq_true h12
  by_cases h13 : 3000 < b.data.length
  · have c : ilt (Int.ofNat 3000) (Int.ofNat b.data.length) = true := blt_true h13
    exact .inl (no (FunOK.of_runH hmix (OrOK.cons good_clone .nil) .nil (N := 1000) (f := 5) fun k => (makeT b k).trans (by
      simp only [fInt_eq, d0, d1, d2, d3, d4, d5, d6, d7, d8, d9, d10, d11, d12, c, brec_true, brec_false, Bool.not_true, Bool.not_false]
      try exact rfl)))
  have d13 : ilt (Int.ofNat 3000) (Int.ofNat b.data.length) = false := blt_false (by omega)
  obtain ⟨m, hm⟩ := Int.eq_ofNat_of_zero_le (show 0 ≤ b.me by omega)
  obtain ⟨N, hN⟩ := Int.eq_ofNat_of_zero_le (show 0 ≤ b.nodes by omega)
  refine .inr ⟨m, N, hm, hN, by omega, by omega, by omega, by omega, ?_⟩
  have hv4 : Nat.beq (u8s b.data).length b.data.length = true := AM.beq_true (u8s_len _)
  have hv5 : Nat.blt b.data.length 400000 = true := blt_true (by omega)
  have hm' : b.me = Int.ofNat m := hm
  have hN' : b.nodes = Int.ofNat N := hN
  have hs : sames (newL b m N) (newL b m N) = true := by
    unfold newL
    iterate 6 refine sames_cons (same1_int _ _) ?_
    refine sames_cons (same1_fz _ _) ?_
    iterate 8 refine sames_cons (same1_int _ _) ?_
    exact sames_yl _ (sames_cons same1_nils (sames_cons same1_nils (sames_cons (same1_int _ _) (sames_cons (same1_int _ _) sames_nil)))) _ _
  have R : FunOK Try.prog 5 (newArgs b) (mkH []) (.tup [.ptr (.ofNat 1) 0, .int .i64 (.ofNat 0)]) (mkH [some (.cells [.int .i64 b.c1, .int .i64 b.c2, .int .i64 b.c3] 3 false), some (.cells (newL b m N) 84 false)]) := FunOK.of_runH hmix (OrOK.cons good_clone .nil) .nil (N := 1000) (f := 5) fun k => (makeT b k).trans (by
    simp only [fInt_eq, d0, d1, d2, d3, d4, d5, d6, d7, d8, d9, d10, d11, d12, d13, brec_true, brec_false, Bool.not_true, Bool.not_false, hv4, hv5, boolK_true, ieq_self]
    rw [hm', hN']
    refine (boolK_pos (by show (sames (newL b m N) (newL b m N) && _) = true; rw [hs]; rfl) _ _).trans ?_
    try exact rfl)
  have R2 := R.wk (.refl _) (.same (.cells (new_wk b m N) .nil))
  refine FunOK.sel (τ := seat [1] 2) R2 ?_ rfl
  rw [mkH_next]
  refine Sel.of_listN (n := 0) (N := 2) (B := [some (propO (s0 b m N))]) (t := [1]) rfl rfl ?_ (by show [1].Nodup; decide) trivial
  exact .some rfl (prop_ren _ _).symm .nil

end Pro
