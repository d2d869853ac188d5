/-
  THE MACHINE 'AM': WHAT IS KNOWN OF A CALL, OR OF A LOOP, WHEREVER WHAT IT LOOKS AT LIES: an answer that asks of the heap for those places alone, and turns those alone.
-/
import Derived.Test.YtcjilddpkekcgaaAmSym5
namespace Go.AM
variable {P : Program}

/-- These objects lie at these places. -/
def At (t : PT HObj) : List (Nat × HObj) → Prop
  | [] => True
  | x :: l => t.get (.ofNat x.1) = some x.2 ∧ At t l
theorem At.get {t : PT HObj} : ∀ {l : List (Nat × HObj)}, At t l → ∀ x ∈ l, t.get (.ofNat x.1) = some x.2
  | _ :: _, h, x, hx => by
    rcases List.mem_cons.1 hx with rfl | hx
    · exact h.1
    · exact At.get h.2 x hx
/-- Objects are put at places, or taken from there. -/
noncomputable def updT : List (Nat × Option HObj) → PT HObj → PT HObj
  | [], t => t
  | x :: l, t => updT l (t.put x.2 (.ofNat x.1))
theorem updT_ne : ∀ {l : List (Nat × Option HObj)} {t : PT HObj} {q : Pos}, (∀ x ∈ l, q ≠ .ofNat x.1) → (updT l t).get q = t.get q
  | [], _, _, _ => rfl
  | x :: l, t, q, h => by
    show (updT l (t.put x.2 (.ofNat x.1))).get q = _
    rw [updT_ne (fun y hy => h y (by simp [hy])), PT.get_put, if_neg (h x (by simp))]
theorem updT_some : ∀ {l : List (Nat × Option HObj)} {t : PT HObj} {q : Pos} {o : HObj}, (updT l t).get q = some o → (∃ x ∈ l, q = .ofNat x.1 ∧ x.2 = some o) ∨ (t.get q = some o ∧ ∀ x ∈ l, q ≠ .ofNat x.1)
  | [], _, _, _, h => .inr ⟨h, fun x hx => by cases hx⟩
  | x :: l, t, q, o, h => by
    rcases updT_some (l := l) (t := t.put x.2 (.ofNat x.1)) h with ⟨y, hy, h1⟩ | ⟨h1, h2⟩
    · exact .inl ⟨y, by simp [hy], h1⟩
    · rw [PT.get_put] at h1
      by_cases hq : q = .ofNat x.1
      · rw [if_pos hq] at h1; exact .inl ⟨x, by simp, hq, h1⟩
      · rw [if_neg hq] at h1
        refine .inr ⟨h1, fun y hy => ?_⟩
        rcases List.mem_cons.1 hy with rfl | hy
        · exact hq
        · exact h2 y hy

/-- The heap then: these places turned, these objects new. -/
noncomputable def H.upd (A : H) (N : Nat) (post : List (Nat × Option HObj)) (news : HL) : H := ⟨.ofNat (N + news.length), mkT news (.ofNat N) (updT post A.t), A.ng, A.st⟩

/-- Of a small heap: what lies where, what comes there, what is new. -/
def preL (σ : Pos → Pos) : HL → List Nat → List (Nat × HObj)
  | some o :: L, i :: s => (i, o.ren σ) :: preL σ L s
  | none :: L, _ :: s => preL σ L s
  | _, _ => []
def postL (σ : Pos → Pos) : HL → HL → List Nat → List (Nat × Option HObj)
  | some _ :: L, x :: F, i :: s => (i, x.map (HObj.ren σ)) :: postL σ L F s
  | none :: L, _ :: F, _ :: s => postL σ L F s
  | _, _, _ => []
def newsL (σ : Pos → Pos) (n : Nat) (F : HL) : HL := (F.drop n).map fun o => o.map (HObj.ren σ)

theorem preL_mem (σ : Pos → Pos) : ∀ {L : HL} {s : List Nat} {i j : Nat} {o : HObj}, L[i]? = some (some o) → s[i]? = some j → (j, o.ren σ) ∈ preL σ L s
  | [], _, i, _, _, h, _ => by simp at h
  | _ :: _, [], i, _, _, _, h => by simp at h
  | none :: L, _ :: s, 0, _, _, h, _ => by simp at h
  | none :: L, _ :: s, i + 1, j, o, h, h' => by show _ ∈ preL σ L s; exact preL_mem σ (by simpa using h) (by simpa using h')
  | some x :: L, a :: s, 0, _, _, h, h' => by simp at h h'; subst h h'; simp [preL]
  | some x :: L, a :: s, i + 1, j, o, h, h' => by simp only [preL]; exact List.mem_cons_of_mem _ (preL_mem σ (by simpa using h) (by simpa using h'))
theorem postL_mem (σ : Pos → Pos) : ∀ {L F : HL} {s : List Nat} {x : Nat × Option HObj}, x ∈ postL σ L F s → ∃ (i : Nat) (o : HObj) (y : Option HObj), L[i]? = some (some o) ∧ F[i]? = some y ∧ s[i]? = some x.1 ∧ x.2 = y.map (HObj.ren σ)
  | [], _, _, _, h => by simp [postL] at h
  | some a :: L, [], _, _, h => by simp [postL] at h
  | none :: L, [], _, _, h => by simp [postL] at h
  | some a :: L, _ :: F, [], _, h => by simp [postL] at h
  | none :: L, _ :: F, [], _, h => by simp [postL] at h
  | none :: L, b :: F, c :: s, x, h => by
    obtain ⟨i, o, y, h1, h2, h3, h4⟩ := postL_mem σ (L := L) (F := F) (s := s) (show x ∈ postL σ L F s from h)
    exact ⟨i + 1, o, y, by simpa using h1, by simpa using h2, by simpa using h3, h4⟩
  | some a :: L, b :: F, c :: s, x, h => by
    rcases List.mem_cons.1 (show x ∈ (c, b.map (HObj.ren σ)) :: postL σ L F s from h) with rfl | h
    · exact ⟨0, a, b, rfl, rfl, rfl, rfl⟩
    · obtain ⟨i, o, y, h1, h2, h3, h4⟩ := postL_mem σ (L := L) (F := F) (s := s) h
      exact ⟨i + 1, o, y, by simpa using h1, by simpa using h2, by simpa using h3, h4⟩
theorem postL_has (σ : Pos → Pos) : ∀ {L F : HL} {s : List Nat} {i j : Nat} {o : HObj}, L.length ≤ F.length → L[i]? = some (some o) → s[i]? = some j → ∃ y : Option HObj, F[i]? = some y ∧ (j, y.map (HObj.ren σ)) ∈ postL σ L F s
  | [], _, _, i, _, _, _, h, _ => by simp at h
  | _ :: _, [], _, _, _, _, h, _, _ => by simp at h
  | _ :: _, _ :: _, [], i, _, _, _, _, h => by simp at h
  | none :: L, _ :: F, _ :: s, 0, _, _, _, h, _ => by simp at h
  | none :: L, _ :: F, _ :: s, i + 1, j, o, hl, h, h' => by
    obtain ⟨y, h1, h2⟩ := postL_has σ (L := L) (F := F) (s := s) (i := i) (by simpa using hl) (by simpa using h) (by simpa using h')
    exact ⟨y, by simpa using h1, h2⟩
  | some x :: L, b :: F, a :: s, 0, j, o, _, _, h' => by
    simp at h'; subst h'
    exact ⟨b, rfl, by simp [postL]⟩
  | some x :: L, b :: F, a :: s, i + 1, j, o, hl, h, h' => by
    obtain ⟨y, h1, h2⟩ := postL_has σ (L := L) (F := F) (s := s) (i := i) (by simpa using hl) (by simpa using h) (by simpa using h')
    exact ⟨y, by simpa using h1, List.mem_cons_of_mem _ h2⟩

section
variable {L0 F : HL} {s : List Nat} {N : Nat} {A : H}
theorem Emb.of_at (hl : s.length = L0.length) (hA : At A.t (preL (seat s N) L0 s)) (hN : A.next = .ofNat N) (hn : (liveS L0 s).Nodup) (hb : ∀ i ∈ s, i < N) : Emb (seat s N) (mkH L0) A where
  at_ p o h := by
    have h' := mkH_some h
    have hp : p.idx < s.length := by rw [hl]; exact (List.getElem?_eq_some_iff.1 h').1
    have h1 : s[p.idx]? = some s[p.idx] := List.getElem?_eq_getElem hp
    rw [seat_old h1]
    exact hA.get _ (preL_mem _ h' h1)
  inj p q o o' h h' e := by
    have g := mkH_some h
    have g' := mkH_some h'
    have hp : p.idx < s.length := by rw [hl]; exact (List.getElem?_eq_some_iff.1 g).1
    have hq : q.idx < s.length := by rw [hl]; exact (List.getElem?_eq_some_iff.1 g').1
    have h1 : s[p.idx]? = some s[p.idx] := List.getElem?_eq_getElem hp
    have h1' : s[q.idx]? = some s[q.idx] := List.getElem?_eq_getElem hq
    rw [seat_old h1, seat_old h1'] at e
    have e2 := Pos.ofNat_inj e
    rw [← e2] at h1'
    exact Pos.idx_inj (liveS_inj hn g g' h1 h1')
  ids p o h := by rw [mkH_next]; exact (List.getElem?_eq_some_iff.1 (mkH_some h)).1
  old p h := by
    rw [mkH_next, ← hl] at h
    have h1 : s[p.idx]? = some s[p.idx] := List.getElem?_eq_getElem h
    rw [seat_old h1, hN, Pos.idx_ofNat, Pos.idx_ofNat]
    exact hb _ (List.getElem_mem h)
  new p h := by
    rw [mkH_next] at h
    rw [mkH_next, hN, Pos.idx_ofNat, seat_new (by rw [hl]; exact h), hl]
  ng := rfl

theorem Glue.of_at (hl : s.length = L0.length) (hN : A.next = .ofNat N) (hF : L0.length ≤ F.length) (hro : noRo (F.drop L0.length)) :
    Glue (seat s N) (mkH L0) A (mkH F) (A.upd N (postL (seat s N) L0 F s) (newsL (seat s N) L0.length F)) where
  obj q o h := by
    have h' : (mkT (newsL (seat s N) L0.length F) (.ofNat N) (updT (postL (seat s N) L0 F s) A.t)).get q = some o := h
    rw [mkT_get, Pos.idx_ofNat] at h'
    have key : (updT (postL (seat s N) L0 F s) A.t).get q = some o → (A.t.get q = some o ∧ ∀ p o0, (mkH L0).t.get p = some o0 → q ≠ seat s N p) ∨ ∃ p o1, q = seat s N p ∧ (mkH F).t.get p = some o1 ∧ o = o1.ren (seat s N) ∧ ((∃ o0, (mkH L0).t.get p = some o0) ∨ ((mkH L0).next.idx ≤ p.idx ∧ o1.isRo = false)) := by
      intro h1
      rcases updT_some h1 with ⟨x, hx, hq, ho⟩ | ⟨h2, h3⟩
      · right
        obtain ⟨i, o0, y, g1, g2, g3, g4⟩ := postL_mem _ hx
        rw [g4] at ho
        cases y with
        | none => cases ho
        | some o1 =>
          simp only [Option.map_some, Option.some.injEq] at ho
          refine ⟨.ofNat i, o1, ?_, by rw [mkH_get, Pos.idx_ofNat, g2]; rfl, ho.symm, .inl ⟨o0, by rw [mkH_get, Pos.idx_ofNat, g1]; rfl⟩⟩
          rw [hq, seat_old (by rw [Pos.idx_ofNat]; exact g3)]
      · refine .inl ⟨h2, fun p o0 e0 he => ?_⟩
        have g := mkH_some e0
        have hp : p.idx < s.length := by rw [hl]; exact (List.getElem?_eq_some_iff.1 g).1
        have h4 : s[p.idx]? = some s[p.idx] := List.getElem?_eq_getElem hp
        obtain ⟨y, _, hy⟩ := postL_has (seat s N) hF g h4
        rw [seat_old h4] at he
        exact h3 _ hy he
    by_cases hq : q.idx < N
    · rw [if_pos hq] at h'; exact key h'
    · rw [if_neg hq] at h'
      cases hx : (newsL (seat s N) L0.length F)[q.idx - N]? with
      | none => rw [hx] at h'; exact key h'
      | some x =>
        rw [hx] at h'
        right
        simp only [newsL, List.getElem?_map, List.getElem?_drop] at hx
        cases hy : F[L0.length + (q.idx - N)]? with
        | none => rw [hy] at hx; cases hx
        | some y =>
          rw [hy] at hx
          simp only [Option.map_some, Option.some.injEq] at hx
          subst hx
          cases y with
          | none => cases h'
          | some o1 =>
            have h2 : o1.ren (seat s N) = o := by simpa using h'
            refine ⟨.ofNat (L0.length + (q.idx - N)), o1, ?_, by rw [mkH_get, Pos.idx_ofNat, hy]; rfl, h2.symm, .inr ⟨by rw [mkH_next, Pos.idx_ofNat]; omega, hro.get (q.idx - N) o1 (by rw [List.getElem?_drop]; exact hy)⟩⟩
            rw [seat_new (by rw [Pos.idx_ofNat]; omega), Pos.idx_ofNat, hl, show N + (L0.length + (q.idx - N) - L0.length) = q.idx by omega, Pos.ofNat_idx]
  next := by
    show A.next.idx + ((mkH F).next.idx - (mkH L0).next.idx) ≤ (Pos.ofNat (N + (newsL (seat s N) L0.length F).length)).idx
    rw [hN, Pos.idx_ofNat, Pos.idx_ofNat, mkH_next, mkH_next, newsL, List.length_map, List.length_drop]
    omega
  ng := rfl

/-- What is known of a call, told of these places alone. -/
structure LocFun (P : Program) (g : FuncId) (args : List AV) (N : Nat) (pre : List (Nat × HObj)) (v : AV) (post : List (Nat × Option HObj)) (news : HL) : Prop where
  ok : ∀ A : H, A.next = .ofNat N → At A.t pre → ∀ (ρ : RM) (w : World) (args' : Array Value), Rel ρ A w → VRs ρ args args'.toList → CallGives P A v (A.upd N post news) ρ w (callFunc g args')

theorem LocFun.of {g : FuncId} {args args' : List AV} {v v' : AV} {pre : List (Nat × HObj)} {post : List (Nat × Option HObj)} {news : HL} (h : FunOK P g args (mkH L0) v (mkH F)) (s : List Nat) (hl : s.length = L0.length) (hn : (liveS L0 s).Nodup) (hb : ∀ i ∈ s, i < N)
    (hF : L0.length ≤ F.length) (hro : noRo (F.drop L0.length)) (ha : AV.rens (seat s N) args = args') (hv : v.ren (seat s N) = v') (h1 : preL (seat s N) L0 s = pre) (h2 : postL (seat s N) L0 F s = post) (h3 : newsL (seat s N) L0.length F = news) : LocFun P g args' N pre v' post news := by
  refine ⟨fun A hN hA ρ w args'' hr hargs => ?_⟩
  subst ha hv h1 h2 h3
  exact (FunOK.frame (σ := seat s N) h (Emb.of_at hl hA hN hn hb) (Glue.of_at hl hN hF hro)) ρ w args'' hr hargs
end

/-- The heap turned so, handed on with all places made. -/
noncomputable def updTK : List (Nat × Option HObj) → PT HObj → (PT HObj → Ans) → Ans := @List.rec (Nat × Option HObj) (fun _ => PT HObj → (PT HObj → Ans) → Ans) (fun t k => k t) (fun x _ ih t k => PT.putK x.2 (.ofNat x.1) t fun t => ih t k)
theorem updTK_eq : ∀ (l : List (Nat × Option HObj)) (t : PT HObj) (k : PT HObj → Ans), updTK l t k = k (updT l t)
  | [], _, _ => rfl
  | x :: l, t, k => by
    show (PT.putK x.2 (.ofNat x.1) t fun t => updTK l t k) = _
    rw [PT.putK_eq]
    exact updTK_eq l _ k
noncomputable def mkTK : HL → Pos → PT HObj → (Pos → PT HObj → Ans) → Ans := @List.rec (Option HObj) (fun _ => Pos → PT HObj → (Pos → PT HObj → Ans) → Ans) (fun p t k => k p t) (fun o _ ih p t k => PT.putK o p t fun t => p.succK fun p => ih p t k)
theorem mkTK_eq : ∀ (l : HL) (n : Nat) (t : PT HObj) (k : Pos → PT HObj → Ans), mkTK l (.ofNat n) t k = k (.ofNat (n + l.length)) (mkT l (.ofNat n) t)
  | [], _, _, _ => rfl
  | o :: l, n, t, k => by
    show (PT.putK o (.ofNat n) t fun t => (Pos.ofNat n).succK fun p => mkTK l p t k) = _
    rw [PT.putK_eq, Pos.succK_eq]
    have e : (Pos.ofNat n).succ = .ofNat (n + 1) := Pos.idx_inj (by rw [Pos.idx_succ, Pos.idx_ofNat, Pos.idx_ofNat])
    rw [e, mkTK_eq l (n + 1)]
    show k (.ofNat (n + 1 + l.length)) (mkT l (.ofNat (n + 1)) _) = k (.ofNat (n + (l.length + 1))) (mkT l (Pos.ofNat n).succ _)
    rw [e, show n + 1 + l.length = n + (l.length + 1) by omega]
noncomputable def H.updK (A : H) (post : List (Nat × Option HObj)) (news : HL) (k : H → Ans) : Ans := updTK post A.t fun t => mkTK news A.next t fun p t => k ⟨p, t, A.ng, A.st⟩
theorem H.updK_eq {A : H} {N : Nat} (hN : A.next = .ofNat N) (post : List (Nat × Option HObj)) (news : HL) (k : H → Ans) : A.updK post news k = k (A.upd N post news) := by
  unfold H.updK
  rw [updTK_eq, hN, mkTK_eq]
  rfl

/-- .. as an answer for the function's calls. -/
noncomputable def orcLoc (args : List AV) (N : Nat) (pre : List (Nat × HObj)) (v : AV) (post : List (Nat × Option HObj)) (news : HL) : Orc := fun args2 A k _ =>
  guardK (args2 = args ∧ A.next = .ofNat N ∧ At A.t pre) (A.updK post news fun A => k v A) (.err 78 0 0)
theorem LocFun.good {g : FuncId} {args : List AV} {N : Nat} {pre : List (Nat × HObj)} {v : AV} {post : List (Nat × Option HObj)} {news : HL} (h : LocFun P g args N pre v post news) : Good P g (orcLoc args N pre v post news) := by
  intro args2 A k els hk
  unfold orcLoc guardK at hk
  split at hk
  · rename_i hc
    obtain ⟨rfl, hN, hA⟩ := hc
    rw [H.updK_eq hN] at hk
    exact .inr ⟨v, _, hk, fun ρ w args' hr ha => h.ok A hN hA ρ w args' hr ha⟩
  · cases hk

/-- Which of some answers: by the number of the heap's places. -/
noncomputable def orcSel : List (Nat × Orc) → Orc := @List.rec (Nat × Orc) (fun _ => Orc) (fun _ _ _ els => els) (fun x _ ih args A k els => boolK (Nat.beq A.next.idx x.1) (x.2 args A k els) (ih args A k els))
theorem good_sel {g : FuncId} : ∀ {l : List (Nat × Orc)}, (∀ x ∈ l, Good P g x.2) → Good P g (orcSel l)
  | [], _ => fun args A k els h => .inl h
  | x :: l, hl => fun args A k els h => by
    have h' : boolK (Nat.beq A.next.idx x.1) (x.2 args A k els) (orcSel l args A k els) = .ok := h
    cases hb : Nat.beq A.next.idx x.1 with
    | true => rw [hb] at h'; exact hl x (by simp) args A k els h'
    | false => rw [hb] at h'; exact good_sel (l := l) (fun y hy => hl y (by simp [hy])) args A k els h'
theorem good_sel1 {g : FuncId} {n : Nat} {o : Orc} (h : Good P g o) : Good P g (orcSel [(n, o)]) := good_sel fun x hx => by
  rcases List.mem_cons.1 hx with rfl | hx
  · exact h
  · cases hx
theorem good_sel2 {g : FuncId} {n n' : Nat} {o o' : Orc} (h : Good P g o) (h' : Good P g o') : Good P g (orcSel [(n, o), (n', o')]) := good_sel fun x hx => by
  rcases List.mem_cons.1 hx with rfl | hx
  · exact h
  · rcases List.mem_cons.1 hx with rfl | hx
    · exact h'
    · cases hx
theorem good_sel3 {g : FuncId} {n n' n'' : Nat} {o o' o'' : Orc} (h : Good P g o) (h' : Good P g o') (h'' : Good P g o'') : Good P g (orcSel [(n, o), (n', o'), (n'', o'')]) := good_sel fun x hx => by
  rcases List.mem_cons.1 hx with rfl | hx
  · exact h
  · rcases List.mem_cons.1 hx with rfl | hx
    · exact h'
    · rcases List.mem_cons.1 hx with rfl | hx
      · exact h''
      · cases hx

/-! ### Pieces of code -/
noncomputable def mkTmK : List (Nat × AV) → (Tm → Ans) → Ans := @List.rec (Nat × AV) (fun _ => (Tm → Ans) → Ans) (fun k => k .leaf) (fun x _ ih k => ih fun tm => PT.putK (some x.2) (.ofNat x.1) tm k)
theorem mkTmK_eq : ∀ (l : List (Nat × AV)) (k : Tm → Ans), mkTmK l k = k (mkTm l)
  | [], _ => rfl
  | (i, v) :: l, k => by
    show (mkTmK l fun tm => PT.putK (some v) (.ofNat i) tm k) = _
    rw [mkTmK_eq l, PT.putK_eq]
    rfl
/-- What is known of a piece of code, told of these places alone. -/
structure LocCode (P : Program) (fx : Fx) (c : Code) (tm : List (Nat × AV)) (N : Nat) (pre : List (Nat × HObj)) (e : AExit) (tm' : List (Nat × AV)) (post : List (Nat × Option HObj)) (news : HL) : Prop where
  ok : ∀ A : H, A.next = .ofNat N → At A.t pre → CodeOK P fx c (mkTm tm) A [] e (mkTm tm') (A.upd N post news) []

theorem LocCode.of {fx : Fx} {c : Code} {L0 F : HL} {s : List Nat} {N : Nat} {tm tmF : List (Nat × AV)} {tm0 tm' : List (Nat × AV)} {e : AExit} {pre : List (Nat × HObj)} {post : List (Nat × Option HObj)} {news : HL} (h : CodeOK P fx c (mkTm tm0) (mkH L0) [] e (mkTm tmF) (mkH F) []) (hrnd : fx.rnd = none)
    (hl : s.length = L0.length) (hn : (liveS L0 s).Nodup) (hb : ∀ i ∈ s, i < N) (hF : L0.length ≤ F.length) (hro : noRo (F.drop L0.length)) (ht : LTmR (seat s N) tm0 (mkTm tm)) (ht' : LTm tm' (PT.map (AV.ren (seat s N)) (mkTm tmF)))
    (h1 : preL (seat s N) L0 s = pre) (h2 : postL (seat s N) L0 F s = post) (h3 : newsL (seat s N) L0.length F = news) : LocCode P fx c tm N pre e tm' post news := by
  refine ⟨fun A hN hA => ?_⟩
  subst h1 h2 h3
  exact (CodeOK.frame (σ := seat s N) h hrnd (Emb.of_at hl hA hN hn hb) (SubT.of_list ht) (Glue.of_at hl hN hF hro)).less (Sub0.of_list ht')

/-- .. as what is known at a hole. -/
noncomputable def exLoc (fx : Fx) (c : Code) (tm : List (Nat × AV)) (N : Nat) (pre : List (Nat × HObj)) (e : AExit) (tm' : List (Nat × AV)) (post : List (Nat × Option HObj)) (news : HL) : Ex := fun fx2 c2 tm2 A2 m2 k =>
  guardK (fx2 = fx ∧ c2 = c ∧ LTm tm tm2 ∧ A2.next = .ofNat N ∧ At A2.t pre ∧ MkNil m2) (A2.updK post news fun A => mkTmK tm' fun tm => k e tm A []) (.err 0 0 0)
theorem LocCode.ex {fx : Fx} {c : Code} {tm : List (Nat × AV)} {N : Nat} {pre : List (Nat × HObj)} {e : AExit} {tm' : List (Nat × AV)} {post : List (Nat × Option HObj)} {news : HL} (h : LocCode P fx c tm N pre e tm' post news) : ExOK P (exLoc fx c tm N pre e tm' post news) := by
  intro fx2 c2 tm2 A2 m2 k hk
  unfold exLoc guardK at hk
  split at hk
  · rename_i hc
    obtain ⟨rfl, rfl, hs, hN, hA, rfl⟩ := hc
    rw [H.updK_eq hN, mkTmK_eq] at hk
    exact ⟨e, _, _, [], hk, fun ρ w a r h1 h2 h3 h4 h5 n Q hq => h.ok A2 hN hA ρ w a r h1 ((Sub0.of_list hs).tm h2) h3 h4 h5 n Q hq⟩
  · cases hk

/-- Of a piece that isn't reached. -/
noncomputable def exErr : Ex := fun _ _ _ _ _ _ => .err 79 0 0
theorem exErr_ok : ExOK P exErr := fun _ _ _ _ _ _ h => by cases h
/-- A known call of nothing, anywhere. -/
theorem FunOK.loc0 {g : FuncId} {v : AV} (hv : ∀ σ, v.ren σ = v) (h : FunOK P g [] (mkH []) v (mkH [])) (N : Nat) : LocFun P g [] N [] v [] [] :=
  .of h [] rfl (by decide) (fun i hi => by cases hi) (Nat.le_refl _) trivial rfl (hv _) rfl rfl rfl

/-! ### A round and the rounds behind it, told by lists -/
theorem LoopOK.round {fx : Fx} (hrnd : fx.rnd = none) {b : Code} {tm : Tm} {tm1 : Tm} {tm0 tm0' : List (Nat × AV)} {L L1 L0 F0 B G : HL} {e : AExit} {tmB : List (Nat × AV)} {s t : List Nat} {n N1 n0 : Nat}
    (hc : CodeOK P fx b tm (mkH L) [] .normal tm1 (mkH L1) []) (hL : LoopOK P fx b (mkTm tm0) (mkH L0) e (mkTm tm0') (mkH F0)) (hLn : L.length = n) (hN1 : L1.length = N1) (hs : s.length = L0.length) (he : Laid (seat s N1) L1 L0 s) (hn : s.Nodup) (hb : ∀ i ∈ s, i < N1) (ht : LTmR (seat s N1) tm0 tm1)
    (hF : L0.length ≤ F0.length) (hro : noRo (F0.drop L0.length)) (hG : glueL (seat s N1) s L0 F0 L1 = G) (hGn : G.length = n0) (htl : t.length = B.length) (hB : Laid (seat t n0) G B t) (hBn : (liveS B t).Nodup) (hfix : fixes t n) (htB : LTmR (seat t n0) tmB (PT.map (AV.ren (seat s N1)) (mkTm tm0'))) :
    LoopOK P fx b tm (mkH L) e (mkTm tmB) (mkH B) := by
  subst hN1
  have g := Glue.of_list (L0 := L0) (L1 := L1) (F := F0) hs hn hF hro
  rw [hG] at g
  refine LoopOK.sel (τ := seat t n0) (.next hc (LoopOK.frame (A := mkH L1) hL hrnd (Emb.of_list hs he hn hb) (SubT.of_list ht) g)) ?_ (SubT.of_list htB)
  rw [mkH_next, hLn]
  exact Sel.of_listN hGn htl hB hBn hfix
end Go.AM
