/-
  THE MACHINE 'AM', QUICK: calls, code, the run. 'runLawF_eq': it is the plain machine's.
-/
import Derived.Test.YtcjilddpkekcgaaAmFast3
namespace Go.AM

noncomputable def loadF {β : Type} (P : Program) (A : H) (t : TypeId) (v : AV) (f : AV → β) (e : β) : β :=
  ePtr v (fun p off => getK p A.t (fun o => eCells o (fun cs _ _ => boolK (scalT P t) (nthK cs off (fun v => fitK A.st (kdT P t) v f e) e)
    (boolK (isAggT P t) (optK (sizeT P t) (fun n => segK off cs n (fun l => f (.agg l)) e) e) e)) e) e)
    (eFp v (fun cs off => boolK (scalT P t) (nthK cs off (fun v => fitKL A.st (kdL P t) v f e) e) (boolK (isAggT P t) (optK (sizeT P t) (fun n => segK off cs n (fun l => f (.agg l)) e) e) e)) (optK (loadV P A t v) f e))
theorem loadF_eq {β : Type} (P : Program) (A : H) (t : TypeId) (v : AV) (f : AV → β) (e : β) : loadF P A t v f e = optK (loadV P A t v) f e := by
  have h := rdF_eq (.load t (.tmp 0)) P (PT.put (some v) .z .leaf) A f e
  have e1 : rdF (.load t (.tmp 0)) P (PT.put (some v) .z .leaf) A f e = loadF P A t v f e := rfl
  rw [← e1, h]
  rfl

noncomputable def isNormal : AExit → Bool := @AExit.rec (fun _ => Bool) true false (fun _ => false) (fun _ => false)
noncomputable def isRet : AExit → Bool := @AExit.rec (fun _ => Bool) true true (fun _ => false) (fun _ => false)
noncomputable def exitId : AExit → (Nat → Ans) → Ans → Ans := @AExit.rec (fun _ => (Nat → Ans) → Ans → Ans) (fun _ e => e) (fun _ e => e) (fun j f _ => f j) (fun _ _ e => e)
noncomputable def nilK {α : Type} : List α → Ans → Ans → Ans := @List.rec α (fun _ => Ans → Ans → Ans) (fun a _ => a) (fun _ _ _ _ b => b)

/-- What a function hands back. -/
noncomputable def resK : List ResultVar → Program → Tm → H → (List AV → Ans) → Ans → Ans :=
  @List.rec ResultVar (fun _ => Program → Tm → H → (List AV → Ans) → Ans → Ans) (fun _ _ _ f _ => f [])
    (fun r _ ih P tm A f e => @ResultVar.rec (fun _ => (Program → Tm → H → (List AV → Ans) → Ans → Ans) → Program → Tm → H → (List AV → Ans) → Ans → Ans)
      (fun t ih P tm A f e => getK (Pos.ofNat t) tm (fun v => ih P tm A (fun l => f (v :: l)) e) e)
      (fun a t ih P tm A f e => getK (Pos.ofNat a) tm (fun x => loadF P A t x (fun v => ih P tm A (fun l => f (v :: l)) e) e) e) r ih P tm A f e)
theorem resK_eq : ∀ (l : List ResultVar) (P : Program) (tm : Tm) (A : H) (f : List AV → Ans) (e : Ans), resK l P tm A f e = optK (resultsV A P tm l) f e
  | [], _, _, _, _, _ => rfl
  | .tmp t :: l, P, tm, A, f, e => by
    show getK (Pos.ofNat t) tm (fun v => resK l P tm A (fun l => f (v :: l)) e) e = _
    rw [getK_eq]
    simp only [resultsV, resK_eq l]
    cases tm.get (Pos.ofNat t) with
    | none => rfl
    | some v => cases resultsV A P tm l <;> rfl
  | .cell a t :: l, P, tm, A, f, e => by
    show getK (Pos.ofNat a) tm (fun x => loadF P A t x (fun v => resK l P tm A (fun l => f (v :: l)) e) e) e = _
    rw [getK_eq]
    simp only [resultsV, resK_eq l, loadF_eq]
    cases tm.get (Pos.ofNat a) with
    | none => rfl
    | some x =>
      show optK (loadV P A t x) _ e = optK (match loadV P A t x, resultsV A P tm l with
        | some v, some r => some (v :: r)
        | _, _ => none) f e
      cases loadV P A t x with
      | none => rfl
      | some v => cases resultsV A P tm l <;> rfl

noncomputable def leaveF (P : Program) (ex : Ex) (g : Pos) (fn : Func) (k : AV → H → Ans) : Kont := fun e tm A marks =>
  boolK (isRet e) (nilK marks (resK fn.results.toList P tm A (fun l => k (oneOrTup l) A) (.err 10 g.idx 0))
    (closeMarks P ex marks A fun A => match resultsV A P tm fn.results.toList with
          | some l => fList l fun l => k (oneOrTup l) A
          | none => .err 10 g.idx 0)) (.err 10 g.idx 1)
noncomputable def bodyF (P : Program) (ex : Ex) (g : Pos) (first captured args : List AV) (A : H) (k : AV → H → Ans) : Ans :=
  optK P.funcs[g.idx]? (fun fn => boolK (fn.name == "runtime.NumGoroutine") (.err 10 g.idx 2) (optK fn.body (fun c =>
    putArgs (first ++ (args ++ captured)) .z .leaf fun tm => ex ⟨none, g.idx, fn.ntmps⟩ c tm A [] (leaveF P ex g fn k)) (.err 10 g.idx 2))) (.err 10 g.idx 3)
theorem bodyF_eq (P : Program) (ex : Ex) (g : Pos) (first captured args : List AV) (A : H) (k : AV → H → Ans) : bodyF P ex g first captured args A k = appV P ex (.func g first captured) args A k := by
  unfold bodyF appV
  simp only
  cases P.funcs[g.idx]? with
  | none => rfl
  | some fn =>
    show boolK (fn.name == "runtime.NumGoroutine") _ _ = _
    simp only
    cases hn : fn.name == "runtime.NumGoroutine" with
    | true => cases fn.body <;> rfl
    | false =>
      show optK fn.body _ _ = _
      cases fn.body with
      | none => rfl
      | some c =>
        show (putArgs (first ++ (args ++ captured)) .z .leaf fun tm => ex ⟨none, g.idx, fn.ntmps⟩ c tm A [] (leaveF P ex g fn k)) = _
        simp only
        congr 1
        funext tm
        congr 1
        funext e tm A marks
        unfold leaveF
        cases e <;> first | rfl | skip
        all_goals
          show nilK marks _ _ = _
          cases marks with
          | cons _ _ => rfl
          | nil =>
            show resK fn.results.toList P tm A (fun l => k (oneOrTup l) A) (.err 10 g.idx 0) = (match resultsV A P tm fn.results.toList with
              | some l => fList l fun l => k (oneOrTup l) A
              | none => .err 10 g.idx 0)
            rw [resK_eq]
            cases resultsV A P tm fn.results.toList with
            | none => rfl
            | some l => simp only [fList_eq]; rfl

noncomputable def appF (P : Program) (O : PT Orc) (ex : Ex) (f : AV) (args : List AV) (A : H) (k : AV → H → Ans) : Ans :=
  eFunc f (fun g first captured => getK g O (fun o => o (first ++ (args ++ captured)) A k (bodyF P ex g first captured args A k)) (bodyF P ex g first captured args A k)) (appV P ex f args A k)
theorem appF_eq (P : Program) (O : PT Orc) (ex : Ex) : appF P O ex = appO P O ex := by
  funext f args A k
  unfold appF appO
  cases f <;> first | rfl | skip
  rename_i g first captured
  show getK g O _ _ = _
  rw [getK_eq]
  simp only [bodyF_eq]
  cases O.get g <;> rfl

noncomputable def seqK (ex : Ex) (fx : Fx) (b : Code) (k : Kont) : Kont := fun e tm A marks => boolK (isNormal e) (ex fx b tm A marks k) (k e tm A marks)
noncomputable def blockK (id : Nat) (k : Kont) : Kont := fun e tm A marks => exitId e (fun j => boolK (Nat.beq j id) (k .normal tm A marks) (k (.exit j) tm A marks)) (k e tm A marks)

abbrev CF := Program → PT Orc → Ex → Fx → Tm → H → List Mk → Kont → Ans
noncomputable def cRegion (_ : Nat) (ops : Array Oper) (d : Bool) : CF := fun P O ex fx tm A marks k =>
  boolK d (optK (regOrd P ops) (fun l => dF l P fx (appF P O ex) ops true [] tm A fun tm A => k .normal tm A marks) (.err fx.fn 0 4000))
    (opsF ops.toList P fx (appF P O ex) ops 0 tm A marks fun tm A marks => k .normal tm A marks)
noncomputable def cSeq (a b : Code) (_ _ : CF) : CF := fun _ _ ex fx tm A marks k => ex fx a tm A marks (seqK ex fx b k)
noncomputable def cCond (x : Operand) (a b : Code) (_ _ : CF) : CF := fun _ _ ex fx tm A marks k =>
  evK x tm (fun v => eBool v (fun q => boolK q (ex fx a tm A marks k) (ex fx b tm A marks k)) (.err 13 0 0)) (.err 13 0 0)
noncomputable def cBlock (id : Nat) (b : Code) (_ : CF) : CF := fun _ _ ex fx tm A marks k => ex fx b tm A marks (blockK id k)
noncomputable def cLoop (b : Code) (_ : CF) : CF := fun _ _ ex fx tm A marks k => ex fx b tm A marks (seqK ex fx (.loop b) k)
noncomputable def codeF : Code → CF :=
  @Code.rec (fun _ => CF) (fun _ _ _ _ tm A marks k => k .normal tm A marks) cRegion cSeq cCond cBlock cLoop
    (fun g ps as bd _ _ P _ ex fx tm A marks k => rangeK P ex fx g ps as bd tm A marks k) (fun id _ _ _ _ tm A marks k => k (.exit id) tm A marks)
    (fun b _ _ _ ex fx tm A marks k => scopeK ex fx b k 1000 b tm A marks) (fun _ _ _ _ _ tm A marks k => k .normal tm A marks) (fun l _ _ _ _ tm A marks k => k (.goto l) tm A marks)
    (fun _ _ _ _ tm A marks k => k .ret tm A marks) (fun _ _ _ _ _ _ _ _ _ => .err 13 2 0)
theorem codeF_eq (c : Code) (P : Program) (O : PT Orc) (ex : Ex) (fx : Fx) (tm : Tm) (A : H) (marks : List Mk) (k : Kont) : codeF c P O ex fx tm A marks k = execCode P O ex fx c tm A marks k := by
  cases c with
  | region id ops d =>
    show cRegion id ops d P O ex fx tm A marks k = _
    simp only [cRegion, appF_eq, dF_eq, opsF_eq]
    cases d with
    | false => rfl
    | true =>
      show optK (regOrd P ops) _ _ = _
      simp only [execCode]
      cases regOrd P ops <;> rfl
  | seq a b =>
    show ex fx a tm A marks (seqK ex fx b k) = _
    unfold execCode
    simp only
    congr 1
    funext e tm A marks
    cases e <;> rfl
  | cond x a b =>
    show evK x tm (fun v => eBool v (fun q => boolK q (ex fx a tm A marks k) (ex fx b tm A marks k)) (.err 13 0 0)) (.err 13 0 0) = _
    simp only [evK_eq, execCode]
    cases ev tm x with
    | none => rfl
    | some v => cases v <;> first | rfl | (rename_i q; cases q <;> rfl)
  | block id b =>
    show ex fx b tm A marks (blockK id k) = _
    unfold execCode
    simp only
    congr 1
    funext e tm A marks
    cases e <;> first | rfl | skip
    rename_i j
    show boolK (Nat.beq j id) _ _ = _
    simp only
    cases Nat.beq j id <;> rfl
  | loop b =>
    show ex fx b tm A marks (seqK ex fx (.loop b) k) = _
    unfold execCode
    simp only
    congr 1
    funext e tm A marks
    cases e <;> rfl
  | _ => rfl

noncomputable def execF (P : Program) (O : PT Orc) (n : Nat) : Ex :=
  @Nat.rec (fun _ => Ex) (fun _ _ _ _ _ _ => .err 0 0 0) (fun _ ih fx c tm A marks k => codeF c P O ih fx tm A marks k) n
theorem execF_eq (P : Program) (O : PT Orc) : ∀ n, execF P O n = exec P O n
  | 0 => rfl
  | n + 1 => by
    have h : execF P O (n + 1) = fun fx c tm A marks k => codeF c P O (execF P O n) fx tm A marks k := rfl
    rw [h, execF_eq P O n]
    funext fx c tm A marks k
    exact codeF_eq c P O _ fx tm A marks k

noncomputable def runLawF (P : Program) (O : PT Orc) (f : Pos) (args : List AV) (A : H) : Ans :=
  bodyF P (execF P O 1000000) f [] [] args A fun v _ => eBool v (fun b => boolK b .ok (.err 14 0 0)) (.err 14 1 0)
theorem runLawF_eq (P : Program) (O : PT Orc) (f : Pos) (args : List AV) (A : H) : runLawF P O f args A = runLaw P O f args A := by
  unfold runLawF runLaw
  rw [bodyF_eq, execF_eq]
  congr 1
  funext v A
  cases v <;> first | rfl | (rename_i b; cases b <;> rfl)

end Go.AM
