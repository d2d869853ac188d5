/-
  THE MACHINE 'AM': calls, ranges over functions, code: the run of the machine is a run of the model's.
-/
import Derived.Test.YtcjilddpkekcgaaAmScope
namespace Go.AM
variable {P : Program}

def AExit.conv : AExit → Exit
  | .normal => .normal
  | .ret => .ret
  | .exit id => .exit id
  | .goto l => .goto l

/-- What stands behind a piece of code. -/
def Post (ρ : RM) (A : H) (w : World) (a : Act) (tm' : Tm) (A' : H) (marks' : List Mk) (K : Act → World → Prop) : Prop :=
  ∀ ρ' w' a', Stp ρ A w ρ' A' w' → Rel ρ' A' w' → TmRel ρ' tm' a'.tmps → a'.tmps.size = a.tmps.size → MkRel ρ' marks' a'.defers → K a' w'

/-- A runner of code is right. -/
def ExOK (P : Program) (ex : Ex) : Prop :=
  ∀ fx c tm A marks k, ex fx c tm A marks k = .ok → ∃ e tm' A' marks', k e tm' A' marks' = .ok ∧
    ∀ (ρ : RM) (w : World) (a : Act) (r : Option Nat), Rel ρ A w → TmRel ρ tm a.tmps → fx.nt ≤ a.tmps.size → MkRel ρ marks a.defers → RndRel ρ fx.rnd r →
      ∀ (n : Nat) (Q : Exit → Act → World → Prop), Post ρ A w a tm' A' marks' (Q e.conv) → c.wpIn (FW r) n P Q a w

/-! ### Calls -/
theorem putArgs_ok {k : Tm → Ans} : ∀ {l : List AV} {p : Pos} {tm : Tm}, putArgs l p tm k = .ok → ∃ tm', k tm' = .ok ∧ ∀ (ρ : RM) (tmps : Array Value) (l' : List Value), VRs ρ l l' → (∀ i v', l'[i]? = some v' → tmps[p.idx + i]? = some v') → TmRel ρ tm tmps → TmRel ρ tm' tmps
  | [], p, tm, h => ⟨tm, h, fun _ _ _ _ _ ht => ht⟩
  | v :: l, p, tm, h => by
    have h' : (tm.putK (some v) p fun tm => p.succK fun p => putArgs l p tm k) = .ok := h
    rw [PT.putK_eq, Pos.succK_eq] at h'
    obtain ⟨tm', hk, hr⟩ := putArgs_ok h'
    refine ⟨tm', hk, fun ρ tmps l' hv hg ht => ?_⟩
    cases hv with
    | @cons _ v' _ l2 hv1 hv2 =>
      refine hr ρ tmps l2 hv2 (fun i u hu => ?_) ?_
      · have := hg (i + 1) u (by simpa using hu)
        rw [Pos.idx_succ]; rw [show p.idx + 1 + i = p.idx + (i + 1) by omega]; exact this
      · intro q u hu
        rw [PT.get_put] at hu
        by_cases hq : q = p
        · subst hq
          simp only [if_true, Option.some.injEq] at hu; subst hu
          exact ⟨v', by simpa using hg 0 v' rfl, hv1⟩
        · rw [if_neg hq] at hu; exact ht q u hu

theorem resultsV_sound {A : H} {tm : Tm} {ρ : RM} {w : World} (hr : Rel ρ A w) {tmps : Array Value} (ht : TmRel ρ tm tmps) : ∀ {l : List ResultVar} {vs : List AV}, resultsV A P tm l = some vs →
    ∃ vs', VRs ρ vs vs' ∧ (l.mapM (fun | .tmp t => pure (tmps.getD t undef) | .cell a t => do loadVar t (← asAddr (tmps.getD a undef))) : Sem (List Value)).run P w = .ok vs' w
  | [], vs, h => by simp [resultsV] at h; subst h; exact ⟨[], .nil, by simp⟩
  | .tmp t :: l, vs, h => by
    simp only [resultsV] at h
    split at h
    · rename_i v q e1 e2
      simp only [Option.some.injEq] at h; subst h
      obtain ⟨v', h1, h2⟩ := ht _ _ e1
      rw [Pos.idx_ofNat] at h1
      obtain ⟨vs', h3, h4⟩ := resultsV_sound hr ht e2
      refine ⟨v' :: vs', .cons h2 h3, ?_⟩
      have hd : tmps.getD t undef = v' := by simp [Array.getD_eq_getD_getElem?, h1]
      simp only [List.mapM_cons, hd, Sem.run_bind, Sem.run_pure, Result.andThen_ok, h4]
    · cases h
  | .cell a t :: l, vs, h => by
    simp only [resultsV] at h
    split at h
    · rename_i x e0
      split at h
      · rename_i v q e1 e2
        simp only [Option.some.injEq] at h; subst h
        obtain ⟨x', h1, h2⟩ := ht _ _ e0
        rw [Pos.idx_ofNat] at h1
        obtain ⟨v', h5, h6⟩ := loadV_sound (P := P) e1 hr h2
        obtain ⟨vs', h3, h4⟩ := resultsV_sound hr ht e2
        refine ⟨v' :: vs', .cons h5 h3, ?_⟩
        have hx : ∃ b, x' = .pointer (some b) := by
          unfold loadV at e1
          split at e1
          · cases h2; exact ⟨_, rfl⟩
          · unfold loadH at e1
            split at e1
            · rename_i hpt
              obtain ⟨rb, _, hb⟩ := ptrOf_sound hpt hr h2
              exact ⟨_, hb⟩
            · cases e1
        obtain ⟨b, rfl⟩ := hx
        simp only [Instr.loadAt, Instr.sureAddr, Sem.run_bind, Sem.run_pure, Result.andThen_ok] at h6
        have hd : tmps.getD a undef = .pointer (some b) := by simp [Array.getD_eq_getD_getElem?, h1]
        have ha : (asAddr (.pointer (some b))).run P w = .ok b w := by simp [asAddr]
        simp only [List.mapM_cons, hd, Sem.run_bind, ha, h6, Sem.run_pure, Result.andThen_ok, h4]
      · cases h
    · cases h

theorem oneOrTup_sound {ρ : RM} {vs : List AV} {vs' : List Value} (h : VRs ρ vs vs') : VR ρ (oneOrTup vs) (if h : vs'.toArray.size = 1 then vs'.toArray[0] else .tuple vs'.toArray) := by
  cases h with
  | nil => exact .tup .nil
  | cons a b => cases b with
    | nil => simpa [oneOrTup] using a
    | cons b c => simp [oneOrTup]; exact .tup (.cons a (.cons b c))

/-- The function's frame behind its arguments. -/
theorem args_rel {ρ : RM} {nt : Nat} {l : List AV} {l' : Array Value} {tm : Tm} (hall : VRs ρ l l'.toList)
    (hargs : ∀ (ρ : RM) (tmps : Array Value) (l' : List Value), VRs ρ l l' → (∀ i v', l'[i]? = some v' → tmps[Pos.z.idx + i]? = some v') → TmRel ρ .leaf tmps → TmRel ρ tm tmps) :
    TmRel ρ tm (l' ++ Array.replicate (nt - l'.size) undef) ∧ nt ≤ (l' ++ Array.replicate (nt - l'.size) undef).size := by
  refine ⟨hargs ρ _ _ hall (fun i v' hv => ?_) (fun p v hv => by simp [PT.get_leaf] at hv), by simp; omega⟩
  have hlt : i < l'.size := by have := (List.getElem?_eq_some_iff.1 hv).1; simpa using this
  simp only [Pos.idx, Nat.zero_add]
  rw [Array.getElem?_append_left hlt, ← Array.getElem?_toList]
  exact hv

theorem closeMarks_sound {ex : Ex} (hex : ExOK P ex) {k : H → Ans} : ∀ {l : List Mk} {A : H}, closeMarks P ex l A k = .ok → ∃ A', k A' = .ok ∧ ∀ (ρ : RM) (w : World) (ds : List Deferred), Rel ρ A w → MkRel ρ l ds →
    ∀ (n : Nat) (fn : Func) (tmps : Array Value) (R : Ending → World → Prop), (∀ w' ρ', Stp ρ A w ρ' A' w' → Rel ρ' A' w' → LeavesIn (FW none) n P fn tmps R [] .returning w') → LeavesInM (FW none) n P fn tmps R ds .returning w
  | [], A, h => ⟨A, h, fun ρ w ds hr hm n fn tmps R hq => by cases hm; exact hq w ρ .refl hr⟩
  | m :: l, A, h => by
    have h' : (match m with
      | .col p => match A.t.get p with
        | some (.dfr true) => A.setK p (some (.dfr false)) fun A => closeMarks P ex l A k
        | _ => .err 9 0 0
      | .fn g args cap => match P.funcs[g.idx]? with
        | some fn => match fn.body with
          | some c => match fn.name == "runtime.NumGoroutine" with
            | false =>
              putArgs (args ++ cap) .z .leaf fun tm =>
              ex ⟨none, g.idx, fn.ntmps⟩ c tm A [] fun e tm A marks => match marks with
                | [] => match e with
                  | .normal | .ret => match resultsV A P tm fn.results.toList with
                    | some _ => closeMarks P ex l A k
                    | none => .err 9 3 0
                  | _ => .err 9 4 0
                | _ => .err 9 5 0
            | true => .err 9 6 0
          | none => .err 9 7 0
        | none => .err 9 8 0) = .ok := h
    split at h'
    · rename_i p
      split at h'
      · rename_i hp
        rw [H.setK_eq] at h'
        obtain ⟨A', hk, hg⟩ := closeMarks_sound hex h'
        refine ⟨A', hk, fun ρ w ds hr hm n fn tmps R hq => ?_⟩
        cases hm with
        | @col _ rb _ ds hm1 hm2 =>
          have ho : w.heap[rb.blk]? = some (.deferred (some [])) := by simpa [ORel] using hr.obj _ _ _ hp hm1
          have hlt := (hr.dom _ _ hm1).2
          let w1 : World := { w with heap := w.heap.setIfInBounds rb.blk (.deferred none) }
          have hturn : Turned w rb.blk w1 := ⟨by simp [w1], rfl, rfl, rfl, fun j hj => by simp [w1, Array.getElem?_setIfInBounds_ne (Ne.symm hj)]⟩
          obtain ⟨hr2, hs2⟩ := hr.turn (o' := .dfr false) hp hm1 rfl rfl hturn (by show w1.heap[rb.blk]? = _; simp [w1, hlt])
          refine ⟨by simp, .inl ⟨rb.blk, w1, rfl, ?_, ?_⟩⟩
          · simp [Instr.takeDeferred, getObj, setObj, Sem.run, ho, w1, bind, Sem.bind]
          · exact hg ρ w1 ds hr2 hm2 n fn tmps R fun w' ρ' hs' hr' => hq w' ρ' (hs2.trans hs') hr'
      · cases h'
    · rename_i g args cap
      split at h'
      · rename_i fn hf
        split at h'
        · rename_i c hbody
          split at h'
          · rename_i hname
            obtain ⟨tm, hk0, hargs⟩ := putArgs_ok h'
            obtain ⟨e, tm', A1, marks', hk1, hrun⟩ := hex _ _ _ _ _ _ hk0
            split at hk1
            · have hcases : (e = .normal ∨ e = .ret) ∧ (match resultsV A1 P tm' fn.results.toList with
                    | some _ => closeMarks P ex l A1 k
                    | none => .err 9 3 0) = .ok := by
                cases e with
                | normal => exact ⟨.inl rfl, hk1⟩
                | ret => exact ⟨.inr rfl, hk1⟩
                | exit _ => cases hk1
                | goto _ => cases hk1
              obtain ⟨he, hk2⟩ := hcases
              split at hk2
              · rename_i vs hres
                obtain ⟨A', hk, hg⟩ := closeMarks_sound hex hk2
                refine ⟨A', hk, fun ρ w ds hr hm n fn0 tmps R hq => ?_⟩
                cases hm with
                | @fn _ _ _ as' cs' _ ds ha hc hm2 =>
                  have hall : VRs ρ (args ++ cap) (as' ++ cs').toList := by simpa using ha.append hc
                  refine ⟨by simp, .inr ⟨fun h => by simp [Fence.wide] at h, .func g.idx, cs', g.idx, as' ++ cs', rfl, ?_, fun _ _ => trivial, ?_⟩⟩
                  · simp [invoke, callFunc, hf, hbody]; simpa using hname
                  · have hd := callsDIn_of_wp (F := FW none) (n := n - 1) (u := .returning) (w := w) (args := as' ++ cs') (R := fun e w' => ∃ ρ' v, e = .returned v ∧ Stp ρ A w ρ' A1 w' ∧ Rel ρ' A1 w') hf hbody trivial
                      (by
                        obtain ⟨ht0, hn0⟩ := args_rel (nt := fn.ntmps) hall hargs
                        refine hrun ρ w _ none hr ht0 hn0 .nil trivial (n - 1) _ fun ρ' w' a' hs' hr' ht' hsz hmk => ?_
                        obtain ⟨vs', hv1, hv2⟩ := resultsV_sound (P := P) hr' ht' hres
                        have hdf : a'.defers = [] := by
                          generalize hd0 : a'.defers = dd at hmk
                          cases hmk; rfl
                        have hrs : ∃ v, (results fn a'.tmps).run P w' = .ok v w' := by
                          refine ⟨if h : vs'.toArray.size = 1 then vs'.toArray[0] else .tuple vs'.toArray, ?_⟩
                          simp only [results, Sem.run_bind]
                          rw [Array.mapM_eq_mapM_toList]
                          simp only [Sem.run_map]
                          exact (congrArg (fun r => (r.andThen fun a w' => Result.ok a.toArray w').andThen fun a w' => Result.ok (if h : a.size = 1 then a[0] else Value.tuple a) w') hv2).trans rfl
                        obtain ⟨v, hv⟩ := hrs
                        rcases he with rfl | rfl
                        · exact ⟨hdf, v, hv, ρ', v, rfl, hs', hr'⟩
                        · exact ⟨hdf, v, hv, ρ', v, rfl, hs', hr'⟩)
                    refine hd.mono ?_
                    rintro e u' w' ⟨rfl, ρ', v, rfl, hs', hr'⟩
                    exact hg ρ' w' ds hr' (hm2.mono hs'.le) n fn0 tmps R fun w2 ρ2 hs2 hr2 => hq w2 ρ2 (hs'.trans hs2) hr2
              · cases hk2
            · cases hk1
          · cases h'
        · cases h'
      · cases h'

theorem appFunc_sound {ex : Ex} (hex : ExOK P ex) {f : Pos} {first captured args : List AV} {A : H} {k : AV → H → Ans} (h : appV P ex (.func f first captured) args A k = .ok) :
    ∃ v A', k v A' = .ok ∧ ∀ (ρ : RM) (w : World) (fs cs args' : Array Value), Rel ρ A w → VRs ρ first fs.toList → VRs ρ captured cs.toList → VRs ρ args args'.toList →
      (∀ w, (callFunc f.idx ((fs ++ args') ++ cs)).run P w = .ok (.enter f.idx ((fs ++ args') ++ cs)) w) ∧
      ∀ n, CallsIn (FW none) n P f.idx ((fs ++ args') ++ cs) w fun e w' => ∃ ρ' v', e = .returned v' ∧ Stp ρ A w ρ' A' w' ∧ Rel ρ' A' w' ∧ VR ρ' v v' := by
  unfold appV at h
  simp only at h
  split at h
  · rename_i fn hf
    split at h
    · rename_i c hname hbody
      obtain ⟨tm, hk, hargs⟩ := putArgs_ok h
      obtain ⟨e, tm', A', marks', hk2, hrun⟩ := hex _ _ _ _ _ _ hk
      have hcases : (e = .normal ∨ e = .ret) ∧ (closeMarks P ex marks' A' fun A => match resultsV A P tm' fn.results.toList with
            | some l => fList l fun l => k (oneOrTup l) A
            | none => .err 10 f.idx 0) = .ok := by
        cases e with
        | normal => exact ⟨.inl rfl, hk2⟩
        | ret => exact ⟨.inr rfl, hk2⟩
        | exit _ => cases hk2
        | goto _ => cases hk2
      obtain ⟨he, hk3⟩ := hcases
      obtain ⟨A2, hk4, hmarks⟩ := closeMarks_sound (P := P) hex hk3
      split at hk4
      · rename_i l hres
        rw [fList_eq] at hk4
        refine ⟨_, A2, hk4, fun ρ w fs cs args' hr hfs hcs hargs' => ⟨fun w => ?_, fun n => ?_⟩⟩
        · simp [callFunc, hf, hbody]; simpa using hname
        · refine callsIn_of_wp_marks hf hbody trivial ?_
          have hall : VRs ρ (first ++ (args ++ captured)) ((fs ++ args') ++ cs).toList := by
            simpa [List.append_assoc] using hfs.append (hargs'.append hcs)
          refine hrun ρ w _ none hr (hargs ρ _ _ hall (fun i v' hv => ?_) (fun p v hv => by simp [PT.get_leaf] at hv)) ?_ .nil trivial n _ ?_
          · have hlt : i < ((fs ++ args') ++ cs).size := by have := (List.getElem?_eq_some_iff.1 hv).1; simpa using this
            simp only [Pos.idx, Nat.zero_add]
            rw [Array.getElem?_append_left hlt, ← Array.getElem?_toList]
            exact hv
          · simp; omega
          · intro ρ' w' a' hs' hr' ht' hsz hmk
            have : LeavesInM (FW none) n P fn a'.tmps (fun e w' => ∃ ρ' v', e = .returned v' ∧ Stp ρ A w ρ' A2 w' ∧ Rel ρ' A2 w' ∧ VR ρ' (oneOrTup l) v') a'.defers .returning w' := by
              refine hmarks ρ' w' a'.defers hr' hmk n fn a'.tmps _ fun w2 ρ2 hs2 hr2 => ?_
              obtain ⟨vs', hv1, hv2⟩ := resultsV_sound (P := P) hr2 (ht'.mono hs2.le) hres
              refine ⟨_, ?_, ρ2, _, rfl, hs'.trans hs2, hr2, oneOrTup_sound hv1⟩
              simp only [results, Sem.run_bind]
              rw [Array.mapM_eq_mapM_toList]
              simp only [Sem.run_map]
              exact (congrArg (fun r => (r.andThen fun a w' => Result.ok a.toArray w').andThen fun a w' => Result.ok (if h : a.size = 1 then a[0] else Value.tuple a) w') hv2).trans rfl
            rcases he with rfl | rfl
            · exact this
            · exact this
      · cases hk4
    · cases h
  · cases h

theorem zipPut_ok {nt : Nat} {k : Tm → Ans} : ∀ {ps : List Tmp} {vs : List AV} {tm : Tm}, zipPut nt ps vs tm k = .ok → ∃ tm', k tm' = .ok ∧ vs.length = ps.length ∧ ∀ (ρ : RM) (tmps : Array Value) (vs' : List Value), VRs ρ vs vs' → TmRel ρ tm tmps → nt ≤ tmps.size →
    TmRel ρ tm' ((ps.zip vs').foldl (fun tmps (x : Tmp × Value) => tmps.setIfInBounds x.1 x.2) tmps) ∧ ((ps.zip vs').foldl (fun tmps (x : Tmp × Value) => tmps.setIfInBounds x.1 x.2) tmps).size = tmps.size
  | [], vs, tm, h => by
    have h' : (match vs with | [] => k tm | _ => Ans.err 9 1 0) = .ok := h
    split at h'
    · exact ⟨tm, h', rfl, fun ρ tmps vs' hv ht _ => ⟨by simpa using ht, by simp⟩⟩
    · cases h'
  | p :: ps, vs, tm, h => by
    have h' : (match vs with | [] => Ans.err 9 2 0 | v :: vs => putTm nt tm (some p) v fun tm => zipPut nt ps vs tm k) = .ok := h
    split at h'
    · cases h'
    · rename_i v vs
      obtain ⟨h1, hd⟩ := putTm_ok h'
      obtain ⟨tm', hk, hlen, hr⟩ := zipPut_ok h1
      refine ⟨tm', hk, by simp [hlen], fun ρ tmps vs' hv ht hn => ?_⟩
      cases hv with
      | @cons _ v' _ l' hv1 hv2 =>
        have ht2 : TmRel ρ (Tm.put' tm (some p) v) (tmps.setIfInBounds p v') := TmRel.put (a := ⟨tmps, []⟩) (dst := some p) ht hv1 (fun d e => by cases e; exact Nat.lt_of_lt_of_le (hd p rfl) hn)
        obtain ⟨h3, h4⟩ := hr ρ _ l' hv2 ht2 (by simpa using hn)
        exact ⟨by simpa using h3, by simpa using h4⟩

theorem run_getLoop {l : Nat} {r : Loop} {w : World} (h : w.heap[l]? = some (.loop r)) : (Instr.getLoop l).run P w = .ok r w := by
  simp [Instr.getLoop, getObj, Sem.run, h, bind, Sem.bind, pure]

def World.putLoop (w : World) (l : Nat) (r : Loop) : World := { w with heap := w.heap.setIfInBounds l (.loop r) }
theorem putLoop_turned (w : World) (l : Nat) (r : Loop) : Turned w l (World.putLoop w l r) :=
  ⟨by simp [World.putLoop], rfl, rfl, rfl, fun j hj => by simp [World.putLoop, Array.getElem?_setIfInBounds_ne (Ne.symm hj)]⟩
theorem putLoop_at {w : World} {l : Nat} (r : Loop) (h : l < w.heap.size) : (World.putLoop w l r).heap[l]? = some (.loop r) := by simp [World.putLoop, h]
theorem run_setLoop {l : Nat} {r r' : Loop} {w : World} (h : w.heap[l]? = some (.loop r)) : (setObj l (.loop r')).run P w = .ok () (World.putLoop w l r') := by
  simp [setObj, Sem.run, h, World.putLoop]

/-- A loop's record is turned. -/
theorem Rel.loop {ρ : RM} {A : H} {w : World} (hr : Rel ρ A w) {p : Pos} {st : LoopState} {pend : Option Code} {tm : Tm} {fn : FuncId} {nt : Nat} {ps : Array Tmp} {as bd : Code} {d : Pos} (hp : A.t.get p = some (.loop st pend tm fn nt ps as bd d)) {rb : RB} (hm : ρ.m p = some rb)
    (st' : LoopState) (pend' : Option Code) : ∃ r : Loop, w.heap[rb.blk]? = some (.loop r) ∧ r.state = st ∧ r.pending = pend ∧ r.params = ps ∧ r.assign = as ∧ r.body = bd ∧ nt ≤ r.tmps.size ∧ TmRel ρ tm r.tmps ∧ (∃ rd, ρ.m d = some rd ∧ r.defers = rd.blk) ∧
      Rel ρ (A.set p (some (.loop st' pend' tm fn nt ps as bd d))) (World.putLoop w rb.blk { r with state := st', pending := pend' }) ∧ Stp ρ A w ρ (A.set p (some (.loop st' pend' tm fn nt ps as bd d))) (World.putLoop w rb.blk { r with state := st', pending := pend' }) := by
  obtain ⟨tmps, rd, fn', h0, h1, h2, h3⟩ := hr.obj _ _ _ hp hm
  have hlt := (hr.dom _ _ hm).2
  obtain ⟨hr2, hs2⟩ := hr.turn (o' := .loop st' pend' tm fn nt ps as bd d) hp hm rfl rfl (putLoop_turned w rb.blk _) ⟨tmps, rd, fn', h0, putLoop_at _ hlt, h2, h3⟩
  exact ⟨_, h1, rfl, rfl, rfl, rfl, rfl, h0, h2, ⟨rd, h3, rfl⟩, hr2, hs2⟩

theorem appYield_sound {ex : Ex} (hex : ExOK P ex) {l : Pos} {args : List AV} {A : H} {k : AV → H → Ans} (h : appV P ex (.yield l) args A k = .ok) :
    ∃ v A', k v A' = .ok ∧ ∀ (ρ : RM) (w : World) (rb : RB) (args' : Array Value), Rel ρ A w → ρ.m l = some rb → VRs ρ args args'.toList →
      ∃ f tmps assign body, (Instr.yield rb.blk args').run P w = .ok (.round rb.blk f tmps assign body) w ∧ ∀ n, RoundIn (FW none) n P rb.blk f tmps assign body w fun e w' => ∃ ρ' v', e = .returned v' ∧ Stp ρ A w ρ' A' w' ∧ Rel ρ' A' w' ∧ VR ρ' v v' := by
  unfold appV at h
  simp only at h
  split at h
  · rename_i st pend tm fn nt ps assign body d hl
    obtain ⟨tm1, hk, hlen, hzip⟩ := zipPut_ok h
    obtain ⟨e, tm2, A2, marks2, hk2, hrun⟩ := hex _ _ _ _ _ _ hk
    split at hk2
    · rename_i pend2 tm2' fn2 nt2 ps2 assign2 body2 d2 hl2
      rw [H.setK_eq] at hk2
      obtain ⟨e3, tm3, A3, marks3, hk3, hrun3⟩ := hex _ _ _ _ _ _ hk2
      split at hk3
      · rename_i st3 pend3 tm3' fn3 nt3 ps3 assign3 body3 d3 hl3
        -- what the round hands back
        have hres : ∃ A4 b, k (.bool b) A4 = .ok ∧ b = e3.jump.isNone ∧ A4 = A3.set l (some (.loop (if e3.jump.isNone then .ready else .done) e3.jump tm3' fn3 nt3 ps3 assign3 body3 d3)) := by
          cases e3 with
          | normal => simp only [H.setK_eq] at hk3; exact ⟨_, true, hk3, rfl, rfl⟩
          | ret => simp only [H.setK_eq] at hk3; exact ⟨_, false, hk3, rfl, rfl⟩
          | exit id => simp only [H.setK_eq] at hk3; exact ⟨_, false, hk3, rfl, rfl⟩
          | goto t => simp only [H.setK_eq] at hk3; exact ⟨_, false, hk3, rfl, rfl⟩
        obtain ⟨A4, b, hk4, rfl, rfl⟩ := hres
        refine ⟨_, _, hk4, fun ρ w rb args' hr hm hargs => ?_⟩
        obtain ⟨r, hw1, hst, hpe, hps, has, hbd, hnt, htm, hd, _, _⟩ := hr.loop hl hm st pend
        have hsz : args'.size = ps.size := by have := hargs.length; simp at this hlen; omega
        refine ⟨r.fn, (ps.zip args').foldl (fun tmps (x : Tmp × Value) => tmps.setIfInBounds x.1 x.2) r.tmps, r.assign, r.body, ?_, fun n => ?_⟩
        · simp only [Instr.yield, Sem.run_bind, run_getLoop hw1, Result.andThen_ok, hps]
          rw [if_neg (by simp [hsz])]
          rfl
        · refine roundIn_of_wpIn (F := FW none) trivial ?_
          obtain ⟨ht1, hs1⟩ := hzip ρ r.tmps args'.toList hargs htm hnt
          have hfold : (ps.zip args').foldl (fun tmps (x : Tmp × Value) => tmps.setIfInBounds x.1 x.2) r.tmps = (ps.toList.zip args'.toList).foldl (fun tmps (x : Tmp × Value) => tmps.setIfInBounds x.1 x.2) r.tmps := by
            rw [← Array.foldl_toList, Array.toList_zip]
          rw [has, hbd]
          rw [← hfold] at ht1 hs1
          refine hrun ρ w ⟨(ps.zip args').foldl (fun tmps (x : Tmp × Value) => tmps.setIfInBounds x.1 x.2) r.tmps, []⟩ (some rb.blk) hr ht1 (by show nt ≤ ((ps.zip args').foldl (fun tmps (x : Tmp × Value) => tmps.setIfInBounds x.1 x.2) r.tmps).size; rw [hs1]; exact hnt) .nil ⟨rb, hm, rfl⟩ n _ fun ρ1 w1 a1 st1 hr1 htm1 hsz1 hmk1 => ?_
          -- the assignments are done: the round begins
          have hm1 := st1.le.2 _ _ hm
          obtain ⟨r1, hw2, hst1, hpe1, hps1, has1, hbd1, hnt1, htm1', hd1, hr2, hs2⟩ := hr1.loop hl2 hm1 .busy pend2
          show ∃ w₂, _ ∧ _
          refine ⟨World.putLoop w1 rb.blk { r1 with state := .busy, pending := pend2 }, ?_, ?_⟩
          · simp only [Instr.beginRound, Sem.run_bind, run_getLoop hw2, Result.andThen_ok]
            rw [show ({ r1 with state := .busy } : Loop) = { r1 with state := .busy, pending := pend2 } by rw [← hpe1]]
            rw [run_setLoop hw2]
            simp [hst1]
          · refine hrun3 ρ1 _ a1 (some rb.blk) hr2 htm1 (by rw [hsz1]; simp only; rw [hs1]; exact hnt) hmk1 ⟨rb, hm1, rfl⟩ n _ fun ρ3 w3 a3 st3' hr3 htm3 hsz3 hmk3 => ?_
            have hm3 := st3'.le.2 _ _ hm1
            obtain ⟨r3, hw3, hst3, hpe3, hps3, has3, hbd3, hnt3, htm3', hd3, hr4, hs4⟩ := hr3.loop hl3 hm3 (if e3.jump.isNone then .ready else .done) e3.jump
            have hall : Stp ρ A w ρ3 (A3.set l (some (.loop (if e3.jump.isNone then .ready else .done) e3.jump tm3' fn3 nt3 ps3 assign3 body3 d3))) (World.putLoop w3 rb.blk { r3 with state := (if e3.jump.isNone then .ready else .done), pending := e3.jump }) :=
              ((st1.trans hs2).trans st3').trans hs4
            have hend : (Instr.endRound rb.blk e3.jump).run P w3 = .ok (.bool e3.jump.isNone) (World.putLoop w3 rb.blk { r3 with state := (if e3.jump.isNone then .ready else .done), pending := e3.jump }) := by
              simp only [Instr.endRound, Sem.run_bind, run_getLoop hw3, Result.andThen_ok, run_setLoop hw3, Sem.run_pure]
            cases e3 with
            | normal => exact ⟨_, _, hend, ρ3, _, rfl, hall, hr4, .bool _⟩
            | ret => exact ⟨_, _, hend, ρ3, _, rfl, hall, hr4, .bool _⟩
            | exit id => exact ⟨_, _, hend, ρ3, _, rfl, hall, hr4, .bool _⟩
            | goto t => exact ⟨_, _, hend, ρ3, _, rfl, hall, hr4, .bool _⟩
      · cases hk3
    · cases hk2
  · cases h

theorem appV_sound {ex : Ex} (hex : ExOK P ex) : AppOK P (appV P ex) := by
  intro f args A k h
  cases f <;> first | (unfold appV at h; cases h; done) | skip
  · rename_i f first captured
    obtain ⟨v, A', hk, hg⟩ := appFunc_sound hex h
    refine ⟨v, A', hk, fun ρ w f' args' hr hf hargs => ?_⟩
    cases hf; rename_i fs cs hfs hcs
    obtain ⟨h1, h2⟩ := hg ρ w fs cs args' hr hfs hcs hargs
    exact .inl ⟨_, _, by simp only [callSem, Deferred.ofValue, Sem.run_bind, Sem.run_pure, Result.andThen_ok, invoke]; exact h1 w, h2⟩
  · rename_i l
    obtain ⟨v, A', hk, hg⟩ := appYield_sound hex h
    refine ⟨v, A', hk, fun ρ w f' args' hr hf hargs => ?_⟩
    cases hf; rename_i rb hm
    obtain ⟨f, tmps, assign, body, h1, h2⟩ := hg ρ w rb args' hr hm hargs
    exact .inr (.inr ⟨_, _, _, _, _, by simp only [callSem, Deferred.ofValue, Sem.run_bind, Sem.run_pure, Result.andThen_ok, invoke, Array.empty_append]; exact h1, h2⟩)

/-- An oracle that is right for a function. -/
def Good (P : Program) (f : FuncId) (o : Orc) : Prop :=
  ∀ args A k els, o args A k els = .ok → els = .ok ∨ ∃ v A', k v A' = .ok ∧ ∀ (ρ : RM) (w : World) (args' : Array Value), Rel ρ A w → VRs ρ args args'.toList → CallGives P A v A' ρ w (callFunc f args')
def OrOK (P : Program) (O : PT Orc) : Prop := ∀ f o, O.get f = some o → Good P f.idx o

theorem appO_sound {O : PT Orc} (hO : OrOK P O) {ex : Ex} (hex : ExOK P ex) : AppOK P (appO P O ex) := by
  intro f args A k h
  unfold appO at h
  split at h
  · rename_i f first captured
    split at h
    · rename_i o ho
      rcases hO f o ho _ _ _ _ h with h | ⟨v, A', hk, hg⟩
      · exact appV_sound hex _ _ _ _ h
      · refine ⟨v, A', hk, fun ρ w f' args' hr hf hargs => ?_⟩
        cases hf; rename_i fs cs hfs hcs
        have := hg ρ w ((fs ++ args') ++ cs) hr (by simpa [List.append_assoc] using hfs.append (hargs.append hcs))
        simpa only [callSem, Deferred.ofValue, Sem.run_bind, Sem.run_pure, Result.andThen_ok, invoke, CallGives] using this
    · exact appV_sound hex _ _ _ _ h
  · exact appV_sound hex _ _ _ _ h

theorem jumpExit_sound {j : Option Code} {e : AExit} (h : jumpExit j = some e) : j = e.jump := by
  unfold jumpExit at h
  split at h <;> first | (cases h; rfl) | cases h

/-- The one call of a range over a function, and the jump that a round has left. -/
theorem rangeTail {ex : Ex} (hex : ExOK P ex) {f : Pos} {first captured : List AV} {l : Pos} {tm : Tm} {A : H} {marks : List Mk} {k : Kont}
    (h : (appV P ex (.func f first captured) [.yield l] A fun _ A =>
        match A.t.get l with
        | some (.loop .busy ..) => .err 12 0 0
        | some (.loop _ pend tm1 fn nt ps assign body d) =>
          A.setK l (some (.loop .exhausted pend tm1 fn nt ps assign body d)) fun A =>
          match jumpExit pend with
          | some e => k e tm A marks
          | none => .err 12 1 0
        | _ => .err 12 2 0) = .ok) :
    ∃ e A', k e tm A' marks = .ok ∧ ∀ (ρ : RM) (w : World) (fs cs : Array Value) (rb : RB), Rel ρ A w → VRs ρ first fs.toList → VRs ρ captured cs.toList → ρ.m l = some rb →
      (∀ w, (callFunc f.idx ((fs ++ #[.func (.yield rb.blk) #[] #[]]) ++ cs)).run P w = .ok (.enter f.idx ((fs ++ #[.func (.yield rb.blk) #[] #[]]) ++ cs)) w) ∧
      ∀ (r : Option Nat) (m n : Nat) (Q : Exit → Act → World → Prop) (a' : Act), (∀ ρ' w', Stp ρ A w ρ' A' w' → Rel ρ' A' w' → Q e.conv a' w') →
        CallsIn (FW none) m P f.idx ((fs ++ #[.func (.yield rb.blk) #[] #[]]) ++ cs) w (rangePost (FW r) n P rb.blk Q a') := by
  obtain ⟨v, A2, hk, hg⟩ := appFunc_sound hex h
  have hres : ∃ st pend tm1 fn nt ps assign body d e, A2.t.get l = some (.loop st pend tm1 fn nt ps assign body d) ∧ st ≠ .busy ∧ pend = e.jump ∧ k e tm (A2.set l (some (.loop .exhausted pend tm1 fn nt ps assign body d))) marks = .ok := by
    split at hk
    · cases hk
    · rename_i st pend tm1 fn nt ps assign body d hnb hl
      rw [H.setK_eq] at hk
      split at hk
      · rename_i e he
        exact ⟨st, pend, tm1, fn, nt, ps, assign, body, d, e, hl, fun e' => by subst e'; first | exact hnb rfl | exact hnb _ _ _ _ _ _ _ _ hl | exact hnb _ _ _ _ _ _ _ _ rfl, jumpExit_sound he, hk⟩
      · cases hk
    · cases hk
  obtain ⟨st, pend, tm1, fn, nt, ps, assign, body, d, e, hl, hnb, hpe, hk4⟩ := hres
  refine ⟨e, _, hk4, fun ρ w fs cs rb hr hfs hcs hm => ?_⟩
  obtain ⟨h1, h2⟩ := hg ρ w fs cs #[.func (.yield rb.blk) #[] #[]] hr hfs hcs (.cons (.yield hm) .nil)
  refine ⟨h1, fun r m n Q a' hq => (h2 m).mono ?_⟩
  rintro e' w3 ⟨ρ', v', rfl, hs, hr3, _⟩
  have hm3 := hs.le.2 _ _ hm
  obtain ⟨r1, hw1, hst1, hpe1, hps1, has1, hbd1, hnt1, htm1', hd1, hr2, hs2⟩ := hr3.loop hl hm3 .exhausted pend
  have hq' := hq ρ' _ (hs.trans hs2) hr2
  show ∃ jump w₄, _ ∧ _
  refine ⟨pend, World.putLoop w3 rb.blk { r1 with state := .exhausted, pending := pend }, ?_, ?_⟩
  · have hb : (r1.state == LoopState.busy) = false := by rw [hst1]; cases st <;> first | rfl | exact absurd rfl hnb
    simp only [Instr.endLoop, Sem.run_bind, run_getLoop hw1, Result.andThen_ok, hb, Bool.false_eq_true, if_false, Sem.run_pure]
    rw [show ({ r1 with state := .exhausted } : Loop) = { r1 with state := .exhausted, pending := pend } by rw [← hpe1]]
    rw [run_setLoop hw1]
    simp [hpe1]
  · subst hpe
    cases e with
    | normal => exact hq'
    | ret => exact wpIn_ret hq'
    | exit id => exact wpIn_exit hq'
    | goto t => exact wpIn_goto hq'

theorem ORel.loop_new {ρ : RM} {tm : Tm} {fn fn' : FuncId} {nt : Nat} {ps : Array Tmp} {as bd : Code} {d : Pos} {rd : RB} {tmps : Array Value} {w : World} (ht : TmRel ρ tm tmps) (hn : nt ≤ tmps.size) (hd : ρ.m d = some rd) :
    ORel ρ (.loop .ready none tm fn nt ps as bd d) ⟨w.heap.size, 0, 0⟩ (w.alloc (.loop { state := .ready, pending := none, fn := fn', tmps := tmps, params := ps, assign := as, body := bd, defers := rd.blk })) :=
  ⟨tmps, rd, fn', hn, heap_alloc_new w _, ht, hd⟩

theorem rangeK_sound {ex : Ex} (hex : ExOK P ex) {fx : Fx} {g : Operand} {ps : Array Tmp} {assign body : Code} {tm : Tm} {A : H} {marks : List Mk} {k : Kont} (h : rangeK P ex fx g ps assign body tm A marks k = .ok) :
    ∃ e tm' A' marks', k e tm' A' marks' = .ok ∧
    ∀ (ρ : RM) (w : World) (a : Act) (r : Option Nat), Rel ρ A w → TmRel ρ tm a.tmps → fx.nt ≤ a.tmps.size → MkRel ρ marks a.defers → RndRel ρ fx.rnd r →
      ∀ (n : Nat) (Q : Exit → Act → World → Prop), Post ρ A w a tm' A' marks' (Q e.conv) → (Code.rangeFunc g ps assign body).wpIn (FW r) n P Q a w := by
  unfold rangeK at h
  split at h
  · rename_i f first captured hg
    simp only at h
    split at h
    · -- an outermost loop: a block for what rounds defer, and its mark
      rename_i hrnd
      rw [H.newK_eq, H.newK_eq] at h
      obtain ⟨e, A', hk, ht⟩ := rangeTail hex h
      refine ⟨e, tm, A', .col A.next :: marks, hk, fun ρ w a r hr htm hn hmk hrr n Q hq => ?_⟩
      rw [hrnd] at hrr
      cases r with
      | some _ => exact hrr.elim
      | none =>
        have hv := VR.ev htm hg
        generalize hgv : a.eval g = gv at hv
        cases hv; rename_i fs cs hfs hcs
        obtain ⟨hr1, hs1⟩ := hr.new (.dfr true) (.deferred (some [])) 0 (by show (w.alloc _).heap[w.heap.size]? = _; rw [heap_alloc_new]; rfl)
        have hd1 : (ρ.at A.next ⟨w.heap.size, 0, 0⟩).m A.next = some ⟨w.heap.size, 0, 0⟩ := RM.at_self _ _ _
        refine wpIn_rangeFunc fun fn _ => ?_
        obtain ⟨hr2, hs2⟩ := hr1.new (.loop .ready none tm fx.fn fx.nt ps assign body A.next) (.loop { state := .ready, pending := none, fn := fn, tmps := a.tmps, params := ps, assign := assign, body := body, defers := w.heap.size }) 0
          (ORel.loop_new (rd := ⟨w.heap.size, 0, 0⟩) ((htm.mono hs1.le).mono (RM.le_at hr1.fresh_none)) hn ((RM.le_at hr1.fresh_none).2 _ _ hd1))
        have hm2 := RM.at_self (ρ.at A.next ⟨w.heap.size, 0, 0⟩) (A.new (.dfr true)).next ⟨(w.alloc (.deferred (some []))).heap.size, 0, 0⟩
        have hle2 := hs1.le.trans hs2.le
        obtain ⟨c1, c2⟩ := ht _ _ fs cs _ hr2 (hfs.mono hle2) (hcs.mono hle2) hm2
        refine ⟨(w.alloc (.deferred (some []))).heap.size, [{ target := .collected w.heap.size, args := #[] }], ((w.alloc (.deferred (some []))).alloc (.loop { state := .ready, pending := none, fn := fn, tmps := a.tmps, params := ps, assign := assign, body := body, defers := w.heap.size })), { target := .fn (.func f.idx) cs, args := fs ++ #[.func (.yield (w.alloc (.deferred (some []))).heap.size) #[] #[]] }, ((w.alloc (.deferred (some []))).alloc (.loop { state := .ready, pending := none, fn := fn, tmps := a.tmps, params := ps, assign := assign, body := body, defers := w.heap.size })), f.idx, _, _, ?_, ?_, fun _ _ => trivial, c1 _, fun h => by simp [Fence.wide] at h, ?_⟩
        · simp only [Instr.enterLoop, Sem.run_bind, run_newObj, Result.andThen_ok, Sem.run_pure, World.alloc_eq]
        · simp [resolve, hgv, Deferred.ofValue, show ∀ v, a.eval (.const v) = v from fun _ => rfl]
        · refine c2 none _ n Q _ fun ρ' w' hs' hr' => ?_
          have hall := (hs1.trans hs2).trans hs'
          refine hq ρ' w' _ hall hr' (htm.mono hall.le) rfl ?_
          exact .col (rb := ⟨w.heap.size, 0, 0⟩) (hs'.le.2 _ _ (hs2.le.2 _ _ hd1)) (hmk.mono hall.le)
    · -- a loop within a round
      rename_i lp hrnd
      split at h
      · rename_i st pend tm1 fn1 nt1 ps1 as1 bd1 d hlp
        rw [H.newK_eq] at h
        obtain ⟨e, A', hk, ht⟩ := rangeTail hex h
        refine ⟨e, tm, A', marks, hk, fun ρ w a r hr htm hn hmk hrr n Q hq => ?_⟩
        rw [hrnd] at hrr
        cases r with
        | none => exact hrr.elim
        | some b =>
          obtain ⟨rb, hm, rfl⟩ := hrr
          have hv := VR.ev htm hg
          generalize hgv : a.eval g = gv at hv
          cases hv; rename_i fs cs hfs hcs
          obtain ⟨r0, hw0, _, _, _, _, _, _, _, ⟨rd, hrd, hdef⟩, _, _⟩ := hr.loop hlp hm st pend
          refine wpIn_rangeFunc fun fn _ => ?_
          obtain ⟨hr2, hs2⟩ := hr.new (.loop .ready none tm fx.fn fx.nt ps assign body d) (.loop { state := .ready, pending := none, fn := fn, tmps := a.tmps, params := ps, assign := assign, body := body, defers := rd.blk }) 0
            (ORel.loop_new (htm.mono (RM.le_at hr.fresh_none)) hn ((RM.le_at hr.fresh_none).2 _ _ hrd))
          have hm2 := RM.at_self ρ A.next ⟨w.heap.size, 0, 0⟩
          obtain ⟨c1, c2⟩ := ht _ _ fs cs _ hr2 (hfs.mono hs2.le) (hcs.mono hs2.le) hm2
          refine ⟨w.heap.size, [], (w.alloc (.loop { state := .ready, pending := none, fn := fn, tmps := a.tmps, params := ps, assign := assign, body := body, defers := rd.blk })), { target := .fn (.func f.idx) cs, args := fs ++ #[.func (.yield w.heap.size) #[] #[]] }, (w.alloc (.loop { state := .ready, pending := none, fn := fn, tmps := a.tmps, params := ps, assign := assign, body := body, defers := rd.blk })), f.idx, _, _, ?_, ?_, fun _ _ => trivial, c1 _, fun h => by simp [Fence.wide] at h, ?_⟩
          · simp only [Instr.enterLoop, Sem.run_bind, run_getLoop hw0, run_newObj, Result.andThen_ok, Sem.run_pure, World.alloc_eq, hdef]
          · simp [resolve, hgv, Deferred.ofValue, show ∀ v, a.eval (.const v) = v from fun _ => rfl]
          · refine c2 (some rb.blk) _ n Q _ fun ρ' w' hs' hr' => ?_
            have hall := hs2.trans hs'
            exact hq ρ' w' _ hall hr' (htm.mono hall.le) rfl (hmk.mono hall.le)
      · cases h
  · cases h

/-! ### Scopes -/
theorem scopeK_sound {ex : Ex} (hex : ExOK P ex) {fx : Fx} {body : Code} {k : Kont} : ∀ (m : Nat) (c : Code) (tm : Tm) (A : H) (marks : List Mk), scopeK ex fx body k m c tm A marks = .ok →
    ∃ e tm' A' marks' j, k e tm' A' marks' = .ok ∧
    ∀ (ρ : RM) (w : World) (a : Act) (r : Option Nat), Rel ρ A w → TmRel ρ tm a.tmps → fx.nt ≤ a.tmps.size → MkRel ρ marks a.defers → RndRel ρ fx.rnd r →
      ∀ (n : Nat) (Q : Exit → Act → World → Prop), Post ρ A w a tm' A' marks' (Q e.conv) → c.wpIn (FW r) n P (scopeQ (FW r) n P Q body j) a w
  | 0, _, _, _, _, h => by cases h
  | m + 1, c, tm, A, marks, h => by
    have h' : (ex fx c tm A marks fun e tm A marks => match e with
      | .goto l => match findLabel body l with
        | some rest => scopeK ex fx body k m rest tm A marks
        | none => k (.goto l) tm A marks
      | e => k e tm A marks) = .ok := h
    obtain ⟨e, tm1, A1, m1, hk, hg⟩ := hex _ _ _ _ _ _ h'
    cases e with
    | normal => exact ⟨.normal, tm1, A1, m1, 0, hk, fun ρ w a r hr ht hn hm hrr n Q hq => hg ρ w a r hr ht hn hm hrr n _ hq⟩
    | ret => exact ⟨.ret, tm1, A1, m1, 0, hk, fun ρ w a r hr ht hn hm hrr n Q hq => hg ρ w a r hr ht hn hm hrr n _ hq⟩
    | exit id => exact ⟨.exit id, tm1, A1, m1, 0, hk, fun ρ w a r hr ht hn hm hrr n Q hq => hg ρ w a r hr ht hn hm hrr n _ hq⟩
    | goto l =>
      simp only at hk
      cases hl : findLabel body l with
      | none =>
        simp only [hl] at hk
        refine ⟨.goto l, tm1, A1, m1, 0, hk, fun ρ w a r hr ht hn hm hrr n Q hq => hg ρ w a r hr ht hn hm hrr n _ fun ρ' w' a' h1 h2 h3 h4 h5 => ?_⟩
        show scopeQ (FW r) n P Q body 0 (.goto l) a' w'
        simp only [scopeQ, hl]
        exact hq ρ' w' a' h1 h2 h3 h4 h5
      | some rest =>
        simp only [hl] at hk
        obtain ⟨e2, tm2, A2, m2, j, hk2, hg2⟩ := scopeK_sound hex m rest tm1 A1 m1 hk
        refine ⟨e2, tm2, A2, m2, j + 1, hk2, fun ρ w a r hr ht hn hm hrr n Q hq => hg ρ w a r hr ht hn hm hrr n _ fun ρ1 w1 a1 hs1 hr1 ht1 hsz1 hm1 => ?_⟩
        show scopeQ (FW r) n P Q body (j + 1) (.goto l) a1 w1
        simp only [scopeQ, hl]
        exact hg2 ρ1 w1 a1 r hr1 ht1 (by rw [hsz1]; exact hn) hm1 (hrr.mono hs1.le) n Q fun ρ2 w2 a2 hs2 hr2 ht2 hsz2 hm2 => hq ρ2 w2 a2 (hs1.trans hs2) hr2 ht2 (hsz2.trans hsz1) hm2

/-! ### Code -/
theorem execCode_plain (hmix : P.follows .mixedOrders = true) {O : PT Orc} (hO : OrOK P O) {ex : Ex} (hex : ExOK P ex) {fx : Fx} {c : Code} {tm : Tm} {A : H} {marks : List Mk} {k : Kont} (hnl : ∀ b, c ≠ .loop b) (h : execCode P O ex fx c tm A marks k = .ok) :
    ∃ e tm' A' marks', k e tm' A' marks' = .ok ∧
    ∀ (ρ : RM) (w : World) (a : Act) (r : Option Nat), Rel ρ A w → TmRel ρ tm a.tmps → fx.nt ≤ a.tmps.size → MkRel ρ marks a.defers → RndRel ρ fx.rnd r →
      ∀ (n : Nat) (Q : Exit → Act → World → Prop), Post ρ A w a tm' A' marks' (Q e.conv) → c.wpIn (FW r) n P Q a w := by
  have happ := appO_sound hO hex
  unfold execCode at h
  split at h
  · exact ⟨.normal, tm, A, marks, h, fun ρ w a r hr ht hn hm hrr n Q hq => wpIn_skip (hq ρ w a .refl hr ht rfl hm)⟩
  · exact ⟨.normal, tm, A, marks, h, fun ρ w a r hr ht hn hm hrr n Q hq => wpIn_label (hq ρ w a .refl hr ht rfl hm)⟩
  · rename_i id ops
    obtain ⟨tm', A', marks', hk, hg⟩ := execOps_sound happ ops.toList 0 0 tm A marks _ (by simp) h
    refine ⟨.normal, tm', A', marks', hk, fun ρ w a r hr ht hn hm hrr n Q hq => wpIn_region ?_⟩
    have := hg ρ w a r hr ht hn hm hrr n Q fun ρ' w' a' hs' hr' ht' hsz hdf => hq ρ' w' a' hs' hr' ht' hsz hdf
    rw [List.range_eq_range']
    simpa using this
  · rename_i id ops
    split at h
    · rename_i l hl
      obtain ⟨tm', A', hk, hg⟩ := execD_sound happ hl h
      refine ⟨.normal, tm', A', marks, hk, fun ρ w a r hr ht hn hm hrr n Q hq => wpIn_region_any hmix ?_⟩
      exact hg ρ w.drew a hr.drew ht hn r n Q fun ρ' w' a' hs' hr' ht' hsz hdf => hq ρ' w' a' (Stp.drew.trans hs') hr' ht' hsz (by rw [hdf]; exact hm.mono hs'.le)
    · cases h
  · rename_i x y
    obtain ⟨e, tm1, A1, m1, hk, hg⟩ := hex _ _ _ _ _ _ h
    cases e with
    | normal =>
      obtain ⟨e2, tm2, A2, m2, hk2, hg2⟩ := hex _ _ _ _ _ _ hk
      refine ⟨e2, tm2, A2, m2, hk2, fun ρ w a r hr ht hn hm hrr n Q hq => wpIn_seq ?_⟩
      refine hg ρ w a r hr ht hn hm hrr n _ fun ρ1 w1 a1 hs1 hr1 ht1 hsz1 hm1 => ?_
      exact hg2 ρ1 w1 a1 r hr1 ht1 (by rw [hsz1]; exact hn) hm1 (hrr.mono hs1.le) n Q fun ρ2 w2 a2 hs2 hr2 ht2 hsz2 hm2 => hq ρ2 w2 a2 (hs1.trans hs2) hr2 ht2 (hsz2.trans hsz1) hm2
    | ret => exact ⟨.ret, tm1, A1, m1, hk, fun ρ w a r hr ht hn hm hrr n Q hq => wpIn_seq (hg ρ w a r hr ht hn hm hrr n _ hq)⟩
    | exit id => exact ⟨.exit id, tm1, A1, m1, hk, fun ρ w a r hr ht hn hm hrr n Q hq => wpIn_seq (hg ρ w a r hr ht hn hm hrr n _ hq)⟩
    | goto t => exact ⟨.goto t, tm1, A1, m1, hk, fun ρ w a r hr ht hn hm hrr n Q hq => wpIn_seq (hg ρ w a r hr ht hn hm hrr n _ hq)⟩
  · rename_i x b1 b2
    split at h
    · rename_i he
      obtain ⟨e, tm1, A1, m1, hk, hg⟩ := hex _ _ _ _ _ _ h
      refine ⟨e, tm1, A1, m1, hk, fun ρ w a r hr ht hn hm hrr n Q hq => ?_⟩
      have hv := VR.ev ht he
      generalize hxv : a.eval x = xv at hv
      cases hv
      exact wpIn_cond_true hxv (hg ρ w a r hr ht hn hm hrr n Q hq)
    · rename_i he
      obtain ⟨e, tm1, A1, m1, hk, hg⟩ := hex _ _ _ _ _ _ h
      refine ⟨e, tm1, A1, m1, hk, fun ρ w a r hr ht hn hm hrr n Q hq => ?_⟩
      have hv := VR.ev ht he
      generalize hxv : a.eval x = xv at hv
      cases hv
      exact wpIn_cond_false hxv (hg ρ w a r hr ht hn hm hrr n Q hq)
    · cases h
  · rename_i id b
    obtain ⟨e, tm1, A1, m1, hk, hg⟩ := hex _ _ _ _ _ _ h
    cases e with
    | normal => exact ⟨.normal, tm1, A1, m1, hk, fun ρ w a r hr ht hn hm hrr n Q hq => wpIn_block (hg ρ w a r hr ht hn hm hrr n _ hq)⟩
    | ret => exact ⟨.ret, tm1, A1, m1, hk, fun ρ w a r hr ht hn hm hrr n Q hq => wpIn_block (hg ρ w a r hr ht hn hm hrr n _ hq)⟩
    | goto t => exact ⟨.goto t, tm1, A1, m1, hk, fun ρ w a r hr ht hn hm hrr n Q hq => wpIn_block (hg ρ w a r hr ht hn hm hrr n _ hq)⟩
    | exit j =>
      simp only at hk
      split at hk
      · rename_i hj
        have hj' : j = id := Nat.eq_of_beq_eq_true hj
        refine ⟨.normal, tm1, A1, m1, hk, fun ρ w a r hr ht hn hm hrr n Q hq => wpIn_block (hg ρ w a r hr ht hn hm hrr n _ fun ρ' w' a' h1 h2 h3 h4 h5 => ?_)⟩
        show Exit.inBlock id Q (.exit j) a' w'
        simp only [Exit.inBlock, hj', if_true]
        exact hq ρ' w' a' h1 h2 h3 h4 h5
      · rename_i hj
        have hj' : j ≠ id := fun e' => by subst e'; simp at hj
        refine ⟨.exit j, tm1, A1, m1, hk, fun ρ w a r hr ht hn hm hrr n Q hq => wpIn_block (hg ρ w a r hr ht hn hm hrr n _ fun ρ' w' a' h1 h2 h3 h4 h5 => ?_)⟩
        show Exit.inBlock id Q (.exit j) a' w'
        simp only [Exit.inBlock, if_neg hj']
        exact hq ρ' w' a' h1 h2 h3 h4 h5
  · rename_i b; exact absurd rfl (hnl b)
  · exact rangeK_sound hex h
  · exact ⟨_, tm, A, marks, h, fun ρ w a r hr ht hn hm hrr n Q hq => wpIn_exit (hq ρ w a .refl hr ht rfl hm)⟩
  · obtain ⟨e, tm1, A1, m1, j, hk, hg⟩ := scopeK_sound hex _ _ _ _ _ h
    exact ⟨e, tm1, A1, m1, hk, fun ρ w a r hr ht hn hm hrr n Q hq => wpIn_scope j (hg ρ w a r hr ht hn hm hrr n Q hq)⟩
  · exact ⟨_, tm, A, marks, h, fun ρ w a r hr ht hn hm hrr n Q hq => wpIn_goto (hq ρ w a .refl hr ht rfl hm)⟩
  · exact ⟨.ret, tm, A, marks, h, fun ρ w a r hr ht hn hm hrr n Q hq => wpIn_ret (hq ρ w a .refl hr ht rfl hm)⟩
  · cases h

/-- 'ExOK', and of a loop: by how many rounds. -/
def ExOKL (P : Program) (ex : Ex) : Prop :=
  ∀ fx c tm A marks k, ex fx c tm A marks k = .ok → ∃ e tm' A' marks' m, k e tm' A' marks' = .ok ∧
    ∀ (ρ : RM) (w : World) (a : Act) (r : Option Nat), Rel ρ A w → TmRel ρ tm a.tmps → fx.nt ≤ a.tmps.size → MkRel ρ marks a.defers → RndRel ρ fx.rnd r →
      ∀ (n : Nat) (Q : Exit → Act → World → Prop), Post ρ A w a tm' A' marks' (Q e.conv) → c.wpIn (FW r) n P Q a w ∧ ∀ b, c = .loop b → Code.roundsIn (FW r) n P b Q m a w

theorem ExOKL.ok {ex : Ex} (h : ExOKL P ex) : ExOK P ex := fun fx c tm A marks k hk =>
  let ⟨e, tm', A', marks', _, h1, h2⟩ := h fx c tm A marks k hk
  ⟨e, tm', A', marks', h1, fun ρ w a r hr ht hn hm hrr n Q hq => (h2 ρ w a r hr ht hn hm hrr n Q hq).1⟩

theorem execCode_sound (hmix : P.follows .mixedOrders = true) {O : PT Orc} (hO : OrOK P O) {ex : Ex} (hex : ExOKL P ex) : ExOKL P (execCode P O ex) := by
  intro fx c tm A marks k h
  by_cases hl : ∃ b, c = .loop b
  · obtain ⟨b, rfl⟩ := hl
    have h' : (ex fx b tm A marks fun e tm A marks => match e with
      | .normal => ex fx (.loop b) tm A marks k
      | e => k e tm A marks) = .ok := h
    obtain ⟨e, tm1, A1, m1, j, hk, hg⟩ := hex _ _ _ _ _ _ h'
    have plain : ∀ (hne : e ≠ .normal) (hk' : k e tm1 A1 m1 = .ok), ∃ e tm' A' marks' m, k e tm' A' marks' = .ok ∧
        ∀ (ρ : RM) (w : World) (a : Act) (r : Option Nat), Rel ρ A w → TmRel ρ tm a.tmps → fx.nt ≤ a.tmps.size → MkRel ρ marks a.defers → RndRel ρ fx.rnd r →
          ∀ (n : Nat) (Q : Exit → Act → World → Prop), Post ρ A w a tm' A' marks' (Q e.conv) → (Code.loop b).wpIn (FW r) n P Q a w ∧ ∀ b', Code.loop b = .loop b' → Code.roundsIn (FW r) n P b' Q m a w := by
      intro hne hk'
      refine ⟨e, tm1, A1, m1, 1, hk', fun ρ w a r hr ht hn hm hrr n Q hq => ?_⟩
      have hround : Code.roundsIn (FW r) n P b Q 1 a w := by
        rw [roundsIn_succ]
        refine (hg ρ w a r hr ht hn hm hrr n _ ?_).1
        cases e with
        | normal => exact absurd rfl hne
        | ret => exact hq
        | exit id => exact hq
        | goto t => exact hq
      exact ⟨wpIn_loop_rounds 1 hround, fun b' e' => by cases e'; exact hround⟩
    cases e with
    | ret => exact plain (by simp) hk
    | exit id => exact plain (by simp) hk
    | goto t => exact plain (by simp) hk
    | normal =>
      obtain ⟨e2, tm2, A2, m2, j2, hk2, hg2⟩ := hex _ _ _ _ _ _ hk
      refine ⟨e2, tm2, A2, m2, j2 + 1, hk2, fun ρ w a r hr ht hn hm hrr n Q hq => ?_⟩
      have hround : Code.roundsIn (FW r) n P b Q (j2 + 1) a w := by
        rw [roundsIn_succ]
        refine (hg ρ w a r hr ht hn hm hrr n _ fun ρ1 w1 a1 hs1 hr1 ht1 hsz1 hm1 => ?_).1
        exact (hg2 ρ1 w1 a1 r hr1 ht1 (by rw [hsz1]; exact hn) hm1 (hrr.mono hs1.le) n Q fun ρ2 w2 a2 hs2 hr2 ht2 hsz2 hm2 => hq ρ2 w2 a2 (hs1.trans hs2) hr2 ht2 (hsz2.trans hsz1) hm2).2 b rfl
      exact ⟨wpIn_loop_rounds _ hround, fun b' e' => by cases e'; exact hround⟩
  · have hnl : ∀ b, c ≠ .loop b := fun b e => hl ⟨b, e⟩
    obtain ⟨e, tm', A', marks', hk, hg⟩ := execCode_plain hmix hO hex.ok hnl h
    exact ⟨e, tm', A', marks', 0, hk, fun ρ w a r hr ht hn hm hrr n Q hq => ⟨hg ρ w a r hr ht hn hm hrr n Q hq, fun b e' => absurd e' (hnl b)⟩⟩

theorem exec_sound (hmix : P.follows .mixedOrders = true) {O : PT Orc} (hO : OrOK P O) : ∀ n, ExOKL P (exec P O n)
  | 0 => fun _ _ _ _ _ _ h => by cases h
  | n + 1 => execCode_sound hmix hO (exec_sound hmix hO n)

/-- **What the machine runs to 'true', the model's call returns.** -/
theorem runLaw_sound (hmix : P.follows .mixedOrders = true) {O : PT Orc} (hO : OrOK P O) {f : Nat} {args : List AV} {A : H} (h : runLaw P O (Pos.ofNat f) args A = .ok) (ρ : RM) (w : World) (args' : Array Value) (hr : Rel ρ A w) (ha : VRs ρ args args'.toList) :
    Calls P f args' w fun e w' => e = .returned (.bool true) ∧ ∃ ρ' A', Stp ρ A w ρ' A' w' ∧ Rel ρ' A' w' := by
  unfold runLaw at h
  obtain ⟨v, A', hk, hg⟩ := appFunc_sound (exec_sound hmix hO 1000000).ok h
  obtain ⟨_, h2⟩ := hg ρ w #[] #[] args' hr .nil .nil ha
  have hv : v = .bool true := by
    split at hk
    · rfl
    · cases hk
    · cases hk
  subst hv
  have h3 := callsIn_wide.1 (h2 0)
  rw [Pos.idx_ofNat] at h3
  simp only [Array.empty_append, Array.append_empty] at h3
  refine h3.mono ?_
  rintro e w' ⟨ρ', v', rfl, hs, hr', hvv⟩
  cases hvv
  exact ⟨rfl, ρ', A', hs, hr'⟩

end Go.AM
