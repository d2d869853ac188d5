/-
  THE MACHINE 'AM': CODE AGAINST A BASE: what a piece of code comes to, told from the state in which a function (or a loop) was entered: only what lay there then keeps its place. Loops need no renaming then: each round's end is told anew as the next round's beginning.
-/
import Derived.Test.YtcjilddpkekcgaaAmLoc
namespace Go.AM
variable {P : Program}

/-- From the state (tm, A), somewhere behind the base, the code comes to (tm', A'). -/
def CodeR (P : Program) (ρ0 : RM) (A0 : H) (w0 : World) (fx : Fx) (c : Code) (tm : Tm) (A : H) (e : AExit) (tm' : Tm) (A' : H) : Prop :=
  ∀ (ρ : RM) (w : World) (a : Act), Stp ρ0 A0 w0 ρ A w → Rel ρ A w → TmRel ρ tm a.tmps → fx.nt ≤ a.tmps.size → MkRel ρ [] a.defers →
    ∀ (n : Nat) (Q : Exit → Act → World → Prop), (∀ ρ' w' a', Stp ρ0 A0 w0 ρ' A' w' → Rel ρ' A' w' → TmRel ρ' tm' a'.tmps → a'.tmps.size = a.tmps.size → MkRel ρ' [] a'.defers → Q e.conv a' w') → c.wpIn (FW none) n P Q a w

section
variable {ρ0 : RM} {A0 : H} {w0 : World} {fx : Fx}

theorem CodeR.of {c : Code} {tm tm' : Tm} {A A' : H} {e : AExit} (hrnd : fx.rnd = none) (h : CodeOK P fx c tm A [] e tm' A' []) : CodeR P ρ0 A0 w0 fx c tm A e tm' A' :=
  fun ρ w a hs hr ht hn hm n Q hq => h ρ w a none hr ht hn hm (by rw [hrnd]; trivial) n Q fun ρ' w' a' h1 h2 h3 h4 h5 => hq ρ' w' a' (hs.trans h1) h2 h3 h4 h5

/-- What is known against every base is known. -/
theorem CodeOK.of_base {c : Code} {tm tm' : Tm} {A A' : H} {e : AExit} (hrnd : fx.rnd = none) (h : ∀ ρ0 w0, Rel ρ0 A w0 → CodeR P ρ0 A w0 fx c tm A e tm' A') : CodeOK P fx c tm A [] e tm' A' [] := by
  intro ρ w a r hr ht hn hm hrr n Q hq
  have h0 : r = none := by
    rw [hrnd] at hrr
    cases r with
    | none => rfl
    | some b => exact hrr.elim
  subst h0
  exact h ρ w hr ρ w a .refl hr ht hn hm n Q hq

theorem CodeR.seq {x y : Code} {tm tm1 tm2 : Tm} {A A1 A2 : H} {e : AExit} (hx : CodeR P ρ0 A0 w0 fx x tm A .normal tm1 A1) (hy : CodeR P ρ0 A0 w0 fx y tm1 A1 e tm2 A2) : CodeR P ρ0 A0 w0 fx (.seq x y) tm A e tm2 A2 := by
  intro ρ w a hs hr ht hn hm n Q hq
  refine wpIn_seq (hx ρ w a hs hr ht hn hm n _ fun ρ1 w1 a1 hs1 hr1 ht1 hsz1 hm1 => ?_)
  exact hy ρ1 w1 a1 hs1 hr1 ht1 (by rw [hsz1]; exact hn) hm1 n Q fun ρ2 w2 a2 hs2 hr2 ht2 hsz2 hm2 => hq ρ2 w2 a2 hs2 hr2 ht2 (hsz2.trans hsz1) hm2
theorem CodeR.seq_exit {x y : Code} {tm tm1 : Tm} {A A1 : H} {e : AExit} (he : e ≠ .normal) (hx : CodeR P ρ0 A0 w0 fx x tm A e tm1 A1) : CodeR P ρ0 A0 w0 fx (.seq x y) tm A e tm1 A1 := by
  intro ρ w a hs hr ht hn hm n Q hq
  refine wpIn_seq (hx ρ w a hs hr ht hn hm n _ fun ρ1 w1 a1 hs1 hr1 ht1 hsz1 hm1 => ?_)
  cases e with
  | normal => exact absurd rfl he
  | ret => exact hq ρ1 w1 a1 hs1 hr1 ht1 hsz1 hm1
  | exit id => exact hq ρ1 w1 a1 hs1 hr1 ht1 hsz1 hm1
  | goto l => exact hq ρ1 w1 a1 hs1 hr1 ht1 hsz1 hm1
theorem CodeR.block {id : Nat} {b : Code} {tm tm1 : Tm} {A A1 : H} (h : CodeR P ρ0 A0 w0 fx b tm A (.exit id) tm1 A1) : CodeR P ρ0 A0 w0 fx (.block id b) tm A .normal tm1 A1 := by
  intro ρ w a hs hr ht hn hm n Q hq
  refine wpIn_block (h ρ w a hs hr ht hn hm n _ fun ρ' w' a' h1 h2 h3 h4 h5 => ?_)
  show Exit.inBlock id Q (.exit id) a' w'
  simp only [Exit.inBlock, if_true]
  exact hq ρ' w' a' h1 h2 h3 h4 h5
theorem CodeR.block_other {id : Nat} {b : Code} {tm tm1 : Tm} {A A1 : H} {e : AExit} (he : e ≠ .exit id) (h : CodeR P ρ0 A0 w0 fx b tm A e tm1 A1) : CodeR P ρ0 A0 w0 fx (.block id b) tm A e tm1 A1 := by
  intro ρ w a hs hr ht hn hm n Q hq
  refine wpIn_block (h ρ w a hs hr ht hn hm n _ fun ρ' w' a' h1 h2 h3 h4 h5 => ?_)
  cases e with
  | normal => exact hq ρ' w' a' h1 h2 h3 h4 h5
  | ret => exact hq ρ' w' a' h1 h2 h3 h4 h5
  | goto t => exact hq ρ' w' a' h1 h2 h3 h4 h5
  | exit j =>
    have hj' : j ≠ id := fun e' => he (by rw [e'])
    show Exit.inBlock id Q (.exit j) a' w'
    simp only [Exit.inBlock, if_neg hj']
    exact hq ρ' w' a' h1 h2 h3 h4 h5
theorem CodeR.cond {x : Operand} {a b : Code} {t : Bool} {tm tm1 : Tm} {A A1 : H} {e : AExit} (hx : ev tm x = some (.bool t)) (h : CodeR P ρ0 A0 w0 fx (match t with | true => a | false => b) tm A e tm1 A1) : CodeR P ρ0 A0 w0 fx (.cond x a b) tm A e tm1 A1 := by
  intro ρ w ac hs hr ht hn hm n Q hq
  have hv := VR.ev ht hx
  generalize hxv : ac.eval x = xv at hv
  cases hv
  cases t with
  | true => exact wpIn_cond_true hxv (h ρ w ac hs hr ht hn hm n Q hq)
  | false => exact wpIn_cond_false hxv (h ρ w ac hs hr ht hn hm n Q hq)

/-- Less told of what it comes to, at other places; the base's places stay. -/
theorem CodeR.sel {c : Code} {tm tm1 tm' : Tm} {A A1 B : H} {e : AExit} {τ : Pos → Pos} (hr0 : Rel ρ0 A0 w0) (h : CodeR P ρ0 A0 w0 fx c tm A e tm1 A1) (hs : Sel τ A0.next.idx B A1) (ht : SubT τ tm' tm1) : CodeR P ρ0 A0 w0 fx c tm A e tm' B := by
  intro ρ w a hs0 hr htm hn hm n Q hq
  exact h ρ w a hs0 hr htm hn hm n Q fun ρ1 w1 a1 hs1 hr1 ht1 hsz1 hm1 => hq _ w1 a1 (hs.stp hr0 hs1) (hs.rel hr1) (ht1.sub ht) hsz1 (by rw [hm1.nil_of]; exact .nil)
theorem CodeR.less {c : Code} {tm tm1 tm' : Tm} {A A1 : H} {e : AExit} (h : CodeR P ρ0 A0 w0 fx c tm A e tm1 A1) (ht : Sub0 tm' tm1) : CodeR P ρ0 A0 w0 fx c tm A e tm' A1 := by
  intro ρ w a hs0 hr htm hn hm n Q hq
  exact h ρ w a hs0 hr htm hn hm n Q fun ρ1 w1 a1 hs1 hr1 ht1 hsz1 hm1 => hq _ w1 a1 hs1 hr1 (ht.tm ht1) hsz1 hm1

/-- A state told anew. -/
def Retell (ρ0 : RM) (A0 : H) (w0 : World) (tm : Tm) (A : H) (tm2 : Tm) (A2 : H) : Prop :=
  ∀ (ρ : RM) (w : World) (t : Array Value), Stp ρ0 A0 w0 ρ A w → Rel ρ A w → TmRel ρ tm t → ∃ ρ2, Stp ρ0 A0 w0 ρ2 A2 w ∧ Rel ρ2 A2 w ∧ TmRel ρ2 tm2 t
theorem Retell.sel {τ : Pos → Pos} {tm tm2 : Tm} {A A2 : H} (hr0 : Rel ρ0 A0 w0) (hs : Sel τ A0.next.idx A2 A) (ht : SubT τ tm2 tm) : Retell ρ0 A0 w0 tm A tm2 A2 :=
  fun _ _ _ h1 h2 h3 => ⟨_, hs.stp hr0 h1, hs.rel h2, h3.sub ht⟩
theorem Retell.trans {tm tm1 tm2 : Tm} {A A1 A2 : H} (h : Retell ρ0 A0 w0 tm A tm1 A1) (h' : Retell ρ0 A0 w0 tm1 A1 tm2 A2) : Retell ρ0 A0 w0 tm A tm2 A2 := fun ρ w t h1 h2 h3 =>
  let ⟨ρ1, g1, g2, g3⟩ := h ρ w t h1 h2 h3; h' ρ1 w t g1 g2 g3
theorem CodeR.pre {c : Code} {tm tm2 tm' : Tm} {A A2 A' : H} {e : AExit} (hw : Retell ρ0 A0 w0 tm A tm2 A2) (h : CodeR P ρ0 A0 w0 fx c tm2 A2 e tm' A') : CodeR P ρ0 A0 w0 fx c tm A e tm' A' := by
  intro ρ w a hs hr ht hn hm n Q hq
  obtain ⟨ρ2, h1, h2, h3⟩ := hw ρ w a.tmps hs hr ht
  exact h ρ2 w a h1 h2 h3 hn (by rw [hm.nil_of]; exact .nil) n Q hq
theorem CodeR.post {c : Code} {tm tm1 tm' : Tm} {A A1 A' : H} {e : AExit} (h : CodeR P ρ0 A0 w0 fx c tm A e tm1 A1) (hw : Retell ρ0 A0 w0 tm1 A1 tm' A') : CodeR P ρ0 A0 w0 fx c tm A e tm' A' := by
  intro ρ w a hs hr ht hn hm n Q hq
  refine h ρ w a hs hr ht hn hm n Q fun ρ1 w1 a1 hs1 hr1 ht1 hsz1 hm1 => ?_
  obtain ⟨ρ2, h1, h2, h3⟩ := hw ρ1 w1 a1.tmps hs1 hr1 ht1
  exact hq ρ2 w1 a1 h1 h2 h3 hsz1 (by rw [hm1.nil_of]; exact .nil)

/-! ### Loops -/
def LoopR (P : Program) (ρ0 : RM) (A0 : H) (w0 : World) (fx : Fx) (b : Code) (tm : Tm) (A : H) (e : AExit) (tm' : Tm) (A' : H) : Prop :=
  ∃ j, ∀ (ρ : RM) (w : World) (a : Act), Stp ρ0 A0 w0 ρ A w → Rel ρ A w → TmRel ρ tm a.tmps → fx.nt ≤ a.tmps.size → MkRel ρ [] a.defers →
    ∀ (n : Nat) (Q : Exit → Act → World → Prop), (∀ ρ' w' a', Stp ρ0 A0 w0 ρ' A' w' → Rel ρ' A' w' → TmRel ρ' tm' a'.tmps → a'.tmps.size = a.tmps.size → MkRel ρ' [] a'.defers → Q e.conv a' w') → Code.roundsIn (FW none) n P b Q j a w
theorem LoopR.code {b : Code} {tm tm' : Tm} {A A' : H} {e : AExit} (h : LoopR P ρ0 A0 w0 fx b tm A e tm' A') : CodeR P ρ0 A0 w0 fx (.loop b) tm A e tm' A' := by
  obtain ⟨j, hj⟩ := h
  exact fun ρ w a hs hr ht hn hm n Q hq => wpIn_loop_rounds j (hj ρ w a hs hr ht hn hm n Q hq)
theorem LoopR.stop {b : Code} {tm tm' : Tm} {A A' : H} {e : AExit} (he : e ≠ .normal) (h : CodeR P ρ0 A0 w0 fx b tm A e tm' A') : LoopR P ρ0 A0 w0 fx b tm A e tm' A' := by
  refine ⟨1, fun ρ w a hs hr ht hn hm n Q hq => ?_⟩
  rw [roundsIn_succ]
  refine h ρ w a hs hr ht hn hm n _ fun ρ1 w1 a1 hs1 hr1 ht1 hsz1 hm1 => ?_
  have := hq ρ1 w1 a1 hs1 hr1 ht1 hsz1 hm1
  cases e with
  | normal => exact absurd rfl he
  | ret => exact this
  | exit id => exact this
  | goto t => exact this
theorem LoopR.next {b : Code} {tm tm1 tm' : Tm} {A A1 A' : H} {e : AExit} (h : CodeR P ρ0 A0 w0 fx b tm A .normal tm1 A1) (hl : LoopR P ρ0 A0 w0 fx b tm1 A1 e tm' A') : LoopR P ρ0 A0 w0 fx b tm A e tm' A' := by
  obtain ⟨j, hj⟩ := hl
  refine ⟨j + 1, fun ρ w a hs hr ht hn hm n Q hq => ?_⟩
  rw [roundsIn_succ]
  refine h ρ w a hs hr ht hn hm n _ fun ρ1 w1 a1 hs1 hr1 ht1 hsz1 hm1 => ?_
  show Code.roundsIn (FW none) n P b Q j a1 w1
  exact hj ρ1 w1 a1 hs1 hr1 ht1 (by rw [hsz1]; exact hn) hm1 n Q fun ρ2 w2 a2 hs2 hr2 ht2 hsz2 hm2 => hq ρ2 w2 a2 hs2 hr2 ht2 (hsz2.trans hsz1) hm2
theorem LoopR.pre {b : Code} {tm tm2 tm' : Tm} {A A2 A' : H} {e : AExit} (hw : Retell ρ0 A0 w0 tm A tm2 A2) (h : LoopR P ρ0 A0 w0 fx b tm2 A2 e tm' A') : LoopR P ρ0 A0 w0 fx b tm A e tm' A' := by
  obtain ⟨j, hj⟩ := h
  refine ⟨j, fun ρ w a hs hr ht hn hm n Q hq => ?_⟩
  obtain ⟨ρ2, h1, h2, h3⟩ := hw ρ w a.tmps hs hr ht
  exact hj ρ2 w a h1 h2 h3 hn (by rw [hm.nil_of]; exact .nil) n Q hq
theorem LoopR.post {b : Code} {tm tm1 tm' : Tm} {A A1 A' : H} {e : AExit} (h : LoopR P ρ0 A0 w0 fx b tm A e tm1 A1) (hw : Retell ρ0 A0 w0 tm1 A1 tm' A') : LoopR P ρ0 A0 w0 fx b tm A e tm' A' := by
  obtain ⟨j, hj⟩ := h
  refine ⟨j, fun ρ w a hs hr ht hn hm n Q hq => ?_⟩
  refine hj ρ w a hs hr ht hn hm n Q fun ρ1 w1 a1 hs1 hr1 ht1 hsz1 hm1 => ?_
  obtain ⟨ρ2, h1, h2, h3⟩ := hw ρ1 w1 a1.tmps hs1 hr1 ht1
  exact hq ρ2 w1 a1 h1 h2 h3 hsz1 (by rw [hm1.nil_of]; exact .nil)

/-- **A loop by its states**: from state to state, until it ends. -/
theorem LoopR.run {b : Code} {X : Type} (tmS : X → Tm) (AS : X → H) {e : AExit} {tmF : Tm} {AF : H} (meas : X → Nat)
    (round : ∀ x, LoopR P ρ0 A0 w0 fx b (tmS x) (AS x) e tmF AF ∨ ∃ y, meas y < meas x ∧ CodeR P ρ0 A0 w0 fx b (tmS x) (AS x) .normal (tmS y) (AS y)) (x : X) : LoopR P ρ0 A0 w0 fx b (tmS x) (AS x) e tmF AF := by
  have key : ∀ k x, meas x ≤ k → LoopR P ρ0 A0 w0 fx b (tmS x) (AS x) e tmF AF := by
    intro k
    induction k with
    | zero =>
      intro x hx
      rcases round x with h | ⟨y, h1, _⟩
      · exact h
      · omega
    | succ k ih =>
      intro x hx
      rcases round x with h | ⟨y, h1, h2⟩
      · exact h
      · exact .next h2 (ih y (by omega))
  exact key _ x (Nat.le_refl _)
end

/-- A loop's block, known against every base. -/
theorem LocCode.block_of {fx : Fx} {id : Nat} {b : Code} {L0 F : HL} {s : List Nat} {N : Nat} {tm0 tmF tm tm' : List (Nat × AV)} {pre : List (Nat × HObj)} {post : List (Nat × Option HObj)} {news : HL} (hrnd : fx.rnd = none)
    (h : ∀ ρ0 w0, Rel ρ0 (mkH L0) w0 → LoopR P ρ0 (mkH L0) w0 fx b (mkTm tm0) (mkH L0) (.exit id) (mkTm tmF) (mkH F))
    (hl : s.length = L0.length) (hn : (liveS L0 s).Nodup) (hb : ∀ i ∈ s, i < N) (hF : L0.length ≤ F.length) (hro : noRo (F.drop L0.length)) (ht : LTmR (seat s N) tm0 (mkTm tm)) (ht' : LTm tm' (PT.map (AV.ren (seat s N)) (mkTm tmF)))
    (h1 : preL (seat s N) L0 s = pre) (h2 : postL (seat s N) L0 F s = post) (h3 : newsL (seat s N) L0.length F = news) : LocCode P fx (.block id (.loop b)) tm N pre .normal tm' post news :=
  LocCode.of (CodeOK.of_base hrnd fun ρ0 w0 hr0 => .block (h ρ0 w0 hr0).code) hrnd hl hn hb hF hro ht ht' h1 h2 h3
end Go.AM
