/-
  THE MACHINE 'AM': WHAT A PIECE OF CODE COMES TO FROM A GIVEN STATE, as a sentence of its own ('CodeOK', 'FunOK'); pieces are put together, loops by rounds.
-/
import Derived.Test.YtcjilddpkekcgaaAmSym
import Derived.Test.YtcjilddpkekcgaaAmFast4
namespace Go.AM
variable {P : Program}

/-- From there the code comes to there. -/
def CodeOK (P : Program) (fx : Fx) (c : Code) (tm : Tm) (A : H) (m : List Mk) (e : AExit) (tm' : Tm) (A' : H) (m' : List Mk) : Prop :=
  ∀ (ρ : RM) (w : World) (a : Act) (r : Option Nat), Rel ρ A w → TmRel ρ tm a.tmps → fx.nt ≤ a.tmps.size → MkRel ρ m a.defers → RndRel ρ fx.rnd r →
    ∀ (n : Nat) (Q : Exit → Act → World → Prop), Post ρ A w a tm' A' m' (Q e.conv) → c.wpIn (FW r) n P Q a w

/-- A call of the function comes to that. -/
def FunOK (P : Program) (f : FuncId) (args : List AV) (A : H) (v : AV) (A' : H) : Prop :=
  ∀ (ρ : RM) (w : World) (args' : Array Value), Rel ρ A w → VRs ρ args args'.toList → CallGives P A v A' ρ w (callFunc f args')

/-- Is that so? Then this, else that. -/
noncomputable def guardK (p : Prop) (a b : Ans) : Ans := @ite _ p (Classical.propDecidable _) a b
theorem guardK_pos {p : Prop} (h : p) (a b : Ans) : guardK p a b = a := by unfold guardK; rw [if_pos h]
/-- A runner that knows one run. -/
noncomputable def exAt (fx : Fx) (c : Code) (tm : Tm) (A : H) (m : List Mk) (e : AExit) (tm' : Tm) (A' : H) (m' : List Mk) : Ex := fun fx2 c2 tm2 A2 m2 k =>
  guardK (fx2 = fx ∧ c2 = c ∧ tm2 = tm ∧ A2 = A ∧ m2 = m) (k e tm' A' m') (.err 0 0 0)
theorem exAt_ok {fx : Fx} {c : Code} {tm : Tm} {A : H} {m : List Mk} {e : AExit} {tm' : Tm} {A' : H} {m' : List Mk} (h : CodeOK P fx c tm A m e tm' A' m') : ExOK P (exAt fx c tm A m e tm' A' m') := by
  intro fx2 c2 tm2 A2 m2 k hk
  unfold exAt guardK at hk
  split at hk
  · rename_i hc
    obtain ⟨rfl, rfl, rfl, rfl, rfl⟩ := hc
    exact ⟨e, tm', A', m', hk, fun ρ w a r h1 h2 h3 h4 h5 n Q hq => h ρ w a r h1 h2 h3 h4 h5 n Q hq⟩
  · cases hk
theorem exAt_self (fx : Fx) (c : Code) (tm : Tm) (A : H) (m : List Mk) (e : AExit) (tm' : Tm) (A' : H) (m' : List Mk) (k : Kont) : exAt fx c tm A m e tm' A' m' fx c tm A m k = k e tm' A' m' := by
  unfold exAt; rw [guardK_pos ⟨rfl, rfl, rfl, rfl, rfl⟩]

open Classical in
theorem CodeOK.of_ex {ex : Ex} (hex : ExOK P ex) {fx : Fx} {c : Code} {tm : Tm} {A : H} {m : List Mk} {e : AExit} {tm' : Tm} {A' : H} {m' : List Mk} (h : ∀ k : Kont, ex fx c tm A m k = k e tm' A' m') : CodeOK P fx c tm A m e tm' A' m' := by
  obtain ⟨e1, t1, A1, m1, hk, hg⟩ := hex fx c tm A m (fun e1 t1 A1 m1 => if e1 = e ∧ t1 = tm' ∧ A1 = A' ∧ m1 = m' then .ok else .err 0 0 0) (by rw [h]; simp)
  split at hk
  · rename_i hc
    obtain ⟨rfl, rfl, rfl, rfl⟩ := hc
    exact hg
  · cases hk

/-- A run of the machine. -/
theorem CodeOK.of_run (hmix : P.follows .mixedOrders = true) {O : PT Orc} (hO : OrOK P O) {N : Nat} {fx : Fx} {c : Code} {tm : Tm} {A : H} {m : List Mk} {e : AExit} {tm' : Tm} {A' : H} {m' : List Mk} (h : ∀ k : Kont, execF P O N fx c tm A m k = k e tm' A' m') : CodeOK P fx c tm A m e tm' A' m' :=
  .of_ex (exec_sound hmix hO N).ok (fun k => by rw [← execF_eq]; exact h k)

theorem CodeOK.seq {fx : Fx} {x y : Code} {tm tm1 tm2 : Tm} {A A1 A2 : H} {m m1 m2 : List Mk} {e : AExit} (hx : CodeOK P fx x tm A m .normal tm1 A1 m1) (hy : CodeOK P fx y tm1 A1 m1 e tm2 A2 m2) : CodeOK P fx (.seq x y) tm A m e tm2 A2 m2 := by
  intro ρ w a r hr ht hn hm hrr n Q hq
  refine wpIn_seq (hx ρ w a r hr ht hn hm hrr n _ fun ρ1 w1 a1 hs1 hr1 ht1 hsz1 hm1 => ?_)
  exact hy ρ1 w1 a1 r hr1 ht1 (by rw [hsz1]; exact hn) hm1 (hrr.mono hs1.le) n Q fun ρ2 w2 a2 hs2 hr2 ht2 hsz2 hm2 => hq ρ2 w2 a2 (hs1.trans hs2) hr2 ht2 (hsz2.trans hsz1) hm2
theorem CodeOK.seq_exit {fx : Fx} {x y : Code} {tm tm1 : Tm} {A A1 : H} {m m1 : List Mk} {e : AExit} (he : e ≠ .normal) (hx : CodeOK P fx x tm A m e tm1 A1 m1) : CodeOK P fx (.seq x y) tm A m e tm1 A1 m1 := by
  intro ρ w a r hr ht hn hm hrr n Q hq
  refine wpIn_seq (hx ρ w a r hr ht hn hm hrr n _ fun ρ1 w1 a1 hs1 hr1 ht1 hsz1 hm1 => ?_)
  cases e with
  | normal => exact absurd rfl he
  | ret => exact hq ρ1 w1 a1 hs1 hr1 ht1 hsz1 hm1
  | exit id => exact hq ρ1 w1 a1 hs1 hr1 ht1 hsz1 hm1
  | goto l => exact hq ρ1 w1 a1 hs1 hr1 ht1 hsz1 hm1

theorem OrOK.leaf : OrOK P .leaf := fun f o h => by rw [PT.get_leaf] at h; cases h

/-- A piece of which a part is known. -/
theorem CodeOK.part (hmix : P.follows .mixedOrders = true) {fx : Fx} {c c1 : Code} {tm tm1 tm1' tm' : Tm} {A A1 A1' A' : H} {m m1 m1' m' : List Mk} {e e1 : AExit} {fx1 : Fx} (hnl : ∀ b, c ≠ .loop b)
    (h1 : CodeOK P fx1 c1 tm1 A1 m1 e1 tm1' A1' m1') (h : ∀ k : Kont, execCode P .leaf (exAt fx1 c1 tm1 A1 m1 e1 tm1' A1' m1') fx c tm A m k = k e tm' A' m') : CodeOK P fx c tm A m e tm' A' m' :=
  .of_ex (ex := fun fx c tm A m k => @ite _ (∃ b, c = .loop b) (Classical.propDecidable _) (.err 0 0 0) (execCode P .leaf (exAt fx1 c1 tm1 A1 m1 e1 tm1' A1' m1') fx c tm A m k))
    (fun fx c tm A m k hk => by
      simp only at hk
      split at hk
      · cases hk
      · rename_i hb
        exact execCode_plain hmix OrOK.leaf (exAt_ok h1) (fun b e => hb ⟨b, e⟩) hk)
    (fun k => by rw [if_neg (fun ⟨b, e⟩ => hnl b e)]; exact h k)

theorem CodeOK.block (hmix : P.follows .mixedOrders = true) {fx : Fx} {id : Nat} {b : Code} {tm tm1 : Tm} {A A1 : H} {m m1 : List Mk} (h : CodeOK P fx b tm A m (.exit id) tm1 A1 m1) : CodeOK P fx (.block id b) tm A m .normal tm1 A1 m1 :=
  .part hmix (fun _ h => by cases h) h fun k => by
    unfold execCode
    simp only
    rw [exAt_self]
    simp
theorem CodeOK.block_other (hmix : P.follows .mixedOrders = true) {fx : Fx} {id : Nat} {b : Code} {tm tm1 : Tm} {A A1 : H} {m m1 : List Mk} {e : AExit} (he : e ≠ .exit id) (h : CodeOK P fx b tm A m e tm1 A1 m1) : CodeOK P fx (.block id b) tm A m e tm1 A1 m1 :=
  .part hmix (fun _ h => by cases h) h fun k => by
    unfold execCode
    simp only
    rw [exAt_self]
    cases e with
    | exit j =>
      have : Nat.beq j id = false := by
        cases h : Nat.beq j id with
        | false => rfl
        | true => exact absurd (by rw [Nat.eq_of_beq_eq_true h]) he
      simp only [this]
    | _ => rfl
theorem CodeOK.cond (hmix : P.follows .mixedOrders = true) {fx : Fx} {x : Operand} {a b : Code} {t : Bool} {tm tm1 : Tm} {A A1 : H} {m m1 : List Mk} {e : AExit} (hx : ev tm x = some (.bool t)) (h : CodeOK P fx (match t with | true => a | false => b) tm A m e tm1 A1 m1) : CodeOK P fx (.cond x a b) tm A m e tm1 A1 m1 :=
  .part hmix (fun _ h => by cases h) h fun k => by
    unfold execCode
    simp only [hx]
    cases t <;> exact exAt_self ..

/-! ### Functions -/
def putL : List AV → Pos → Tm → Tm
  | [], _, tm => tm
  | v :: l, p, tm => putL l p.succ (tm.put (some v) p)
theorem putArgs_eq : ∀ (l : List AV) (p : Pos) (tm : Tm) (k : Tm → Ans), putArgs l p tm k = k (putL l p tm)
  | [], _, _, _ => rfl
  | v :: l, p, tm, k => by
    show (tm.putK (some v) p fun tm => p.succK fun p => putArgs l p tm k) = _
    rw [PT.putK_eq, Pos.succK_eq]
    exact putArgs_eq l _ _ k

open Classical in
theorem FunOK.of_app {f : Pos} {args : List AV} {A : H} {v : AV} {A' : H} {ex : Ex} (hex : ExOK P ex) (h : ∀ k, appV P ex (.func f [] []) args A k = k v A') : FunOK P f.idx args A v A' := by
  intro ρ w args' hr ha
  obtain ⟨v1, A1, hk, hg⟩ := appFunc_sound (k := fun v1 A1 => if v1 = v ∧ A1 = A' then .ok else .err 0 0 0) hex (by rw [h]; simp)
  split at hk
  · rename_i hc
    obtain ⟨rfl, rfl⟩ := hc
    obtain ⟨h1, h2⟩ := hg ρ w #[] #[] args' hr .nil .nil ha
    simp only [Array.empty_append, Array.append_empty] at h1 h2
    exact .inl ⟨_, _, h1 w, h2⟩
  · cases hk

/-- A function whose body's run is known, and that leaves no deferred calls. -/
theorem FunOK.of_code {f : Nat} {fn : Func} {c : Code} (hf : P.funcs[f]? = some fn) (hb : fn.body = some c) (hname : (fn.name == "runtime.NumGoroutine") = false) {args : List AV} {A A' : H} {tm' : Tm} {e : AExit} (he : isRet e = true)
    (h : CodeOK P ⟨none, f, fn.ntmps⟩ c (putL args .z .leaf) A [] e tm' A' []) {l : List AV} (hl : resultsV A' P tm' fn.results.toList = some l) : FunOK P f args A (oneOrTup l) A' := by
  have key := FunOK.of_app (f := Pos.ofNat f) (args := args) (A := A) (v := oneOrTup l) (A' := A') (exAt_ok h) fun k => by
    unfold appV
    simp only [Pos.idx_ofNat, hf, hname, hb, List.nil_append, List.append_nil, putArgs_eq]
    rw [exAt_self]
    cases e with
    | normal => simp only [closeMarks, hl]; exact fList_eq l _
    | ret => simp only [closeMarks, hl]; exact fList_eq l _
    | exit _ => cases he
    | goto _ => cases he
  rwa [Pos.idx_ofNat] at key

/-- A run of the machine. -/
theorem FunOK.of_run (hmix : P.follows .mixedOrders = true) {O : PT Orc} (hO : OrOK P O) {N f : Nat} {args : List AV} {A A' : H} {v : AV} (h : ∀ k, bodyF P (execF P O N) (Pos.ofNat f) [] [] args A k = k v A') : FunOK P f args A v A' := by
  have := FunOK.of_app (f := Pos.ofNat f) (args := args) (A := A) (v := v) (A' := A') (exec_sound hmix hO N).ok fun k => by rw [← bodyF_eq, ← execF_eq]; exact h k
  rwa [Pos.idx_ofNat] at this

/-- What is known of a function's calls, as an answer for it: at one state alone. -/
noncomputable def orcAt (args : List AV) (A : H) (v : AV) (A' : H) : Orc := fun args2 A2 k _ => guardK (args2 = args ∧ A2 = A) (k v A') (.err 0 0 0)
theorem FunOK.good {f : FuncId} {args : List AV} {A : H} {v : AV} {A' : H} (h : FunOK P f args A v A') : Good P f (orcAt args A v A') := by
  intro args2 A2 k els hk
  unfold orcAt guardK at hk
  split at hk
  · rename_i hc
    obtain ⟨rfl, rfl⟩ := hc
    exact .inr ⟨v, A', hk, fun ρ w args' hr ha => h ρ w args' hr ha⟩
  · cases hk

/-! ### In a larger heap -/
theorem CallGives.frame {σ : Pos → Pos} {A0 A A1 A' : H} (he : Emb σ A0 A) (hg : Glue σ A0 A A1 A') {ρ : RM} {w : World} (hr : Rel ρ A w) {v : AV} {s : Sem Next} (h : CallGives P A0 v A1 (ρ.pull σ) w s) : CallGives P A (v.ren σ) A' ρ w s := by
  have key : ∀ {ρ1 : RM} {w1 : World} {v' : Value}, Stp (ρ.pull σ) A0 w ρ1 A1 w1 → Rel ρ1 A1 w1 → VR ρ1 v v' → ∃ ρ', Stp ρ A w ρ' A' w1 ∧ Rel ρ' A' w1 ∧ VR ρ' (v.ren σ) v' := by
    intro ρ1 w1 v' hs h1 hv
    obtain ⟨ρ', g1, g2, g3⟩ := he.back hg hr hs h1
    exact ⟨ρ', g1, g2, by rw [g3] at hv; exact hv.pull⟩
  rcases h with ⟨g, as, h1, h2⟩ | ⟨ρ1, w1, v', h1, h2, h3, h4⟩ | ⟨l, f, tmps, as, bd, h1, h2⟩
  · refine .inl ⟨g, as, h1, fun n => (h2 n).mono ?_⟩
    rintro e w1 ⟨ρ1, v', q1, q2, q3, q4⟩
    obtain ⟨ρ', g1, g2, g3⟩ := key q2 q3 q4
    exact ⟨ρ', v', q1, g1, g2, g3⟩
  · obtain ⟨ρ', g1, g2, g3⟩ := key h1 h2 h3
    exact .inr (.inl ⟨ρ', w1, v', g1, g2, g3, h4⟩)
  · refine .inr (.inr ⟨l, f, tmps, as, bd, h1, fun n => (h2 n).mono ?_⟩)
    rintro e w1 ⟨ρ1, v', q1, q2, q3, q4⟩
    obtain ⟨ρ', g1, g2, g3⟩ := key q2 q3 q4
    exact ⟨ρ', v', q1, g1, g2, g3⟩

theorem FunOK.frame {f : FuncId} {args : List AV} {v : AV} {σ : Pos → Pos} {A0 A A1 A' : H} (h : FunOK P f args A0 v A1) (he : Emb σ A0 A) (hg : Glue σ A0 A A1 A') : FunOK P f (AV.rens σ args) A (v.ren σ) A' :=
  fun ρ w args' hr ha => (h (ρ.pull σ) w args' (he.rel hr) ha.push).frame he hg hr

/-- With less told of what it comes to. -/
theorem FunOK.sel {f : FuncId} {args : List AV} {v v' : AV} {τ : Pos → Pos} {A A1 B : H} (h : FunOK P f args A v A1) (hs : Sel τ A.next.idx B A1) (hv : v = v'.ren τ) : FunOK P f args A v' B := by
  intro ρ w args' hr ha
  have key : ∀ {ρ1 : RM} {w1 : World} {u : Value}, Stp ρ A w ρ1 A1 w1 → Rel ρ1 A1 w1 → VR ρ1 v u → ∃ ρ', Stp ρ A w ρ' B w1 ∧ Rel ρ' B w1 ∧ VR ρ' v' u := fun h1 h2 h3 =>
    ⟨_, hs.stp hr h1, hs.rel h2, by subst hv; exact h3.push⟩
  rcases h ρ w args' hr ha with ⟨g, as, h1, h2⟩ | ⟨ρ1, w1, u, h1, h2, h3, h4⟩ | ⟨l, f, tmps, as, bd, h1, h2⟩
  · refine .inl ⟨g, as, h1, fun n => (h2 n).mono ?_⟩
    rintro e w1 ⟨ρ1, u, q1, q2, q3, q4⟩
    obtain ⟨ρ', g1, g2, g3⟩ := key q2 q3 q4
    exact ⟨ρ', u, q1, g1, g2, g3⟩
  · obtain ⟨ρ', g1, g2, g3⟩ := key h1 h2 h3
    exact .inr (.inl ⟨ρ', w1, u, g1, g2, g3, h4⟩)
  · refine .inr (.inr ⟨l, f, tmps, as, bd, h1, fun n => (h2 n).mono ?_⟩)
    rintro e w1 ⟨ρ1, u, q1, q2, q3, q4⟩
    obtain ⟨ρ', g1, g2, g3⟩ := key q2 q3 q4
    exact ⟨ρ', u, q1, g1, g2, g3⟩

def SubT (σ : Pos → Pos) (tm0 tm : Tm) : Prop := ∀ p v, tm0.get p = some v → tm.get p = some (v.ren σ)
theorem TmRel.sub {ρ : RM} {σ : Pos → Pos} {tm0 tm : Tm} {t : Array Value} (hs : SubT σ tm0 tm) (h : TmRel ρ tm t) : TmRel (ρ.pull σ) tm0 t := fun p v e =>
  let ⟨v', h1, h2⟩ := h p _ (hs p v e); ⟨v', h1, h2.push⟩
theorem MkRel.nil_of {ρ : RM} {ds : List Deferred} (h : MkRel ρ [] ds) : ds = [] := by cases h; rfl

theorem CodeOK.frame {fx : Fx} {c : Code} {tm0 tm tm1 : Tm} {σ : Pos → Pos} {A0 A A1 A' : H} {e : AExit} (h : CodeOK P fx c tm0 A0 [] e tm1 A1 []) (hrnd : fx.rnd = none) (he : Emb σ A0 A) (ht : SubT σ tm0 tm) (hg : Glue σ A0 A A1 A') :
    CodeOK P fx c tm A [] e (PT.map (AV.ren σ) tm1) A' [] := by
  intro ρ w a r hr htm hn hm hrr n Q hq
  refine h (ρ.pull σ) w a r (he.rel hr) (htm.sub ht) hn (by rw [hm.nil_of]; exact .nil) (by rw [hrnd] at hrr ⊢; cases r with | none => trivial | some _ => exact hrr.elim) n Q fun ρ1 w1 a1 hs1 hr1 ht1 hsz1 hm1 => ?_
  obtain ⟨ρ', g1, g2, g3⟩ := he.back hg hr hs1 hr1
  exact hq ρ' w1 a1 g1 g2 (by rw [g3] at ht1; exact ht1.pull) hsz1 (by rw [hm1.nil_of]; exact .nil)
theorem CodeOK.sel {fx : Fx} {c : Code} {tm tm1 tm1' : Tm} {τ : Pos → Pos} {A A1 B : H} {e : AExit} (h : CodeOK P fx c tm A [] e tm1 A1 []) (hs : Sel τ A.next.idx B A1) (ht : SubT τ tm1' tm1) : CodeOK P fx c tm A [] e tm1' B [] := by
  intro ρ w a r hr htm hn hm hrr n Q hq
  refine h ρ w a r hr htm hn hm hrr n Q fun ρ1 w1 a1 hs1 hr1 ht1 hsz1 hm1 => ?_
  exact hq _ w1 a1 (hs.stp hr hs1) (hs.rel hr1) (ht1.sub ht) hsz1 (by rw [hm1.nil_of]; exact .nil)

/-! ### Loops -/
/-- A round, and what stands behind it. -/
def RoundOK (P : Program) (fx : Fx) (b : Code) {X : Type} (meas : X → Nat) (tmS : X → Tm) (AS : X → H) (e : X → AExit) (tmF : X → Tm) (AF : X → H) (x : X) : Prop :=
  (∃ tm1 A1 τ, e x ≠ .normal ∧ CodeOK P fx b (tmS x) (AS x) [] (e x) tm1 A1 [] ∧ Sel τ (AS x).next.idx (AF x) A1 ∧ SubT τ (tmF x) tm1) ∨
  (∃ x' tm1 A1 σ G τ, meas x' < meas x ∧ e x' = e x ∧ CodeOK P fx b (tmS x) (AS x) [] .normal tm1 A1 [] ∧ Emb σ (AS x') A1 ∧ SubT σ (tmS x') tm1 ∧ Glue σ (AS x') A1 (AF x') G ∧
    Sel τ (AS x).next.idx (AF x) G ∧ SubT τ (tmF x) (PT.map (AV.ren σ) (tmF x')))

theorem CodeOK.loopN {fx : Fx} (hrnd : fx.rnd = none) {b : Code} {X : Type} (meas : X → Nat) {tmS : X → Tm} {AS : X → H} {e : X → AExit} {tmF : X → Tm} {AF : X → H}
    (round : ∀ x, RoundOK P fx b meas tmS AS e tmF AF x) : ∀ (k : Nat) (x : X), meas x ≤ k → ∃ j, ∀ (ρ : RM) (w : World) (a : Act) (r : Option Nat), Rel ρ (AS x) w → TmRel ρ (tmS x) a.tmps → fx.nt ≤ a.tmps.size → MkRel ρ [] a.defers → RndRel ρ fx.rnd r →
    ∀ (n : Nat) (Q : Exit → Act → World → Prop), Post ρ (AS x) w a (tmF x) (AF x) [] (Q (e x).conv) → Code.roundsIn (FW r) n P b Q j a w := by
  intro k
  induction k with
  | zero =>
    intro x hx
    rcases round x with ⟨tm1, A1, τ, hne, hc, hs, ht⟩ | ⟨x', _, _, _, _, _, hlt, _⟩
    · refine ⟨1, fun ρ w a r hr htm hn hm hrr n Q hq => ?_⟩
      rw [roundsIn_succ]
      refine (hc.sel hs ht) ρ w a r hr htm hn hm hrr n _ fun ρ1 w1 a1 hs1 hr1 ht1 hsz1 hm1 => ?_
      have := hq ρ1 w1 a1 hs1 hr1 ht1 hsz1 hm1
      cases he : e x with
      | normal => exact absurd he hne
      | ret => rw [he] at this; exact this
      | exit id => rw [he] at this; exact this
      | goto t => rw [he] at this; exact this
    · omega
  | succ k ih =>
    intro x hx
    rcases round x with ⟨tm1, A1, τ, hne, hc, hs, ht⟩ | ⟨x', tm1, A1, σ, G, τ, hlt, hee, hc, hemb, hsub, hglue, hsel, hsubF⟩
    · refine ⟨1, fun ρ w a r hr htm hn hm hrr n Q hq => ?_⟩
      rw [roundsIn_succ]
      refine (hc.sel hs ht) ρ w a r hr htm hn hm hrr n _ fun ρ1 w1 a1 hs1 hr1 ht1 hsz1 hm1 => ?_
      have := hq ρ1 w1 a1 hs1 hr1 ht1 hsz1 hm1
      cases he : e x with
      | normal => exact absurd he hne
      | ret => rw [he] at this; exact this
      | exit id => rw [he] at this; exact this
      | goto t => rw [he] at this; exact this
    · obtain ⟨j, hj⟩ := ih x' (by omega)
      refine ⟨j + 1, fun ρ w a r hr htm hn hm hrr n Q hq => ?_⟩
      rw [roundsIn_succ]
      refine hc ρ w a r hr htm hn hm hrr n _ fun ρ1 w1 a1 hs1 hr1 ht1 hsz1 hm1 => ?_
      show Code.roundsIn (FW r) n P b Q j a1 w1
      refine hj (ρ1.pull σ) w1 a1 r (hemb.rel hr1) (ht1.sub hsub) (by rw [hsz1]; exact hn) (by rw [hm1.nil_of]; exact .nil) (by rw [hrnd] at hrr ⊢; cases r with | none => trivial | some _ => exact hrr.elim) n Q fun ρ2 w2 a2 hs2 hr2 ht2 hsz2 hm2 => ?_
      rw [hee]
      obtain ⟨ρ3, g1, g2, g3⟩ := hemb.back hglue hr1 hs2 hr2
      rw [g3] at ht2
      exact hq _ w2 a2 (hsel.stp hr (hs1.trans g1)) (hsel.rel g2) (ht2.pull.sub hsubF) (hsz2.trans hsz1) (by rw [hm2.nil_of]; exact .nil)

theorem CodeOK.loops {fx : Fx} (hrnd : fx.rnd = none) {b : Code} {X : Type} (meas : X → Nat) {tmS : X → Tm} {AS : X → H} {e : X → AExit} {tmF : X → Tm} {AF : X → H}
    (round : ∀ x, RoundOK P fx b meas tmS AS e tmF AF x) (x : X) : CodeOK P fx (.loop b) (tmS x) (AS x) [] (e x) (tmF x) (AF x) [] := by
  obtain ⟨j, hj⟩ := CodeOK.loopN hrnd meas round (meas x) x (Nat.le_refl _)
  exact fun ρ w a r hr htm hn hm hrr n Q hq => wpIn_loop_rounds j (hj ρ w a r hr htm hn hm hrr n Q hq)

end Go.AM
