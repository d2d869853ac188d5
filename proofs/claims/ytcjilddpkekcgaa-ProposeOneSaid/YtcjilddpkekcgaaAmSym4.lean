/-
  THE MACHINE 'AM': RUNS WITH HOLES: at a block that is known already the machine takes what is known, if it stands in the very state; it goes on behind.
-/
import Derived.Test.YtcjilddpkekcgaaAmSym3
namespace Go.AM
variable {P : Program}

/-! ### Loops by their rounds -/
def LoopOK (P : Program) (fx : Fx) (b : Code) (tm : Tm) (A : H) (e : AExit) (tm' : Tm) (A' : H) : Prop :=
  ∃ j, ∀ (ρ : RM) (w : World) (a : Act) (r : Option Nat), Rel ρ A w → TmRel ρ tm a.tmps → fx.nt ≤ a.tmps.size → MkRel ρ [] a.defers → RndRel ρ fx.rnd r →
    ∀ (n : Nat) (Q : Exit → Act → World → Prop), Post ρ A w a tm' A' [] (Q e.conv) → Code.roundsIn (FW r) n P b Q j a w
theorem LoopOK.code {fx : Fx} {b : Code} {tm : Tm} {A : H} {e : AExit} {tm' : Tm} {A' : H} (h : LoopOK P fx b tm A e tm' A') : CodeOK P fx (.loop b) tm A [] e tm' A' [] := by
  obtain ⟨j, hj⟩ := h
  exact fun ρ w a r hr htm hn hm hrr n Q hq => wpIn_loop_rounds j (hj ρ w a r hr htm hn hm hrr n Q hq)
theorem LoopOK.stop {fx : Fx} {b : Code} {tm : Tm} {A : H} {e : AExit} {tm' : Tm} {A' : H} (he : e ≠ .normal) (h : CodeOK P fx b tm A [] e tm' A' []) : LoopOK P fx b tm A e tm' A' := by
  refine ⟨1, fun ρ w a r hr htm hn hm hrr n Q hq => ?_⟩
  rw [roundsIn_succ]
  refine h ρ w a r hr htm hn hm hrr n _ fun ρ1 w1 a1 hs1 hr1 ht1 hsz1 hm1 => ?_
  have := hq ρ1 w1 a1 hs1 hr1 ht1 hsz1 hm1
  cases e with
  | normal => exact absurd rfl he
  | ret => exact this
  | exit id => exact this
  | goto t => exact this
theorem LoopOK.next {fx : Fx} {b : Code} {tm tm1 : Tm} {A A1 : H} {e : AExit} {tm' : Tm} {A' : H} (h : CodeOK P fx b tm A [] .normal tm1 A1 []) (hl : LoopOK P fx b tm1 A1 e tm' A') : LoopOK P fx b tm A e tm' A' := by
  obtain ⟨j, hj⟩ := hl
  refine ⟨j + 1, fun ρ w a r hr htm hn hm hrr n Q hq => ?_⟩
  rw [roundsIn_succ]
  refine h ρ w a r hr htm hn hm hrr n _ fun ρ1 w1 a1 hs1 hr1 ht1 hsz1 hm1 => ?_
  exact hj ρ1 w1 a1 r hr1 ht1 (by rw [hsz1]; exact hn) hm1 (hrr.mono hs1.le) n Q fun ρ2 w2 a2 hs2 hr2 ht2 hsz2 hm2 => hq ρ2 w2 a2 (hs1.trans hs2) hr2 ht2 (hsz2.trans hsz1) hm2
theorem LoopOK.frame {fx : Fx} {b : Code} {tm0 tm tm1 : Tm} {σ : Pos → Pos} {A0 A A1 A' : H} {e : AExit} (h : LoopOK P fx b tm0 A0 e tm1 A1) (hrnd : fx.rnd = none) (he : Emb σ A0 A) (ht : SubT σ tm0 tm) (hg : Glue σ A0 A A1 A') :
    LoopOK P fx b tm A e (PT.map (AV.ren σ) tm1) A' := by
  obtain ⟨j, hj⟩ := h
  refine ⟨j, fun ρ w a r hr htm hn hm hrr n Q hq => ?_⟩
  refine hj (ρ.pull σ) w a r (he.rel hr) (htm.sub ht) hn (by rw [hm.nil_of]; exact .nil) (by rw [hrnd] at hrr ⊢; cases r with | none => trivial | some _ => exact hrr.elim) n Q fun ρ1 w1 a1 hs1 hr1 ht1 hsz1 hm1 => ?_
  obtain ⟨ρ', g1, g2, g3⟩ := he.back hg hr hs1 hr1
  exact hq ρ' w1 a1 g1 g2 (by rw [g3] at ht1; exact ht1.pull) hsz1 (by rw [hm1.nil_of]; exact .nil)
theorem LoopOK.sel {fx : Fx} {b : Code} {tm tm1 tm1' : Tm} {τ : Pos → Pos} {A A1 B : H} {e : AExit} (h : LoopOK P fx b tm A e tm1 A1) (hs : Sel τ A.next.idx B A1) (ht : SubT τ tm1' tm1) : LoopOK P fx b tm A e tm1' B := by
  obtain ⟨j, hj⟩ := h
  refine ⟨j, fun ρ w a r hr htm hn hm hrr n Q hq => ?_⟩
  refine hj ρ w a r hr htm hn hm hrr n Q fun ρ1 w1 a1 hs1 hr1 ht1 hsz1 hm1 => ?_
  exact hq _ w1 a1 (hs.stp hr hs1) (hs.rel hr1) (ht1.sub ht) hsz1 (by rw [hm1.nil_of]; exact .nil)

theorem LoopOK.loops {fx : Fx} (hrnd : fx.rnd = none) {b : Code} {X : Type} (meas : X → Nat) {tmS : X → Tm} {AS : X → H} {e : X → AExit} {tmF : X → Tm} {AF : X → H}
    (round : ∀ x, RoundOK P fx b meas tmS AS e tmF AF x) (x : X) : LoopOK P fx b (tmS x) (AS x) (e x) (tmF x) (AF x) := CodeOK.loopN hrnd meas round (meas x) x (Nat.le_refl _)

/-- A state told anew ahead of a loop: what is there is more than the loop asks for. -/
theorem LoopOK.enter {fx : Fx} (hrnd : fx.rnd = none) {b : Code} {tm tm0 tm1 tm' : Tm} {σ τ : Pos → Pos} {A A0 A1 G B : H} {e : AExit} (h : LoopOK P fx b tm0 A0 e tm1 A1) (he : Emb σ A0 A) (ht : SubT σ tm0 tm) (hg : Glue σ A0 A A1 G)
    (hs : Sel τ A.next.idx B G) (hs' : SubT τ tm' (PT.map (AV.ren σ) tm1)) : LoopOK P fx b tm A e tm' B := (h.frame hrnd he ht hg).sel hs hs'

/-! ### Holes -/
/-- A hole: its function, its block's number (a region's: 1000 and its number), what is known there. -/
structure Hole where
  fn : Nat
  id : Nat
  ex : Ex
noncomputable def holeK (l : List Hole) (f id : Nat) : (Ex → Ans) → Ans → Ans :=
  @List.rec Hole (fun _ => (Ex → Ans) → Ans → Ans) (fun _ e => e) (fun h _ ih g e => boolK (Nat.beq h.fn f) (boolK (Nat.beq h.id id) (g h.ex) (ih g e)) (ih g e)) l
theorem holeK_ok {l : List Hole} {f id : Nat} {g : Ex → Ans} {e : Ans} (h : holeK l f id g e = .ok) : (∃ x ∈ l, g x.ex = .ok) ∨ e = .ok := by
  induction l with
  | nil => exact .inr h
  | cons x l ih =>
    have h' : boolK (Nat.beq x.fn f) (boolK (Nat.beq x.id id) (g x.ex) (holeK l f id g e)) (holeK l f id g e) = .ok := h
    have other : holeK l f id g e = .ok → (∃ y ∈ x :: l, g y.ex = .ok) ∨ e = .ok := fun h2 => by
      rcases ih h2 with ⟨y, hy, h3⟩ | h3
      · exact .inl ⟨y, by simp [hy], h3⟩
      · exact .inr h3
    cases h1 : Nat.beq x.fn f with
    | false => rw [h1] at h'; exact other h'
    | true =>
      rw [h1] at h'
      cases h2 : Nat.beq x.id id with
      | false => rw [h2] at h'; exact other h'
      | true => rw [h2] at h'; exact .inl ⟨x, by simp, h'⟩

noncomputable def codeH (hs : List Hole) : Code → CF :=
  @Code.rec (fun _ => CF) (fun _ _ _ _ tm A marks k => k .normal tm A marks)
    (fun id ops d P O ex fx tm A marks k => holeK hs fx.fn (1000 + id) (fun o => o fx (.region id ops d) tm A marks k) (cRegion id ops d P O ex fx tm A marks k)) cSeq cCond
    (fun id b _ _ _ ex fx tm A marks k => holeK hs fx.fn id (fun o => o fx (.block id b) tm A marks k) (ex fx b tm A marks (blockK id k))) cLoop
    (fun g ps as bd _ _ P _ ex fx tm A marks k => rangeK P ex fx g ps as bd tm A marks k) (fun id _ _ _ _ tm A marks k => k (.exit id) tm A marks)
    (fun b _ _ _ ex fx tm A marks k => scopeK ex fx b k 1000 b tm A marks) (fun _ _ _ _ _ tm A marks k => k .normal tm A marks) (fun l _ _ _ _ tm A marks k => k (.goto l) tm A marks)
    (fun _ _ _ _ tm A marks k => k .ret tm A marks) (fun _ _ _ _ _ _ _ _ _ => .err 13 2 0)
noncomputable def execH (P : Program) (O : PT Orc) (hs : List Hole) (n : Nat) : Ex :=
  @Nat.rec (fun _ => Ex) (fun _ _ _ _ _ _ => .err 0 0 0) (fun _ ih fx c tm A marks k => codeH hs c P O ih fx tm A marks k) n

def HolesOK (P : Program) (hs : List Hole) : Prop := ∀ x ∈ hs, ExOK P x.ex
theorem HolesOK.nil : HolesOK P [] := fun x h => by cases h
theorem HolesOK.cons {x : Hole} {hs : List Hole} (h : ExOK P x.ex) (hl : HolesOK P hs) : HolesOK P (x :: hs) := fun y hy => by
  rcases List.mem_cons.1 hy with rfl | hy
  · exact h
  · exact hl y hy

/-- 'ExOKL', but of what is known of a block alone no rounds are told. -/
theorem codeH_sound (hmix : P.follows .mixedOrders = true) {O : PT Orc} (hO : OrOK P O) {hs : List Hole} (hh : HolesOK P hs) {ex : Ex} (hex : ExOKL P ex) : ExOKL P (fun fx c tm A m k => codeH hs c P O ex fx tm A m k) := by
  intro fx c tm A m k hk
  have plain : codeF c P O ex fx tm A m k = .ok → _ := fun h => execCode_sound hmix hO hex fx c tm A m k (by rw [← codeF_eq]; exact h)
  cases c with
  | block id b =>
    rcases holeK_ok (show holeK hs fx.fn id (fun o => o fx (.block id b) tm A m k) (ex fx b tm A m (blockK id k)) = .ok from hk) with ⟨x, hx, h1⟩ | h1
    · obtain ⟨e, tm', A', m', h2, h3⟩ := hh x hx _ _ _ _ _ _ h1
      exact ⟨e, tm', A', m', 0, h2, fun ρ w a r hr ht hn hm hrr n Q hq => ⟨h3 ρ w a r hr ht hn hm hrr n Q hq, fun b' e' => by cases e'⟩⟩
    · exact plain h1
  | skip => exact plain hk
  | region id ops d =>
    rcases holeK_ok (show holeK hs fx.fn (1000 + id) (fun o => o fx (.region id ops d) tm A m k) (cRegion id ops d P O ex fx tm A m k) = .ok from hk) with ⟨x, hx, h1⟩ | h1
    · obtain ⟨e, tm', A', m', h2, h3⟩ := hh x hx _ _ _ _ _ _ h1
      exact ⟨e, tm', A', m', 0, h2, fun ρ w a r hr ht hn hm hrr n Q hq => ⟨h3 ρ w a r hr ht hn hm hrr n Q hq, fun b' e' => by cases e'⟩⟩
    · exact plain h1
  | seq _ _ => exact plain hk
  | cond _ _ _ => exact plain hk
  | loop _ => exact plain hk
  | rangeFunc _ _ _ _ => exact plain hk
  | exit _ => exact plain hk
  | scope _ => exact plain hk
  | label _ => exact plain hk
  | goto _ => exact plain hk
  | ret => exact plain hk
  | refuse _ => exact plain hk
theorem execH_sound (hmix : P.follows .mixedOrders = true) {O : PT Orc} (hO : OrOK P O) {hs : List Hole} (hh : HolesOK P hs) : ∀ n, ExOKL P (execH P O hs n)
  | 0 => fun _ _ _ _ _ _ h => by cases h
  | n + 1 => codeH_sound hmix hO hh (execH_sound hmix hO hh n)

theorem CodeOK.of_runH (hmix : P.follows .mixedOrders = true) {O : PT Orc} (hO : OrOK P O) {hs : List Hole} (hh : HolesOK P hs) {N : Nat} {fx : Fx} {c : Code} {tm : Tm} {A : H} {m : List Mk} {e : AExit} {tm' : Tm} {A' : H} {m' : List Mk}
    (h : ∀ k : Kont, execH P O hs N fx c tm A m k = k e tm' A' m') : CodeOK P fx c tm A m e tm' A' m' := .of_ex (execH_sound hmix hO hh N).ok h
theorem FunOK.of_runH (hmix : P.follows .mixedOrders = true) {O : PT Orc} (hO : OrOK P O) {hs : List Hole} (hh : HolesOK P hs) {N f : Nat} {args : List AV} {A A' : H} {v : AV} (h : ∀ k, bodyF P (execH P O hs N) (Pos.ofNat f) [] [] args A k = k v A') : FunOK P f args A v A' := by
  have := FunOK.of_app (f := Pos.ofNat f) (args := args) (A := A) (v := v) (A' := A') (execH_sound hmix hO hh N).ok fun k => by rw [← bodyF_eq]; exact h k
  rwa [Pos.idx_ofNat] at this

/-! ### A part of a code -/
/-- The part at a path: 0 the first, else the second child. -/
def subC : List Nat → Code → Code
  | [], c => c
  | 0 :: p, .seq a _ => subC p a
  | _ :: p, .seq _ b => subC p b
  | 0 :: p, .cond _ a _ => subC p a
  | _ :: p, .cond _ _ b => subC p b
  | _ :: p, .block _ b => subC p b
  | _ :: p, .loop b => subC p b
  | _ :: p, .scope b => subC p b
  | 0 :: p, .rangeFunc _ _ a _ => subC p a
  | _ :: p, .rangeFunc _ _ _ b => subC p b
  | _, c => c
def bodyC (f : Func) : Code := match f.body with | some c => c | none => .skip

end Go.AM
