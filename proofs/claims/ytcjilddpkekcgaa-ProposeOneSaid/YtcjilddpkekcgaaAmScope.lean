/-
  THE MACHINE 'AM': a scope of labels: the rule for the model's walk.
-/
import Derived.Test.YtcjilddpkekcgaaAmDraw2
import Derived.LoopNIn
namespace Go
section
variable {P : Program} {b : Frame} {a : Act} {k : List Item} {cs : List Frame} {w : World}

theorem AM.stepR_scope {c : Code} : step P (lone (b.atR a (.code (.scope c) :: k)) cs w) = .next (lone (b.atR a (.code c :: .inScope c :: k)) cs w) :=
  step_lone_go (by simp [stepG, stepG.exec, Frame.atR])
theorem AM.stepR_inScope {c : Code} : step P (lone (b.atR a (.inScope c :: k)) cs w) = .next (lone (b.atR a k) cs w) :=
  step_lone_go (by simp [stepG, stepG.exec, Frame.atR])
end

namespace AM
variable {F : Fence} {n : Nat} {P : Program} {Q : Exit → Act → World → Prop} {a : Act} {w : World}

/-- What is owed behind a piece of a scope's body, with so many jumps to its labels at most. -/
def scopeQ (F : Fence) (n : Nat) (P : Program) (Q : Exit → Act → World → Prop) (body : Code) : Nat → Exit → Act → World → Prop
  | 0, .goto l, a, w => match findLabel body l with | some _ => False | none => Q (.goto l) a w
  | m + 1, .goto l, a, w => match findLabel body l with | some rest => rest.wpIn F n P (scopeQ F n P Q body m) a w | none => Q (.goto l) a w
  | _, e, a, w => Q e a w

theorem scope_key {body : Code} : ∀ (m : Nat) (c : Code) (a : Act) (w : World), c.wpIn F n P (scopeQ F n P Q body m) a w → ∀ (b : Frame) (k : List Item) (cs : List Frame) (_ : b.roundOf = F.round) (_ : F.fn b.fn) (_ : F.room (cs.length + 1 + n)),
    ∃ e a' w', Q e a' w' ∧ ArrivesIn (Machine.fenced P F) P (lone (b.atR a (.code c :: .inScope body :: k)) cs w) b k cs e a' w' := by
  intro m
  induction m with
  | zero =>
    intro c a w h b k cs hro hb hr
    obtain ⟨e, a₁, w₁, hq, harr⟩ := h b (.inScope body :: k) cs hro hb hr
    cases e with
    | normal => exact ⟨.normal, a₁, w₁, hq, StepsIn.trans harr (.one (fenced_calm hb hr rfl) stepR_inScope)⟩
    | exit id =>
      have hx : exitTo id (.inScope body :: k) = exitTo id k := by simp [exitTo]
      exact ⟨.exit id, a₁, w₁, hq, fun k' hk => harr.1 k' (by rw [hx]; exact hk), fun hr' hk => let ⟨k₁, h1, h2⟩ := harr.2 hr' (by rw [hx]; exact hk); ⟨k₁, h1, h2⟩⟩
    | goto l =>
      simp only [scopeQ] at hq
      cases hl : findLabel body l with
      | some rest => simp [hl] at hq
      | none =>
        simp only [hl] at hq
        have hx : gotoIn l (.inScope body :: k) = gotoIn l k := by simp [gotoIn, hl]
        exact ⟨.goto l, a₁, w₁, hq, fun k' hk => harr.1 k' (by rw [hx]; exact hk), fun hr' hk => let ⟨k₁, h1, h2⟩ := harr.2 hr' (by rw [hx]; exact hk); ⟨k₁, h1, h2⟩⟩
    | ret => exact ⟨_, a₁, w₁, hq, harr⟩
    | panic ch => exact ⟨_, a₁, w₁, hq, harr⟩
    | outgrown => exact ⟨_, a₁, w₁, hq, harr⟩
  | succ m ih =>
    intro c a w h b k cs hro hb hr
    obtain ⟨e, a₁, w₁, hq, harr⟩ := h b (.inScope body :: k) cs hro hb hr
    cases e with
    | normal => exact ⟨.normal, a₁, w₁, hq, StepsIn.trans harr (.one (fenced_calm hb hr rfl) stepR_inScope)⟩
    | exit id =>
      have hx : exitTo id (.inScope body :: k) = exitTo id k := by simp [exitTo]
      exact ⟨.exit id, a₁, w₁, hq, fun k' hk => harr.1 k' (by rw [hx]; exact hk), fun hr' hk => let ⟨k₁, h1, h2⟩ := harr.2 hr' (by rw [hx]; exact hk); ⟨k₁, h1, h2⟩⟩
    | goto l =>
      simp only [scopeQ] at hq
      cases hl : findLabel body l with
      | some rest =>
        simp only [hl] at hq
        obtain ⟨e, a₂, w₂, hq2, harr2⟩ := ih rest a₁ w₁ hq b k cs hro hb hr
        exact ⟨e, a₂, w₂, hq2, .of_steps (harr.1 _ (by simp [gotoIn, hl])) harr2⟩
      | none =>
        simp only [hl] at hq
        have hx : gotoIn l (.inScope body :: k) = gotoIn l k := by simp [gotoIn, hl]
        exact ⟨.goto l, a₁, w₁, hq, fun k' hk => harr.1 k' (by rw [hx]; exact hk), fun hr' hk => let ⟨k₁, h1, h2⟩ := harr.2 hr' (by rw [hx]; exact hk); ⟨k₁, h1, h2⟩⟩
    | ret => exact ⟨_, a₁, w₁, hq, harr⟩
    | panic ch => exact ⟨_, a₁, w₁, hq, harr⟩
    | outgrown => exact ⟨_, a₁, w₁, hq, harr⟩

theorem wpIn_scope {body : Code} (m : Nat) (h : body.wpIn F n P (scopeQ F n P Q body m) a w) : (Code.scope body).wpIn F n P Q a w := by
  intro b k cs hro hb hr
  obtain ⟨e, a', w', hq, harr⟩ := scope_key m body a w h b k cs hro hb hr
  exact ⟨e, a', w', hq, .of_steps (.one (fenced_calm hb hr rfl) stepR_scope) harr⟩

end AM
end Go
