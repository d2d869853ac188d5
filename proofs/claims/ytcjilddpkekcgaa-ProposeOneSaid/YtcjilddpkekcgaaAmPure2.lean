/-
  THE MACHINE 'AM': its operations that touch no memory, the second half: equality, slices, aggregates, addresses; 'pureV_sound'.
-/
import Derived.Test.YtcjilddpkekcgaaAmPure
import Derived.ChangeKeysEq
namespace Go.AM
variable {P : Program} {ρ : RM} {w : World}

/-! ### Equality -/
theorem eqFields_sound {d : Nat} {eq : TypeId → AV → AV → Option Bool}
    (ih : ∀ t x y x' y' r, eq t x y = some r → VR ρ x x' → VR ρ y y' → ∀ w, (Op.equalIn d t x' y').run P w = .ok r w) {xs ys : List AV} {xs' ys' : Array Value} (hx : VRs ρ xs xs'.toList) (hy : VRs ρ ys ys'.toList) :
    ∀ (fs : List Field) (r : Bool), eqFieldsV eq P xs ys fs = some r → ∀ w, (Op.eqFields d xs' ys' fs).run P w = .ok r w
  | [], r, h, w => by simp [eqFieldsV] at h; subst h; simp [Op.eqFields]
  | f :: fs, r, h, w => by
    simp only [eqFieldsV] at h
    by_cases hn : f.name ≠ "_"
    · rw [if_pos hn] at h
      cases e1 : partV P f.type xs f.offset with
      | none => simp [e1] at h
      | some a =>
        cases e2 : partV P f.type ys f.offset with
        | none => simp [e1, e2] at h
        | some b =>
          obtain ⟨a', ha, ra⟩ := run_part (P := P) e1 hx w
          obtain ⟨b', hb, rb⟩ := run_part (P := P) e2 hy w
          cases e3 : eq f.type a b with
          | none => simp [e1, e2, e3] at h
          | some q =>
            have rq := ih _ _ _ _ _ _ e3 ha hb w
            cases q with
            | true =>
              simp only [e1, e2, e3] at h
              have := eqFields_sound ih hx hy fs r h w
              simp only [Op.eqFields, if_pos hn, Sem.run_bind, ra, rb, rq, Result.andThen_ok, Bool.not_true, Bool.false_eq_true, if_false, this]
            | false =>
              simp only [e1, e2, e3, Option.some.injEq] at h
              subst h
              simp only [Op.eqFields, if_pos hn, Sem.run_bind, ra, rb, rq, Result.andThen_ok, Bool.not_false, if_true, Sem.run_pure]
    · rw [if_neg hn] at h
      have := eqFields_sound ih hx hy fs r h w
      simp only [Op.eqFields, if_neg hn, this]

theorem eqItems_sound {d e n : Nat} {eq : TypeId → AV → AV → Option Bool}
    (ih : ∀ t x y x' y' r, eq t x y = some r → VR ρ x x' → VR ρ y y' → ∀ w, (Op.equalIn d t x' y').run P w = .ok r w) {xs ys : List AV} {xs' ys' : Array Value} (hx : VRs ρ xs xs'.toList) (hy : VRs ρ ys ys'.toList) :
    ∀ (left i : Nat) (r : Bool), eqElemsV eq P e n xs ys left i = some r → ∀ w, (Op.eqItems d e n xs' ys' (List.range' i left)).run P w = .ok r w
  | 0, i, r, h, w => by simp [eqElemsV] at h; subst h; simp [Op.eqItems]
  | left + 1, i, r, h, w => by
    simp only [eqElemsV] at h
    cases e1 : partV P e xs (i * n) with
    | none => simp [e1] at h
    | some a =>
      cases e2 : partV P e ys (i * n) with
      | none => simp [e1, e2] at h
      | some b =>
        obtain ⟨a', ha, ra⟩ := run_part (P := P) e1 hx w
        obtain ⟨b', hb, rb⟩ := run_part (P := P) e2 hy w
        cases e3 : eq e a b with
        | none => simp [e1, e2, e3] at h
        | some q =>
          have rq := ih _ _ _ _ _ _ e3 ha hb w
          rw [List.range'_succ]
          cases q with
          | true =>
            simp only [e1, e2, e3] at h
            have := eqItems_sound ih hx hy left (i + 1) r h w
            simp only [Op.eqItems, Sem.run_bind, ra, rb, rq, Result.andThen_ok, Bool.not_true, Bool.false_eq_true, if_false, this]
          | false =>
            simp only [e1, e2, e3, Option.some.injEq] at h
            subst h
            simp only [Op.eqItems, Sem.run_bind, ra, rb, rq, Result.andThen_ok, Bool.not_false, if_true, Sem.run_pure]

theorem cellsOf_sizeT {e n : Nat} (h : sizeT P e = some n) : ∃ i, P.info? e = some i ∧ P.cellsOf e = n := by
  unfold sizeT at h
  cases hi : P.info? e with
  | none => simp [hi] at h
  | some i => simp [hi] at h; exact ⟨i, rfl, by simp [Program.cellsOf, hi, h]⟩

set_option maxHeartbeats 0 in
theorem equalV_sound : ∀ (d : Nat) (t : TypeId) (x y : AV) (x' y' : Value) (r : Bool), equalV P d t x y = some r → VR ρ x x' → VR ρ y y' → ∀ w, (Op.equalIn d t x' y').run P w = .ok r w
  | 0, _, _, _, _, _, _, h, _, _, _ => by simp [equalV] at h
  | d + 1, t, x, y, x', y', r, h, hx, hy, w => by
    have ih := equalV_sound d
    unfold equalV at h
    split at h
    · rename_i a b hu; cases hx; cases hy; simp only [Option.some.injEq] at h; subst h; simp [Op.equalIn, run_underlying hu]
    · rename_i k a k' b hu; cases hx; cases hy
      split at h
      · rename_i hk; simp only [Option.some.injEq] at h; subst h; subst hk; simp [Op.equalIn, run_underlying hu, ieq_iff]
      · cases h
    · rename_i a b hu; cases hx; rename_i s; cases hy; rename_i s'
      simp only [Option.some.injEq] at h; subst h
      rw [run_equalIn_string w d t _ _ hu, lbeq_iff, bytesOf_toList, bytesOf_toList, map_toNat_beq]
    · rename_i hu; cases hx; cases hy; simp only [Option.some.injEq] at h; subst h; simp [Op.equalIn, run_underlying hu]
    · rename_i hu; cases hx; cases hy; simp only [Option.some.injEq] at h; subst h; simp [Op.equalIn, run_underlying hu]
    · rename_i hu; cases hx; cases hy; simp only [Option.some.injEq] at h; subst h; simp [Op.equalIn, run_underlying hu]
    · rename_i e p i q j hu; cases hx; rename_i rb h1; cases hy; rename_i rb' h2
      split at h
      · rename_i n hs
        split at h
        · rename_i hb
          have := Pos.beq_eq hb
          subst this
          rw [h1] at h2; cases h2
          simp only [Option.some.injEq] at h; subst h
          have e : ((⟨rb.blk, rb.shift + i, none⟩ : Addr) == ⟨rb.blk, rb.shift + j, none⟩) = Nat.beq i j := by
            rw [Bool.eq_iff_iff, Nat.beq_eq]; simp
          simp [Op.equalIn, run_underlying hu, run_sizeT hs, sameAddr, e]
        · cases h
      · cases h
    · rename_i hu; cases hx; cases hy; simp only [Option.some.injEq] at h; subst h; simp [Op.equalIn, run_underlying hu]
    · rename_i hu; cases hx; cases hy; simp only [Option.some.injEq] at h; subst h; simp [Op.equalIn, run_underlying hu]
    · rename_i hu; cases hx; cases hy; simp only [Option.some.injEq] at h; subst h; simp [Op.equalIn, run_underlying hu]
    · rename_i fs xs ys hu; cases hx; rename_i xs' hxs; cases hy; rename_i ys' hys
      split at h
      · cases h
      · rename_i hst
        have hf : P.fieldsOf t = fs := by simp [Program.fieldsOf, hu]
        rw [run_equalIn_struct w d t _ _ (by rw [hf]; exact hu) (by simpa using hst), hf]
        exact eqFields_sound ih hxs hys _ _ h w
    · rename_i n e xs ys hu; cases hx; rename_i xs' hxs; cases hy; rename_i ys' hys
      split at h
      · rename_i s hs
        obtain ⟨i, hi, hc⟩ := cellsOf_sizeT hs
        rw [run_equalIn_array w d _ _ hu hi, hc, List.range_eq_range']
        exact eqItems_sound ih hxs hys n 0 r h w
      · cases h
    · rename_i hu; cases hx; cases hy; simp only [Option.some.injEq] at h; subst h; simp [Op.equalIn, run_underlying hu]
    · rename_i hu; cases hx; cases hy; simp only [Option.some.injEq] at h; subst h; simp [Op.equalIn, run_underlying hu]
    · rename_i hu; cases hx; cases hy; simp only [Option.some.injEq] at h; subst h; simp [Op.equalIn, run_underlying hu]
    · rename_i hu; cases hx; cases hy; simp only [Option.some.injEq] at h; subst h; simp [Op.equalIn, run_underlying hu]
    · rename_i hu; cases hx; cases hy; simp only [Option.some.injEq] at h; subst h; simp [Op.equalIn, run_underlying hu]
    · rename_i hu; cases hx; cases hy; simp only [Option.some.injEq] at h; subst h; simp [Op.equalIn, run_underlying hu]
    · rename_i hu; cases hx; cases hy; simp only [Option.some.injEq] at h; subst h; simp [Op.equalIn, run_underlying hu]
    · rename_i hu; cases hx; cases hy; simp only [Option.some.injEq] at h; subst h; simp [Op.equalIn, run_underlying hu]
    · rename_i hu; cases hx; cases hy; simp only [Option.some.injEq] at h; subst h; simp [Op.equalIn, run_underlying hu]
    · rename_i hu; cases hx; cases hy; simp only [Option.some.injEq] at h; subst h; simp [Op.equalIn, run_underlying hu]
    · rename_i hu; cases hx; cases hy; simp only [Option.some.injEq] at h; subst h; simp [Op.equalIn, run_underlying hu]
    · rename_i hu; cases hx; cases hy; simp only [Option.some.injEq] at h; subst h; simp [Op.equalIn, run_underlying hu]
    · rename_i hu; cases hx; cases hy; simp only [Option.some.injEq] at h; subst h; simp [Op.equalIn, run_underlying hu]
    · cases h

/-! ### Two operands -/
theorem guard_sound {op : BinOp} {t : TypeId} {x y : Operand} {a b : AV} {a' b' : Value} (h : guardFree P t x y a b = true) (ha : VR ρ a a') (hb : VR ρ b b') (w : World) :
    (eqGuard op t x y a' b').run P w = .ok () w := by
  by_cases hop : op = .eql ∨ op = .neq
  case neg =>
    cases op <;> first | (exact absurd (Or.inl rfl) hop) | (exact absurd (Or.inr rfl) hop) | simp [eqGuard]
  have hne : (!(match op with | .eql | .neq => true | _ => false)) = false := by rcases hop with e | e <;> subst e <;> rfl
  unfold guardFree at h
  split at h
  · cases ha; cases hb
    have hc : ((match x with | .const _ => true | _ => false) || (match y with | .const _ => true | _ => false)) = true := by
      cases x <;> cases y <;> simp [isConstO] at h ⊢
    rcases hop with e | e <;> subst e <;> simp only [eqGuard] <;> simp <;> cases x <;> cases y <;> simp [isConstO] at h ⊢
  · cases ha; cases hb
    exact run_eqGuard_agg w op t x y _ _ (by simpa using h)
  · rename_i h3 h4
    rcases hop with e | e <;> subst e <;> cases ha <;> cases hb <;> first | (cases h; done) | exact (h3 rfl rfl).elim | exact (h4 _ _ rfl rfl).elim | simp [eqGuard]

end Go.AM
