/-
  THE MACHINE 'AM': its operations that touch no memory, the last part: addresses, indexes, assertions; 'pureV_sound'.
-/
import Derived.Test.YtcjilddpkekcgaaAmPure3
namespace Go.AM
variable {P : Program} {ρ : RM} {w : World}

theorem run_fieldPlace {a : Addr} {f : Field} {n : Nat} (h : sizeT P f.type = some (n + 1)) (w : World) : (fieldPlace a f).run P w = .ok (a.add f.offset) w := by
  simp [fieldPlace, run_sizeT h]

theorem fieldAddrV_sound {s : TypeId} {x v : AV} {f : Nat} {x' : Value} (h : fieldAddrV P s x f = some v) (hx : VR ρ x x') (w : World) : ∃ v', VR ρ v v' ∧ (Instr.fieldAt s x' f).run P w = .ok v' w := by
  unfold fieldAddrV at h
  split at h
  · rename_i fs p off hu
    cases hx; rename_i rb hm
    split at h
    · rename_i fd hf
      split at h
      · rename_i n hs
        simp only [Option.some.injEq] at h; subst h
        refine ⟨.pointer (some ⟨rb.blk, rb.shift + (off + fd.offset), none⟩), .ptr hm, ?_⟩
        simp [Instr.fieldAt, run_underlying hu, hf, Instr.sureAddr, run_fieldPlace hs, addr_add, Nat.add_assoc]
      · cases h
    · cases h
  · rename_i fs g off hu
    cases hx
    split at h
    · rename_i fd hf
      split at h
      · rename_i n hs
        simp only [Option.some.injEq] at h; subst h
        refine ⟨.pointer (some ⟨g, off + fd.offset, none⟩), .gptr _ _, ?_⟩
        simp [Instr.fieldAt, run_underlying hu, hf, Instr.sureAddr, run_fieldPlace hs, addr_add]
      · cases h
    · cases h
  · rename_i fs c0 off hu
    cases hx with | @fp _ b sh _ c d h1 h2 h3 h4 =>
    split at h
    · rename_i fd hf
      split at h
      · rename_i n hs
        simp only [Option.some.injEq] at h; subst h
        refine ⟨.pointer (some ⟨b, sh + (off + fd.offset), none⟩), .fp h1 h2 h3 h4, ?_⟩
        simp [Instr.fieldAt, run_underlying hu, hf, Instr.sureAddr, run_fieldPlace hs, addr_add, Nat.add_assoc]
      · cases h
    · cases h
  · cases h

theorem indexAddrV_sound {t : TypeId} {x i v : AV} {x' i' : Value} (h : indexAddrV P t x i = some v) (hx : VR ρ x x') (hi : VR ρ i i') (w : World) :
    ∃ v', VR ρ v v' ∧ (Instr.indexAt t x' i').run P w = .ok v' w := by
  unfold indexAddrV at h
  split at h
  · rename_i n e p off hu
    cases hx; rename_i rb hm
    split at h
    · rename_i s m hs hb
      simp only [Option.some.injEq] at h; subst h
      obtain ⟨hlt, k, rfl⟩ := below_sound hb hi
      refine ⟨.pointer (some ⟨rb.blk, rb.shift + (off + m * s), none⟩), .ptr hm, ?_⟩
      have hb2 : (0 : Int) ≤ (m : Int) ∧ (m : Int) < (n : Int) := ⟨by omega, by omega⟩
      simp [Instr.indexAt, asIntOf, run_underlying hu, Instr.sureAddr, hb2, run_sizeT hs, addr_add, Nat.add_assoc]
      intro hge; exact absurd hlt (Nat.not_lt.2 hge)
    · cases h
  · rename_i n e g off hu
    cases hx
    split at h
    · rename_i s m hs hb
      simp only [Option.some.injEq] at h; subst h
      obtain ⟨hlt, k, rfl⟩ := below_sound hb hi
      refine ⟨.pointer (some ⟨g, off + m * s, none⟩), .gptr _ _, ?_⟩
      have hb2 : (0 : Int) ≤ (m : Int) ∧ (m : Int) < (n : Int) := ⟨by omega, by omega⟩
      simp [Instr.indexAt, asIntOf, run_underlying hu, Instr.sureAddr, hb2, run_sizeT hs, addr_add]
      intro hge; exact absurd hlt (Nat.not_lt.2 hge)
    · cases h
  · rename_i e p off len cap soft hu
    cases hx with | @slice _ _ _ _ _ rb off' cap' hm hcap hoff hlen =>
    split at h
    · rename_i s m hs hb
      simp only [Option.some.injEq] at h; subst h
      obtain ⟨hlt, k, rfl⟩ := below_sound hb hi
      have ho : off' = rb.shift + off := by rcases hoff with e0 | e0 <;> omega
      refine ⟨.pointer (some ⟨rb.blk, rb.shift + (off + m * s), none⟩), .ptr hm, ?_⟩
      have hb2 : (0 : Int) ≤ (m : Int) ∧ (m : Int) < (len : Int) := ⟨by omega, by omega⟩
      simp [Instr.indexAt, asIntOf, run_underlying hu, hb2, run_sizeT hs, addr_add, ho, Nat.add_assoc]
      intro hge; exact absurd hlt (Nat.not_lt.2 hge)
    · cases h
  · rename_i e c0 len hu
    split at h
    · rename_i s m hs hb
      simp only [Option.some.injEq] at h; subst h
      obtain ⟨hlt, k, rfl⟩ := below_sound hb hi
      cases hx with
      | @fz _ _ b off cap' c d h1 h2 h3 h4 h5 =>
        refine ⟨.pointer (some ⟨b, off + m * s, none⟩), .fp h1 h2 h3 h5, ?_⟩
        have hb2 : (0 : Int) ≤ (m : Int) ∧ (m : Int) < (len : Int) := ⟨by omega, by omega⟩
        simp [Instr.indexAt, asIntOf, run_underlying hu, hb2, run_sizeT hs, addr_add]
        intro hge; exact absurd hlt (Nat.not_lt.2 hge)
      | fz0 => exact absurd hlt (Nat.not_lt_zero _)
    · cases h
  · rename_i n e c0 off hu
    cases hx with | @fp _ b sh _ c d h1 h2 h3 h4 =>
    split at h
    · rename_i s m hs hb
      simp only [Option.some.injEq] at h; subst h
      obtain ⟨hlt, k, rfl⟩ := below_sound hb hi
      refine ⟨.pointer (some ⟨b, sh + (off + m * s), none⟩), .fp h1 h2 h3 h4, ?_⟩
      have hb2 : (0 : Int) ≤ (m : Int) ∧ (m : Int) < (n : Int) := ⟨by omega, by omega⟩
      simp [Instr.indexAt, asIntOf, run_underlying hu, Instr.sureAddr, hb2, run_sizeT hs, addr_add, Nat.add_assoc]
      intro hge; exact absurd hlt (Nat.not_lt.2 hge)
    · cases h
  · cases h

theorem indexV_sound {t : TypeId} {x i v : AV} {x' i' : Value} (h : indexV P t x i = some v) (hx : VR ρ x x') (hi : VR ρ i i') (w : World) :
    ∃ v', VR ρ v v' ∧ (Instr.index t x' i').run P w = .ok v' w := by
  unfold indexV at h
  split at h
  · rename_i n e cs hu
    cases hx; rename_i cs' hcs
    split at h
    · rename_i s m hs hb
      obtain ⟨hlt, k, rfl⟩ := below_sound hb hi
      obtain ⟨v', h1, h2⟩ := run_part (P := P) h hcs w
      have hb2 : (0 : Int) ≤ (m : Int) ∧ (m : Int) < (n : Int) := ⟨by omega, by omega⟩
      exact ⟨v', h1, by simp [Instr.index, asIntOf, run_underlying hu, hb2, run_sizeT hs, h2]; intro hge; exact absurd hlt (Nat.not_lt.2 hge)⟩
    · cases h
  · rename_i l hu
    cases hx; rename_i s
    split at h
    · rename_i m hb
      obtain ⟨hlt, k, rfl⟩ := below_sound hb hi
      split at h
      · rename_i b hbb
        simp only [Option.some.injEq] at h; subst h
        rw [bytesOf_length] at hlt
        have hget : s[m]? = some s[m] := by simp [hlt]
        have hbv : b = s[m].toNat := by
          simp only [bytesOf, List.getElem?_map, Array.getElem?_toList] at hbb
          have : s.data[m]? = some s[m] := by
            have : s.data[m]? = some (s.data[m]'hlt) := Array.getElem?_eq_getElem hlt
            rw [this]; rfl
          rw [this] at hbb; simpa using hbb.symm
        refine ⟨.int .u8 (.ofNat b), .int _ _, ?_⟩
        have h0 : (0 : Int) ≤ (m : Int) := by omega
        simp [Instr.index, asIntOf, run_underlying hu, h0, hget, hbv]
      · cases h
    · cases h
  · cases h

theorem assertV_sound {x v : AV} {xt asserted : TypeId} {ok : Bool} {x' : Value} (h : assertV P x asserted ok = some v) (hx : VR ρ x x') (w : World) :
    ∃ v', VR ρ v v' ∧ (Instr.typeAssert x' xt asserted ok).run P w = .ok v' w := by
  unfold assertV at h
  have zero : ∀ z z', VR ρ z z' → VR ρ (.tup [z, .bool false]) (.tuple #[z', .bool false]) := fun z z' hz => .tup (.cons hz (.cons (.bool _) .nil))
  split at h
  · rename_i want t v0 hu
    cases hx; rename_i v0' hv
    split at h
    · rename_i i hi
      split at h
      · rename_i hm
        simp only [Option.some.injEq] at h; subst h
        refine ⟨if ok then .tuple #[.iface t v0', .bool true] else .iface t v0', ?_, by simp [Instr.typeAssert, run_underlying hu, run_typeInfoT hi, hm]⟩
        cases ok
        · exact .iface hv
        · exact .tup (.cons (.iface hv) (.cons (.bool _) .nil))
      · rename_i m hm
        split at h
        · rename_i hok
          split at h
          · rename_i z hz
            simp only [Option.some.injEq] at h; subst h
            obtain ⟨z', hz1, hz2⟩ := zeroT_sound (ρ := ρ) hz
            exact ⟨_, zero _ _ hz1, by simp [Instr.typeAssert, run_underlying hu, run_typeInfoT hi, hm, hok, hz2]⟩
          · cases h
        · cases h
    · cases h
  · rename_i d hu
    cases hx
    split at h
    · rename_i hok
      split at h
      · rename_i z hz
        simp only [Option.some.injEq] at h; subst h
        obtain ⟨z', hz1, hz2⟩ := zeroT_sound (ρ := ρ) hz
        refine ⟨_, zero _ _ hz1, ?_⟩
        simp only [Instr.typeAssert, Sem.run_bind, run_underlying hu, Result.andThen_ok, hok]
        cases d <;> simp [hz2]
      · cases h
    · cases h
  · rename_i d t v0 hni hu
    cases hx; rename_i v0' hv
    have hd : ∀ ms, d ≠ .interface ms := fun ms e => by subst e; exact hni ms rfl
    split at h
    · rename_i hta
      simp only [Option.some.injEq] at h; subst h
      refine ⟨if ok then .tuple #[v0', .bool true] else v0', ?_, ?_⟩
      · cases ok
        · exact hv
        · exact .tup (.cons hv (.cons (.bool _) .nil))
      · simp only [Instr.typeAssert, Sem.run_bind, run_underlying hu, Result.andThen_ok]
        cases d <;> first | exact absurd rfl (hd _) | simp [hta]
    · rename_i hta
      split at h
      · rename_i hok
        split at h
        · rename_i z hz
          simp only [Option.some.injEq] at h; subst h
          obtain ⟨z', hz1, hz2⟩ := zeroT_sound (ρ := ρ) hz
          refine ⟨_, zero _ _ hz1, ?_⟩
          simp only [Instr.typeAssert, Sem.run_bind, run_underlying hu, Result.andThen_ok, hok]
          cases d <;> first | exact absurd rfl (hd _) | simp [hta, hz2]
        · cases h
      · cases h
  · cases h

theorem minMaxGo_sound {isMax : Bool} {k : IntKind} : ∀ {l : List AV} {l' : List Value} {x : Int} {v : AV}, minMaxGo isMax k x l = some v → VRs ρ l l' →
    ∃ v', VR ρ v v' ∧ ∀ w, (l'.foldlM (if isMax then Builtin.max2 else Builtin.min2) (.int k x)).run P w = .ok v' w
  | [], l', x, v, h, hl => by cases hl; simp only [minMaxGo, Option.some.injEq] at h; subst h; exact ⟨_, .int _ _, fun w => by simp⟩
  | a :: l, l', x, v, h, hl => by
    cases hl with
    | cons ha hr =>
      cases ha <;> simp only [minMaxGo] at h <;> first | (cases h; done) | skip
      rename_i k' y
      obtain ⟨v', h1, h2⟩ := minMaxGo_sound h hr
      refine ⟨v', h1, fun w => ?_⟩
      cases isMax
      · simp only [Bool.false_eq_true, if_false, ilt_iff, decide_eq_true_eq] at h2 ⊢
        simp only [List.foldlM_cons, Sem.run_bind, Builtin.min2, Sem.run_pure, Result.andThen_ok]
        exact h2 w
      · simp only [if_true, ilt_iff, decide_eq_true_eq] at h2 ⊢
        simp only [List.foldlM_cons, Sem.run_bind, Builtin.max2, Sem.run_pure, Result.andThen_ok]
        exact h2 w

theorem minMaxV_sound {isMax : Bool} {l : List AV} {l' : List Value} {v : AV} (h : minMaxV isMax l = some v) (hl : VRs ρ l l') (ts : Array TypeId) (t : TypeId) (w : World) :
    ∃ v', VR ρ v v' ∧ (if isMax then Builtin.max_ ts t l'.toArray else Builtin.min_ ts t l'.toArray).run P w = .ok v' w := by
  cases hl with
  | nil => simp [minMaxV] at h
  | cons ha hr =>
    cases ha <;> simp only [minMaxV] at h <;> first | (cases h; done) | skip
    obtain ⟨v', h1, h2⟩ := minMaxGo_sound (P := P) h hr
    refine ⟨v', h1, ?_⟩
    cases isMax
    · simpa [Builtin.min_] using h2 w
    · simpa [Builtin.max_] using h2 w

theorem optEv_sound {tm : Tm} {a : Act} {x : Option Operand} {v : Option AV} (ho : OpdRel ρ tm a x.toList) (h : optEv tm x = some v) : OVR ρ v (x.map a.eval) := by
  cases x with
  | none => simp only [optEv, Option.some.injEq] at h; subst h; exact .none
  | some y =>
    simp only [optEv] at h
    cases e : ev tm y with
    | none => simp [e] at h
    | some z => simp only [e, Option.some.injEq] at h; subst h; exact .some (ho y (by simp) z e)

/-- **An operation that touches no memory.** -/
theorem pureV_sound {tm : Tm} {o : Oper} {v : AV} (h : pureV P tm o.op = some v) {a : Act} (ht : OpdRel ρ tm a o.op.operands.toList) (w : World) :
    ∃ v', VR ρ v v' ∧ (execOp a.eval o).run P w = .ok (.value v') w := by
  unfold pureV at h
  split at h
  case h_1 x ho => exact ⟨_, ht _ (by simp [ho, Op.operands]) _ h, by simp [execOp, ho]⟩
  case h_2 x ho => exact ⟨_, ht _ (by simp [ho, Op.operands]) _ h, by simp [execOp, ho]⟩
  case h_3 c p q ho =>
    split at h
    · rename_i e
      have hc := ht _ (by simp [ho, Op.operands]) _ e
      generalize hb : a.eval c = cv at hc
      cases hc
      exact ⟨_, ht _ (by simp [ho, Op.operands]) _ h, by simp [execOp, ho, hb, asBool]⟩
    · rename_i e
      have hc := ht _ (by simp [ho, Op.operands]) _ e
      generalize hb : a.eval c = cv at hc
      cases hc
      exact ⟨_, ht _ (by simp [ho, Op.operands]) _ h, by simp [execOp, ho, hb, asBool]⟩
    · cases h
  case h_4 op t x y u ho =>
    split at h
    · rename_i p q e1 e2
      obtain ⟨v', h1, h2, h3⟩ := binV_sound (P := P) h (ht _ (by simp [ho, Op.operands]) _ e1) (ht _ (by simp [ho, Op.operands]) _ e2) w
      exact ⟨v', h1, by simp [execOp, ho, h2, h3]⟩
    · cases h
  case h_5 op t x ho =>
    split at h
    · rename_i p e
      obtain ⟨v', h1, h2⟩ := unV_sound (P := P) h (ht _ (by simp [ho, Op.operands]) _ e) w
      exact ⟨v', h1, by simp [execOp, ho, h2]⟩
    · cases h
  case h_6 s d x ho =>
    split at h
    · rename_i p e
      obtain ⟨v', h1, h2⟩ := convV_sound (P := P) h (ht _ (by simp [ho, Op.operands]) _ e) w
      exact ⟨v', h1, by simp [execOp, ho, h2]⟩
    · cases h
  case h_7 t x ho =>
    split at h
    · cases h
    · rename_i d v0 hni hu e
      simp only [Option.some.injEq] at h; subst h
      refine ⟨_, .iface (ht _ (by simp [ho, Op.operands]) _ e), ?_⟩
      simp only [execOp, ho, Sem.run_bind, Instr.makeInterface, run_underlying hu, Result.andThen_ok]
      cases d <;> first | (exact absurd rfl (hni _ hu)) | rfl
    · cases h
  case h_8 f first captured ho =>
    split at h
    · rename_i p q e1 e2
      simp only [Option.some.injEq] at h; subst h
      have := VR.func (ρ := ρ) (f := Pos.ofNat f) (fs := p) (cs := q) (fs' := first.map a.eval) (cs' := captured.map a.eval) (by simpa using VRs.evs' (fun x hx => ht x (by simp [ho, Op.operands]; first | exact hx | exact .inl (by simpa using hx) | exact .inr (by simpa using hx) | simpa using hx)) e1) (by simpa using VRs.evs' (fun x hx => ht x (by simp [ho, Op.operands]; first | exact hx | exact .inl (by simpa using hx) | exact .inr (by simpa using hx) | simpa using hx)) e2)
      rw [Pos.idx_ofNat] at this
      exact ⟨_, this, by simp [execOp, ho, Instr.makeFunc]⟩
    · cases h
  case h_9 x ho =>
    split at h
    all_goals first | (cases h; done) | skip
    all_goals
      rename_i e
      simp only [Option.some.injEq] at h; subst h
      have hc := ht _ (by simp [ho, Op.operands]) _ e
      generalize hb : a.eval x = cv at hc
      have hc2 := hc
      cases hc
      exact ⟨_, hc2, by simp [execOp, ho, hb]⟩
  case h_10 t ps ho =>
    split at h
    · rename_i l e
      obtain ⟨v', h1, h2⟩ := buildV_sound (P := P) h (evParts_sound (fun x hx => ht x (by simpa [ho, Op.operands] using hx)) e) w
      refine ⟨v', h1, ?_⟩
      have e2 : ps.map (fun (x : Nat × Operand) => match x with | (i, x) => (i, a.eval x)) = (ps.toList.map fun (i, x) => (i, a.eval x)).toArray := by rw [← Array.toList_inj]; simp
      simp only [execOp, ho, Sem.run_bind, e2, h2, Result.andThen_ok, Sem.run_pure]
    · cases h
  case h_11 t x lo hi mx ho =>
    split at h
    · rename_i p b c d e1 e2 e3 e4
      obtain ⟨v', h1, h2⟩ := sliceV_sound (P := P) h (ht _ (by simp [ho, Op.operands]) _ e1) (optEv_sound (fun x hx => ht x (by simp [ho, Op.operands] at hx ⊢; simp [hx])) e2) (optEv_sound (fun x hx => ht x (by simp [ho, Op.operands] at hx ⊢; simp [hx])) e3) (optEv_sound (fun x hx => ht x (by simp [ho, Op.operands] at hx ⊢; simp [hx])) e4) w
      exact ⟨v', h1, by simp [execOp, ho, h2]⟩
    · cases h
  case h_12 t x f ho =>
    split at h
    · rename_i p e
      obtain ⟨v', h1, h2⟩ := fieldAddrV_sound (P := P) h (ht _ (by simp [ho, Op.operands]) _ e) w
      exact ⟨v', h1, by simp [execOp, ho, h2]⟩
    · cases h
  case h_13 t x f ho =>
    split at h
    · rename_i fs cs hu e
      have hc := ht _ (by simp [ho, Op.operands]) _ e
      generalize hb : a.eval x = cv at hc
      cases hc; rename_i cs' hcs
      split at h
      · rename_i fd hf
        obtain ⟨v', h1, h2⟩ := run_part (P := P) h hcs w
        exact ⟨v', h1, by simp [execOp, ho, hb, Instr.field, run_underlying hu, hf, asAgg, h2]⟩
      · cases h
    · cases h
  case h_14 t x i ho =>
    split at h
    · rename_i p q e1 e2
      obtain ⟨v', h1, h2⟩ := indexAddrV_sound (P := P) h (ht _ (by simp [ho, Op.operands]) _ e1) (ht _ (by simp [ho, Op.operands]) _ e2) w
      exact ⟨v', h1, by simp [execOp, ho, h2]⟩
    · cases h
  case h_15 t x i ho =>
    split at h
    · rename_i p q e1 e2
      obtain ⟨v', h1, h2⟩ := indexV_sound (P := P) h (ht _ (by simp [ho, Op.operands]) _ e1) (ht _ (by simp [ho, Op.operands]) _ e2) w
      exact ⟨v', h1, by simp [execOp, ho, h2]⟩
    · cases h
  case h_16 x t as ok ho =>
    split at h
    · rename_i p e
      obtain ⟨v', h1, h2⟩ := assertV_sound (P := P) (xt := t) h (ht _ (by simp [ho, Op.operands]) _ e) w
      exact ⟨v', h1, by simp [execOp, ho, h2]⟩
    · cases h
  case h_17 t i ho =>
    split at h
    · rename_i l e
      have hc := ht _ (by simp [ho, Op.operands]) _ e
      generalize hb : a.eval t = cv at hc
      cases hc; rename_i cs' hcs
      obtain ⟨v', h1, h2⟩ := hcs.get i v h
      have h1' : cs'[i]? = some v' := by simpa using h1
      exact ⟨v', h2, by simp [execOp, ho, hb, Instr.extract, h1']⟩
    · cases h
  case h_18 args argTypes ho =>
    split at h
    · rename_i x t hx htt
      have e0 : (args.map a.eval)[0]? = some (a.eval x) := by simp [hx]
      split at h
      · rename_i p off n cp s el e hu
        simp only [Option.some.injEq] at h; subst h
        have hc := ht _ (by simp [ho, Op.operands, Call.operands, Array.mem_of_getElem? hx]) _ e
        generalize hb : a.eval x = cv at hc
        cases hc
        exact ⟨_, .int _ _, by simp [execOp, ho, resolve, invoke, Go.builtin, Builtin.len_, htt, hx, hb, run_underlying hu, goInt]⟩
      · rename_i el e hu
        simp only [Option.some.injEq] at h; subst h
        have hc := ht _ (by simp [ho, Op.operands, Call.operands, Array.mem_of_getElem? hx]) _ e
        generalize hb : a.eval x = cv at hc
        cases hc
        exact ⟨_, .int _ _, by simp [execOp, ho, resolve, invoke, Go.builtin, Builtin.len_, htt, hx, hb, run_underlying hu, goInt]⟩
      · rename_i lo hi el e hu
        simp only [Option.some.injEq] at h; subst h
        have hc := ht _ (by simp [ho, Op.operands, Call.operands, Array.mem_of_getElem? hx]) _ e
        generalize hb : a.eval x = cv at hc
        cases hc; rename_i ad n c h1 h2
        exact ⟨_, .rng h1 h2, by simp [execOp, ho, resolve, invoke, Go.builtin, Builtin.len_, htt, hx, hb, run_underlying hu, goInt]⟩
      · rename_i c0 n el e hu
        simp only [Option.some.injEq] at h; subst h
        have hc := ht _ (by simp [ho, Op.operands, Call.operands, Array.mem_of_getElem? hx]) _ e
        generalize hb : a.eval x = cv at hc
        cases hc <;> exact ⟨_, .int _ _, by simp [execOp, ho, resolve, invoke, Go.builtin, Builtin.len_, htt, hx, hb, run_underlying hu, goInt]⟩
      · rename_i el e hu
        simp only [Option.some.injEq] at h; subst h
        have hc := ht _ (by simp [ho, Op.operands, Call.operands, Array.mem_of_getElem? hx]) _ e
        generalize hb : a.eval x = cv at hc
        cases hc
        exact ⟨_, .int _ _, by simp [execOp, ho, resolve, invoke, Go.builtin, Builtin.len_, htt, hx, hb, run_underlying hu, goInt]⟩
      · rename_i l e hu
        simp only [Option.some.injEq] at h; subst h
        have hc := ht _ (by simp [ho, Op.operands, Call.operands, Array.mem_of_getElem? hx]) _ e
        generalize hb : a.eval x = cv at hc
        cases hc; rename_i s
        exact ⟨_, .int _ _, by simp [execOp, ho, resolve, invoke, Go.builtin, Builtin.len_, htt, hx, hb, run_underlying hu, goInt, bytesOf_length]⟩
      · rename_i u n el e hu
        simp only [Option.some.injEq] at h; subst h
        exact ⟨_, .int _ _, by simp [execOp, ho, resolve, invoke, Go.builtin, Builtin.len_, htt, hx, run_underlying hu, goInt]⟩
      · cases h
    · cases h
  case h_19 args argTypes ho =>
    split at h
    · rename_i x t hx htt
      split at h
      · rename_i p off n cp el e hu
        simp only [Option.some.injEq] at h; subst h
        have hc := ht _ (by simp [ho, Op.operands, Call.operands, Array.mem_of_getElem? hx]) _ e
        generalize hb : a.eval x = cv at hc
        cases hc with | @slice _ _ _ _ _ rb off' cap' hm hcap hoff hlen =>
        simp at hcap; subst hcap
        exact ⟨_, .int _ _, by simp [execOp, ho, resolve, invoke, Go.builtin, Builtin.cap_, htt, hx, hb, run_underlying hu, goInt]⟩
      · rename_i p off n cp el e hu
        simp only [Option.some.injEq] at h; subst h
        have hc := ht _ (by simp [ho, Op.operands, Call.operands, Array.mem_of_getElem? hx]) _ e
        generalize hb : a.eval x = cv at hc
        cases hc with | @slice _ _ _ _ _ rb off' cap' hm hcap hoff hlen =>
        exact ⟨.int .i64 (cap' : Nat), .ge (by simp at hcap; omega), by simp [execOp, ho, resolve, invoke, Go.builtin, Builtin.cap_, htt, hx, hb, run_underlying hu, goInt]⟩
      · rename_i el e hu
        simp only [Option.some.injEq] at h; subst h
        have hc := ht _ (by simp [ho, Op.operands, Call.operands, Array.mem_of_getElem? hx]) _ e
        generalize hb : a.eval x = cv at hc
        cases hc
        exact ⟨_, .int _ _, by simp [execOp, ho, resolve, invoke, Go.builtin, Builtin.cap_, htt, hx, hb, run_underlying hu, goInt]⟩
      · rename_i c0 n el e hu
        simp only [Option.some.injEq] at h; subst h
        have hc := ht _ (by simp [ho, Op.operands, Call.operands, Array.mem_of_getElem? hx]) _ e
        generalize hb : a.eval x = cv at hc
        cases hc with
        | @fz _ _ b off cap' c d h1 h2 h3 h4 h5 => exact ⟨.int .i64 (cap' : Nat), .ge h4, by simp [execOp, ho, resolve, invoke, Go.builtin, Builtin.cap_, htt, hx, hb, run_underlying hu, goInt]⟩
        | @fz0 _ cap' => exact ⟨.int .i64 (cap' : Nat), .ge (Nat.zero_le _), by simp [execOp, ho, resolve, invoke, Go.builtin, Builtin.cap_, htt, hx, hb, run_underlying hu, goInt]⟩
      · rename_i el e hu
        simp only [Option.some.injEq] at h; subst h
        have hc := ht _ (by simp [ho, Op.operands, Call.operands, Array.mem_of_getElem? hx]) _ e
        generalize hb : a.eval x = cv at hc
        cases hc
        exact ⟨_, .int _ _, by simp [execOp, ho, resolve, invoke, Go.builtin, Builtin.cap_, htt, hx, hb, run_underlying hu, goInt]⟩
      · rename_i u n el e hu
        simp only [Option.some.injEq] at h; subst h
        exact ⟨_, .int _ _, by simp [execOp, ho, resolve, invoke, Go.builtin, Builtin.cap_, htt, hx, run_underlying hu, goInt]⟩
      · cases h
    · cases h
  case h_20 args argTypes ho =>
    split at h
    · rename_i l e
      obtain ⟨v', h1, h2⟩ := minMaxV_sound (P := P) h (VRs.evs' (fun x hx => ht x (by rw [ho]; simpa [Op.operands, Call.operands] using hx)) e) argTypes o.type w
      simp only [if_true] at h2
      exact ⟨v', h1, by simp [execOp, ho, resolve, invoke, Go.builtin]; rw [show args.map a.eval = (args.toList.map a.eval).toArray from by rw [← Array.toList_inj]; simp, h2]; rfl⟩
    · cases h
  case h_21 args argTypes ho =>
    split at h
    · rename_i l e
      obtain ⟨v', h1, h2⟩ := minMaxV_sound (P := P) h (VRs.evs' (fun x hx => ht x (by rw [ho]; simpa [Op.operands, Call.operands] using hx)) e) argTypes o.type w
      simp only [Bool.false_eq_true, if_false] at h2
      exact ⟨v', h1, by simp [execOp, ho, resolve, invoke, Go.builtin]; rw [show args.map a.eval = (args.toList.map a.eval).toArray from by rw [← Array.toList_inj]; simp, h2]; rfl⟩
    · cases h
  case h_22 => cases h

end Go.AM
