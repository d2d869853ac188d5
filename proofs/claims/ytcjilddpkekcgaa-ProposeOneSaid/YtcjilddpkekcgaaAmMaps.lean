/-
  THE MACHINE 'AM': maps: what is found under a key.
-/
import Derived.Test.YtcjilddpkekcgaaAmPure4
import Derived.MapKept
import Derived.WideKeyRuns
namespace Go.AM
variable {P : Program} {ρ : RM}

/-! ### Keys -/
theorem keyElemsV_mem {ok : AV → Bool} {e : TypeId} {n : Nat} {cs : List AV} : ∀ {left i : Nat}, keyElemsV ok P e n cs left i = true → ∀ j ∈ List.range' i left, ∃ a, partV P e cs (j * n) = some a ∧ ok a = true
  | 0, _, _, j, hj => by simp at hj
  | left + 1, i, h, j, hj => by
    simp only [keyElemsV] at h
    rw [List.range'_succ] at hj
    cases e1 : partV P e cs (i * n) with
    | none => simp [e1] at h
    | some a =>
      simp only [e1, Bool.and_eq_true] at h
      rcases List.mem_cons.1 hj with rfl | hj
      · exact ⟨a, e1, h.1⟩
      · exact keyElemsV_mem h.2 j hj

theorem keyFieldsV_mem {ok : TypeId → AV → Bool} {cs : List AV} : ∀ {fs : List Field}, keyFieldsV ok P cs fs = true → ∀ f ∈ fs, f.name ≠ "_" → ∃ a, partV P f.type cs f.offset = some a ∧ ok f.type a = true
  | [], _, f, hf, _ => by cases hf
  | g :: fs, h, f, hf, hn => by
    simp only [keyFieldsV, Bool.and_eq_true] at h
    rcases List.mem_cons.1 hf with rfl | hf
    · rw [if_pos hn] at h
      cases e1 : partV P f.type cs f.offset with
      | none => simp [e1] at h
      | some a => simp only [e1] at h; exact ⟨a, rfl, h.1⟩
    · exact keyFieldsV_mem h.2 f hf hn

theorem checkKey_sound (em : Bool) : ∀ (d : Nat) (t : TypeId) (v : AV) (v' : Value), keyOkV P d t v = true → VR ρ v v' → ∀ w, (Instr.checkKey em d t v').run P w = .ok () w
  | 0, _, _, _, h, _, _ => by simp [keyOkV] at h
  | d + 1, t, v, v', h, hv, w => by
    have IH := checkKey_sound em d
    unfold keyOkV at h
    split at h
    · rename_i n e cs hu
      split at h
      · rename_i s hs
        cases hv; rename_i cs' hcs
        have each := keyElemsV_mem h
        rw [Instr.checkKey]
        simp only [Sem.run_bind, run_underlying hu, Result.andThen_ok]
        simp only [Std.Legacy.Range.forIn_eq_forIn_range', Std.Legacy.Range.size, Nat.sub_zero, Nat.add_one_sub_one, Nat.div_one]
        generalize List.range' 0 n = is at each
        induction is with
        | nil => simp
        | cons j is ih =>
          obtain ⟨a, p0, hok⟩ := each j (by simp)
          obtain ⟨a', ha, p1⟩ := run_part (P := P) p0 hcs w
          have p2 := IH e a a' hok ha w
          simp only [List.forIn_cons, Sem.run_bind, run_sizeT hs, Result.andThen_ok, p1, p2, Sem.run_pure]
          exact ih (fun y hy => each y (by simp [hy]))
      · cases h
    · rename_i fs cs hu
      cases hv; rename_i cs' hcs
      have each := keyFieldsV_mem h
      rw [Instr.checkKey]
      simp only [Sem.run_bind, run_underlying hu, Result.andThen_ok]
      rw [← Array.forIn_toList]
      clear h
      generalize fs.toList = L at each
      induction L with
      | nil => simp
      | cons f L ih =>
        by_cases hn : f.name = "_"
        · simp only [List.forIn_cons, Sem.run_bind, hn, ne_eq, not_true_eq_false, if_false, Result.andThen_ok, Sem.run_pure]
          exact ih (fun y hy => each y (by simp [hy]))
        · obtain ⟨a, p0, hok⟩ := each f (by simp) hn
          obtain ⟨a', ha, p1⟩ := run_part (P := P) p0 hcs w
          have p2 := IH f.type a a' hok ha w
          simp only [List.forIn_cons, Sem.run_bind, hn, ne_eq, not_false_eq_true, if_true, Result.andThen_ok, p1, p2, Sem.run_pure]
          exact ih (fun y hy => each y (by simp [hy]))
    · rename_i hu; simp [Instr.checkKey, run_underlying hu]
    · rename_i hu; simp [Instr.checkKey, run_underlying hu]
    · rename_i hu; simp [Instr.checkKey, run_underlying hu]
    · cases h

/-! ### What is found -/
inductive FRel (ρ : RM) : Option (Nat × AV) → Option (Nat × Value) → Prop
  | none : FRel ρ none none
  | some {i : Nat} {v : AV} {v' : Value} : VR ρ v v' → FRel ρ (some (i, v)) (some (i, v'))

theorem findAsking_sound {kt : TypeId} {k : AV} {k' : Value} (hk : VR ρ k k') : ∀ {es : List (AV × AV × Nat)} {es' : List MapEntry} {i : Nat} {r : Option (Nat × AV)}, MapRel ρ es es' → findV P kt k es i = some r →
    ∃ r', FRel ρ r r' ∧ ∀ w, (Instr.findAsking kt k' es' i).run P w = .ok r' w
  | _, _, i, r, .nil, h => by simp only [findV, Option.some.injEq] at h; subst h; exact ⟨none, .none, fun w => by simp [Instr.findAsking]⟩
  | _, _, i, r, .cons (k := key) (v := v) (k' := key') hkey hv hrest, h => by
    simp only [findV] at h
    split at h
    · rename_i e
      simp only [Option.some.injEq] at h; subst h
      refine ⟨_, .some hv, fun w => ?_⟩
      have := equalV_sound (P := P) (ρ := ρ) 10000 kt k key _ _ _ e hk hkey w
      simp [Instr.findAsking, Op.equal, Op.maxDepth, this]
    · rename_i e
      obtain ⟨r', h1, h2⟩ := findAsking_sound hk hrest h
      refine ⟨r', h1, fun w => ?_⟩
      have := equalV_sound (P := P) (ρ := ρ) 10000 kt k key _ _ _ e hk hkey w
      simp [Instr.findAsking, Op.equal, Op.maxDepth, this, h2]
    · cases h

def scalarD : TypeDesc → Bool
  | .bool | .int _ | .string => true
  | _ => false

theorem equalV_scalar {n : Nat} {kt : TypeId} {d : TypeDesc} (hd : P.underlying kt = some d) (hs : scalarD d = true) {x y : AV} {x' y' : Value} (hx : VR ρ x x') (hy : VR ρ y y') {b : Bool} (h : equalV P (n + 1) kt x y = some b) : Instr.sameNow d x' y' = some b := by
  unfold equalV at h
  rw [hd] at h
  cases d <;> simp only [scalarD, Bool.false_eq_true] at hs
  · cases hx <;> cases hy <;> simp only at h <;> first | (cases h; done) | (simp only [Instr.sameNow]; exact h)
  · cases hx <;> cases hy <;> simp only at h <;> first | (cases h; done) | (simp only [Instr.sameNow]; simpa [ieq_iff] using h)
  · cases hx <;> cases hy <;> simp only at h <;> first | (cases h; done) | skip
    rename_i s s'
    simp only [Instr.sameNow]
    rw [← h, lbeq_iff, bytesOf_toList, bytesOf_toList, map_toNat_beq]
    congr 1
    have e1 : (s == s') = true ↔ s = s' := Go.MapKept.bytes_beq s s'
    rw [Bool.eq_iff_iff, e1, beq_iff_eq]
    constructor
    · rintro rfl; rfl
    · intro e
      have := congrArg (fun l : List UInt8 => ByteArray.mk l.toArray) e
      have e2 : s.data = s'.data := by simpa [ByteArray.toList_eq] using this
      cases s; cases s'; simp at e2; rw [e2]

theorem findNow_sound {kt : TypeId} {d : TypeDesc} (hd : P.underlying kt = some d) (hs : scalarD d = true) {k : AV} {k' : Value} (hk : VR ρ k k') : ∀ {es : List (AV × AV × Nat)} {es' : List MapEntry} {i : Nat} {r : Option (Nat × AV)}, MapRel ρ es es' → findV P kt k es i = some r →
    ∃ r', FRel ρ r r' ∧ Instr.findNow d k' es' i = some r'
  | _, _, i, r, .nil, h => by simp only [findV, Option.some.injEq] at h; subst h; exact ⟨none, .none, rfl⟩
  | _, _, i, r, .cons (k := key) (v := v) (k' := key') hkey hv hrest, h => by
    simp only [findV] at h
    split at h
    · rename_i e
      simp only [Option.some.injEq] at h; subst h
      have := equalV_scalar (n := 9999) hd hs hk hkey e
      exact ⟨_, .some hv, by simp [Instr.findNow, this]⟩
    · rename_i e
      obtain ⟨r', h1, h2⟩ := findNow_sound hd hs hk hrest h
      have := equalV_scalar (n := 9999) hd hs hk hkey e
      exact ⟨r', h1, by simp [Instr.findNow, this, h2]⟩
    · cases h

theorem findKey_sound {kt : TypeId} (hkk : keyKind P kt = true) {k : AV} {k' : Value} (hk : VR ρ k k') {es : List (AV × AV × Nat)} {es' : List MapEntry} {r : Option (Nat × AV)} (hm : MapRel ρ es es') (h : findV P kt k es 0 = some r) :
    ∃ r', FRel ρ r r' ∧ ∀ w, (Instr.findKey kt k' es').run P w = .ok r' w := by
  unfold keyKind at hkk
  have now : ∀ d, P.underlying kt = some d → scalarD d = true → ∃ r', FRel ρ r r' ∧ ∀ w, (Instr.findKey kt k' es').run P w = .ok r' w := by
    intro d hd hs
    obtain ⟨r', h1, h2⟩ := findNow_sound hd hs hk hm h
    exact ⟨r', h1, fun w => by simp [Instr.findKey, run_underlying hd, h2]⟩
  have ask : (match P.underlying kt with | some (.array _ _) | some (.struct _) => true | _ => false) = true → ∃ r', FRel ρ r r' ∧ ∀ w, (Instr.findKey kt k' es').run P w = .ok r' w := by
    intro hw
    obtain ⟨r', h1, h2⟩ := findAsking_sound hk hm h
    exact ⟨r', h1, fun w => by rw [run_findKey_eq w hw k' es']; exact h2 w⟩
  split at hkk
  · rename_i hu; exact now _ hu rfl
  · rename_i hu; exact now _ hu rfl
  · rename_i hu; exact now _ hu rfl
  · rename_i hu; exact ask (by rw [hu])
  · rename_i hu; exact ask (by rw [hu])
  · cases hkk

/-- What a map is. -/
theorem mapOf_sound {A : H} {w : World} (hr : Rel ρ A w) {x : AV} {x' : Value} {es : List (AV × AV × Nat)} (h : mapOf A x = some es) (hx : VR ρ x x') :
    (x' = .map none ∧ es = []) ∨ ∃ b es' clock, x' = .map (some b) ∧ w.heap[b]? = some (.map es' clock) ∧ MapRel ρ es es'.toList := by
  unfold mapOf at h
  split at h
  · cases hx; simp only [Option.some.injEq] at h; exact .inl ⟨rfl, h.symm⟩
  · split at h
    · rename_i es0 clock hp
      simp only [Option.some.injEq] at h; subst h
      cases hx; rename_i rb hm
      obtain ⟨es', h1, h2⟩ := hr.obj _ _ _ hp hm
      exact .inr ⟨rb.blk, es', clock, rfl, h1, h2⟩
    · cases h
  · cases h

theorem MapRel.length : ∀ {es : List (AV × AV × Nat)} {es' : List MapEntry}, MapRel ρ es es' → es.length = es'.length
  | _, _, .nil => rfl
  | _, _, .cons _ _ h => by simp [h.length]

theorem lookupV_sound {A : H} {w : World} (hr : Rel ρ A w) {t : TypeId} {x k v : AV} {ok : Bool} {x' k' : Value} (h : lookupV P A t x k ok = some v) (hx : VR ρ x x') (hk : VR ρ k k') :
    ∃ v', VR ρ v v' ∧ (Instr.lookup t x' k' ok).run P w = .ok v' w := by
  unfold lookupV at h
  split at h
  · rename_i kt e hu
    split at h
    · rename_i es hes
      split at h
      · rename_i hkk
        simp only [Bool.and_eq_true] at hkk
        -- the entries, wherever they lie
        have main : ∀ (esv : Array MapEntry), MapRel ρ es esv.toList → ∃ v', VR ρ v v' ∧ (do
              Instr.checkKey esv.isEmpty 10000 kt k'
              let (v, b) ← match ← Instr.findKey kt k' esv.toList with
                | some (_, v) => pure (v, true)
                | none => pure (← zeroValue e, false)
              pure (if ok then .tuple #[v, .bool b] else v) : Sem Value).run P w = .ok v' w := by
          intro esv hm
          have hc := checkKey_sound (P := P) (ρ := ρ) esv.isEmpty 10000 kt k k' hkk.2 hk w
          split at h
          · rename_i j u hf
            simp only [Option.some.injEq] at h; subst h
            obtain ⟨r', h1, h2⟩ := findKey_sound hkk.1 hk hm hf
            cases h1; rename_i u' hu'
            refine ⟨if ok then .tuple #[u', .bool true] else u', ?_, ?_⟩
            · cases ok
              · exact hu'
              · exact .tup (.cons hu' (.cons (.bool _) .nil))
            · simp only [Sem.run_bind, hc, Result.andThen_ok, h2, Sem.run_pure]
          · rename_i hf
            split at h
            · rename_i z hz
              simp only [Option.some.injEq] at h; subst h
              obtain ⟨z', hz1, hz2⟩ := zeroT_sound (ρ := ρ) hz
              obtain ⟨r', h1, h2⟩ := findKey_sound hkk.1 hk hm hf
              cases h1
              refine ⟨if ok then .tuple #[z', .bool false] else z', ?_, ?_⟩
              · cases ok
                · exact hz1
                · exact .tup (.cons hz1 (.cons (.bool _) .nil))
              · simp only [Sem.run_bind, hc, Result.andThen_ok, h2, hz2, Sem.run_pure]
            · cases h
          · cases h
        rcases mapOf_sound hr hes hx with ⟨rfl, rfl⟩ | ⟨b, es', clock, rfl, hb, hm⟩
        · obtain ⟨v', h1, h2⟩ := main #[] .nil
          refine ⟨v', h1, ?_⟩
          rw [← h2]
          simp only [Instr.lookup, Sem.run_bind, run_underlying hu, Result.andThen_ok, Sem.run_pure]
          rfl
        · obtain ⟨v', h1, h2⟩ := main es' hm
          refine ⟨v', h1, ?_⟩
          rw [← h2]
          simp only [Instr.lookup, Sem.run_bind, run_underlying hu, Result.andThen_ok, Go.MapKept.run_getObj_map hb, Sem.run_pure]
          rfl
      · cases h
    · cases h
  · cases h

/-! ### Keys without addresses -/
theorem litV_one {v : AV} (h : litV v = true) {a b : Value} (ha : VR ρ v a) (hb : VR ρ v b) : a = b := by
  cases ha <;> simp [litV] at h
  · cases hb; rfl
  · cases hb; rfl
  · rename_i s
    generalize hs : bytesOf s = l at hb
    cases hb
    rename_i s'
    have : s.data.toList = s'.data.toList := by
      have h2 : s.data.toList.map (·.toNat) = s'.data.toList.map (·.toNat) := hs
      have inj : ∀ (a b : List UInt8), a.map (·.toNat) = b.map (·.toNat) → a = b := by
        intro a
        induction a with
        | nil => intro b h; cases b with | nil => rfl | cons _ _ => simp at h
        | cons x a ih => intro b h; cases b with
          | nil => simp at h
          | cons y b => simp only [List.map_cons, List.cons.injEq] at h; rw [UInt8.toNat_inj.1 h.1, ih b h.2]
      exact inj _ _ h2
    have e : s.data = s'.data := Array.toList_inj.1 this
    cases s; cases s'; simp at e; rw [e]

theorem litVs_one : ∀ {l : List AV} {a b : List Value}, l.all litV = true → VRs ρ l a → VRs ρ l b → a = b
  | _, _, _, _, .nil, .nil => rfl
  | _, _, _, h, .cons x xs, .cons y ys => by
    simp only [List.all_cons, Bool.and_eq_true] at h
    rw [litV_one h.1 x y, litVs_one h.2 xs ys]

theorem litKey_one {v : AV} (h : litKey v = true) {a b : Value} (ha : VR ρ v a) (hb : VR ρ v b) : a = b := by
  by_cases hv : litV v = true
  · exact litV_one hv ha hb
  · cases v <;> simp [litKey, litV] at h hv
    cases ha; rename_i ca h1
    cases hb; rename_i cb h2
    have := litVs_one (by rw [List.all_eq_true]; exact h) h1 h2
    rw [Array.toList_inj.1 this]

theorem sameBits_lit {v : AV} (h : litV v = true) {a : Value} (ha : VR ρ v a) (n : Nat) : Instr.sameBits n a a = true := by
  cases ha <;> simp [litV] at h
  · cases n <;> simp [Instr.sameBits]
  · cases n <;> simp [Instr.sameBits]
  · cases n <;> simp [Instr.sameBits, Go.MapKept.bytes_beq]

theorem sameBits_zip : ∀ {l : List AV} {c : List Value}, VRs ρ l c → (∀ x ∈ l, litV x = true) → ∀ (n : Nat), ∀ p ∈ c.zip c, Instr.sameBits n p.1 p.2 = true
  | _, _, .nil, _, _, p, hp => by simp at hp
  | _, _, .cons a b, hl, n, p, hp => by
    simp only [List.zip_cons_cons, List.mem_cons] at hp
    rcases hp with rfl | hp
    · exact sameBits_lit (hl _ (by simp)) a n
    · exact sameBits_zip b (fun x hx => hl x (by simp [hx])) n p hp

theorem sameBits_litKey {v : AV} (h : litKey v = true) {a : Value} (ha : VR ρ v a) (n : Nat) : Instr.sameBits (n + 1) a a = true := by
  by_cases hv : litV v = true
  · exact sameBits_lit hv ha _
  · cases v <;> simp [litKey, litV] at h hv
    cases ha; rename_i cs h1
    simp only [Instr.sameBits, BEq.rfl, Bool.true_and]
    rw [List.all_eq_true]
    rintro ⟨x, y⟩ hxy
    exact sameBits_zip h1 h n _ hxy

end Go.AM
