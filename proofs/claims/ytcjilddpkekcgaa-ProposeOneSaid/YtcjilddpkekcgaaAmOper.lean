/-
  THE MACHINE 'AM': one operation, whatever it is; a region in the text's order.
-/
import Derived.Test.YtcjilddpkekcgaaAmMIter
import Derived.Laws.IdiomStrings
namespace Go.AM
variable {P : Program}

/-- The fence that lets everything in. -/
abbrev FW (r : Option Nat) : Fence := { Fence.wide with round := r }
theorem FW_none : FW none = Fence.wide := rfl

theorem storeK_sound {A : H} {t : TypeId} {x v : AV} {k : H → Ans} (h : storeK P A t x v k = .ok) :
    ∃ A', k A' = .ok ∧ ∀ (ρ : RM) (w : World) (x' v' : Value), Rel ρ A w → VR ρ x x' → VR ρ v v' → ∃ w', Stp ρ A w ρ A' w' ∧ Rel ρ A' w' ∧ (Instr.storeAt t x' v').run P w = .ok () w' := by
  unfold storeK at h
  split at h
  · rename_i p off
    split at h
    · rename_i cs esz n hp hs
      split at h
      · rename_i hc
        simp only [Bool.and_eq_true, Nat.beq_eq, Nat.ble_eq] at hc
        obtain ⟨⟨h1, h2⟩, h3⟩ := hc
        rw [setsK_eq, H.setK_eq] at h
        refine ⟨_, h, fun ρ w x' v' hr hx hv => ?_⟩
        cases hx; rename_i rb hm
        obtain ⟨w', hst, hr2, hs2⟩ := write_sound (P := P) hr hp hm (hv.cells (AV.isAny_of_one h3)) h3 h2
        have hlen : v'.cells.size = n := by have := (hv.cells (AV.isAny_of_one h3)).length; simp at this; omega
        refine ⟨w', hs2, hr2, ?_⟩
        simp [Instr.storeAt, Instr.sureAddr, storeVar, run_sizeT hs, hlen, hst]
      · cases h
    · cases h
  · cases h

/-- The values of an operation that acts: what the walk owes behind it. -/
def OpOK (P : Program) (A : H) (v : AV) (A' : H) (ρ : RM) (w : World) (o : Oper) (a : Act) : Prop :=
  ∀ (r : Option Nat) (n : Nat) (next : Act → World → Prop) (Q : Exit → Act → World → Prop),
    (∀ ρ' w' v', Stp ρ A w ρ' A' w' → Rel ρ' A' w' → VR ρ' v v' → next (a.put o.dst v') w') → o.wpIn (FW r) n P a w next Q

theorem OpOK.value {A A' : H} {v : AV} {ρ ρ' : RM} {w w' : World} {o : Oper} {a : Act} {v' : Value} (hd : ∀ c, o.op ≠ .defer c) (hs : Stp ρ A w ρ' A' w') (hr : Rel ρ' A' w') (hv : VR ρ' v v')
    (hrun : (execOp a.eval o).run P w = .ok (.value v') w') : OpOK P A v A' ρ w o a := by
  intro r n next Q h
  refine ⟨fun _ _ => trivial, ?_⟩
  rw [Oper.semAt_eq _ _ _ hd, hrun]
  exact h ρ' w' v' hs hr hv
theorem OpOK.skip {A A' : H} {ρ ρ' : RM} {w w' : World} {o : Oper} {a : Act} (hd : ∀ c, o.op ≠ .defer c) (hs : Stp ρ A w ρ' A' w') (hr : Rel ρ' A' w')
    (hrun : (execOp a.eval o).run P w = .ok .skip w') : OpOK P A (.tup []) A' ρ w o a := by
  intro r n next Q h
  refine ⟨fun _ _ => trivial, ?_⟩
  rw [Oper.semAt_eq _ _ _ hd, hrun]
  exact h ρ' w' undef hs hr (.tup .nil)

/-- What calling a function value comes to. -/
def CallGives (P : Program) (A : H) (v : AV) (A' : H) (ρ : RM) (w : World) (s : Sem Next) : Prop :=
  (∃ g as, s.run P w = .ok (.enter g as) w ∧ ∀ n, CallsIn (FW none) n P g as w fun e w' => ∃ ρ' v', e = .returned v' ∧ Stp ρ A w ρ' A' w' ∧ Rel ρ' A' w' ∧ VR ρ' v v') ∨
  (∃ ρ' w' v', Stp ρ A w ρ' A' w' ∧ Rel ρ' A' w' ∧ VR ρ' v v' ∧ s.run P w = .ok (.value v') w') ∨
  (∃ l f tmps assign body, s.run P w = .ok (.round l f tmps assign body) w ∧ ∀ n, RoundIn (FW none) n P l f tmps assign body w fun e w' => ∃ ρ' v', e = .returned v' ∧ Stp ρ A w ρ' A' w' ∧ Rel ρ' A' w' ∧ VR ρ' v v')

def callSem (f : Value) (args : Array Value) : Sem Next := do let d ← Deferred.ofValue f args; invoke d.target d.args

/-- 'app' is what calling a function value does. -/
def AppOK (P : Program) (app : AV → List AV → H → (AV → H → Ans) → Ans) : Prop :=
  ∀ f args A k, app f args A k = .ok → ∃ v A', k v A' = .ok ∧ ∀ (ρ : RM) (w : World) (f' : Value) (args' : Array Value), Rel ρ A w → VR ρ f f' → VRs ρ args args'.toList → CallGives P A v A' ρ w (callSem f' args')

theorem OpOK.callG {A A' : H} {v : AV} {ρ : RM} {w : World} {o : Oper} {a : Act} {s : Sem Next} (hd : ∀ c, o.op ≠ .defer c) (he : (execOp a.eval o).run P w = s.run P w) (h : CallGives P A v A' ρ w s) : OpOK P A v A' ρ w o a := by
  intro r n next Q hn
  refine ⟨fun _ _ => trivial, ?_⟩
  rw [Oper.semAt_eq _ _ _ hd, he]
  rcases h with ⟨g, as, hrun, hcall⟩ | ⟨ρ', w', v', hs, hr, hv, hrun⟩ | ⟨l, f', tmps, assign, body, hrun, hround⟩
  · rw [hrun]
    refine ⟨fun h => by simp [Fence.wide] at h, ?_⟩
    refine CallsIn.mono (F := FW r) (h := hcall (n - 1)) ?_
    rintro e w' ⟨ρ', v', rfl, h1, h2, h3⟩
    exact hn ρ' w' v' h1 h2 h3
  · rw [hrun]
    exact hn ρ' w' v' hs hr hv
  · rw [hrun]
    refine ⟨fun h => by simp [Fence.wide] at h, ?_⟩
    refine RoundIn.mono (F := FW r) (h := hround (n - 1)) ?_
    rintro e w' ⟨ρ', v', rfl, h1, h2, h3⟩
    exact hn ρ' w' v' h1 h2 h3

theorem OpOK.call {A A' : H} {v : AV} {ρ : RM} {w : World} {o : Oper} {a : Act} {c : Call} {f : Operand} (ho : o.op = .call c) (hc : c.callee = .value f) (h : CallGives P A v A' ρ w (callSem (a.eval f) (c.args.map a.eval))) : OpOK P A v A' ρ w o a :=
  .callG (by rw [ho]; intro _ h; cases h) (by simp only [execOp, ho, resolve, hc, callSem]) h

theorem methV_sound {ρ : RM} {A : H} {t : TypeId} {name : String} {f : FuncId} {x u : AV} (h : methV P A t name x = some (f, u)) {v : Value} (hv : VR ρ x v) {w : World} (hr : Rel ρ A w) : ∃ u', VR ρ u u' ∧ ∀ (n : Nat), (method (n + 1) t v name).run P w = .ok (f, u') w := by
  unfold methV at h
  split at h
  · rename_i i hi
    split at h
    · rename_i m hm
      have key : ∀ (ptr : Bool) (d : TypeDesc), m.path.toList = [] → m.func = some (f, ptr) → P.underlying t = some d → (ptr = true → ∃ e, d = .pointer e) → (ptr = false → ∀ e, d ≠ .pointer e) → ∀ n, (method (n + 1) t v name).run P w = .ok (f, v) w := by
        intro ptr d hpath hf hu h1 h2 n
        unfold method
        simp only [Sem.run_bind, run_typeInfoT hi, Result.andThen_ok, hm, hpath, follow, Sem.run_pure, hf, receiverAt, run_underlying hu]
        cases ptr with
        | true => obtain ⟨e, rfl⟩ := h1 rfl; simp [Place.get]
        | false =>
          have := h2 rfl
          cases d <;> first | exact absurd rfl (this _) | simp [Place.get]
      split at h
      · rename_i g b hp hf
        split at h
        · rename_i hu
          simp only [Option.some.injEq, Prod.mk.injEq] at h; obtain ⟨rfl, rfl⟩ := h
          exact ⟨v, hv, key true _ hp hf hu (fun _ => ⟨_, rfl⟩) (fun h => by cases h)⟩
        · rename_i e hu
          split at h
          · rename_i p off
            split at h
            · rename_i y hy
              simp only [Option.some.injEq, Prod.mk.injEq] at h; obtain ⟨rfl, rfl⟩ := h
              obtain ⟨u', h1, h2⟩ := loadV_sound (P := P) hy hr hv
              cases hv; rename_i rb hm2
              refine ⟨u', h1, fun n => ?_⟩
              have hpe : m.path = #[] := by simpa using hp
              simp only [Instr.loadAt, Instr.sureAddr, Sem.run_bind, Sem.run_pure, Result.andThen_ok] at h2
              have hchk : ∀ (ad : Addr) (nm : String), (Builtin.ssaWrapNilChk_ #[t] t #[.pointer (some ad), strVal "", strVal nm]).run P w = .ok (.pointer (some ad)) w := fun _ _ => rfl
              unfold method
              simp [run_typeInfoT hi, hm, follow, hf, receiverAt, run_underlying hu, Place.get, hpe, hchk, asAddr, h2]
            · cases h
          · cases h
        · rename_i d hno hu
          simp only [Option.some.injEq, Prod.mk.injEq] at h; obtain ⟨rfl, rfl⟩ := h
          exact ⟨v, hv, key false d hp hf hu (fun h => by cases h) (fun _ e he => hno e he)⟩
        · cases h
      · rename_i s g hp hf
        split at h
        · rename_i fs hd hus
          split at h
          · rename_i fd hfd
            split at h
            · cases h
            · rename_i d hnp huf
              split at h
              · rename_i y hy
                simp only [Option.some.injEq, Prod.mk.injEq] at h; obtain ⟨rfl, rfl⟩ := h
                unfold fieldAddrV at hy
                have fin : ∀ (ad : Addr) (n0 : Nat), v = .pointer (some ad) → sizeT P fd.type = some (n0 + 1) → ∀ (n : Nat), (method (n + 1) t v name).run P w = .ok (g, .pointer (some (ad.add fd.offset))) w := by
                  intro ad n0 hva hsz n
                  unfold method
                  have hr : (receiverAt fd.type (.var (ad.add fd.offset)) true none).run P w = .ok (.pointer (some (ad.add fd.offset))) w := by
                    simp only [receiverAt, Sem.run_bind, run_underlying huf, Result.andThen_ok]
                    cases d <;> first | exact absurd rfl (hnp _) | simp
                  have he : m.path.isEmpty = false := by
                    cases hb : m.path.isEmpty with
                    | false => rfl
                    | true => have : m.path.toList = [] := by simpa using hb
                              rw [this] at hp; cases hp
                  simp only [Sem.run_bind, run_typeInfoT hi, Result.andThen_ok, hm, hp, follow, run_underlying hus, hfd, hd, if_true, Place.get, Sem.run_pure, hva, asAddr, run_fieldPlace hsz, hf, he, Bool.false_eq_true, if_false, hr]
                split at hy
                · rename_i fs' p off hus'
                  rw [hus] at hus'; cases hus'
                  cases hv; rename_i rb hmm
                  split at hy
                  · rename_i fd' hfd'
                    rw [hfd] at hfd'; cases hfd'
                    split at hy
                    · rename_i n0 hsz
                      simp only [Option.some.injEq] at hy; subst hy
                      refine ⟨_, .ptr hmm, fun n => ?_⟩
                      have := fin _ n0 rfl hsz n
                      rw [this, addr_add, Nat.add_assoc]
                    · cases hy
                  · cases hy
                · rename_i fs' g0 off hus'
                  rw [hus] at hus'; cases hus'
                  cases hv
                  split at hy
                  · rename_i fd' hfd'
                    rw [hfd] at hfd'; cases hfd'
                    split at hy
                    · rename_i n0 hsz
                      simp only [Option.some.injEq] at hy; subst hy
                      refine ⟨_, .gptr _ _, fun n => ?_⟩
                      have := fin _ n0 rfl hsz n
                      rw [this, addr_add]
                    · cases hy
                  · cases hy
                · rename_i fs' c0 off hus'
                  rw [hus] at hus'; cases hus'
                  cases hv with | @fp _ b sh _ c d' h1 h2 h3 h4 =>
                  split at hy
                  · rename_i fd' hfd'
                    rw [hfd] at hfd'; cases hfd'
                    split at hy
                    · rename_i n0 hsz
                      simp only [Option.some.injEq] at hy; subst hy
                      refine ⟨_, .fp h1 h2 h3 h4, fun n => ?_⟩
                      have := fin _ n0 rfl hsz n
                      rw [this, addr_add, Nat.add_assoc]
                    · cases hy
                  · cases hy
                · cases hy
              · cases h
            · cases h
          · cases h
        · cases h
      · cases h
    · cases h
  · cases h

theorem builtinK_sound {A : H} {b : Builtin} {ts : Array TypeId} {args : List AV} {k : AV → H → Ans} (h : builtinK P A b ts args k = .ok) :
    ∃ v A', k v A' = .ok ∧ ∀ (ρ : RM) (w : World) (args' : Array Value) (ty : TypeId) (cs : Array Bool), Rel ρ A w → VRs ρ args args'.toList →
      ∃ ρ' w' v', Stp ρ A w ρ' A' w' ∧ Rel ρ' A' w' ∧ VR ρ' v v' ∧ (builtin b ts ty cs args').run P w = .ok (.value v') w' := by
  unfold builtinK at h
  split at h
  · -- append
    rename_i s x t ht0
    split at h
    · rename_i e ht
      split at h
      · rename_i size bytes z hs hb hz
        split at h
        · rename_i hc
          simp only [Bool.and_eq_true, Nat.blt, Nat.ble_eq, Nat.beq_eq] at hc
          obtain ⟨hsz0, hzl⟩ := hc
          unfold sizeT at hs
          unfold bytesT at hb
          unfold zeroT at hz
          cases hi : P.info? e with
          | none => simp [hi] at hs
          | some i =>
            simp only [hi, Option.map_some, Option.some.injEq] at hs hb hz
            cases hzz : i.zero with
            | none => simp [hzz] at hz
            | some zv =>
              simp only [hzz] at hz
              have hzr : ∀ ρ : RM, VR ρ z zv := fun ρ => VR.ofConst hz
              have hzs : zv.cells.size = size := by
                have := ((hzr ⟨fun _ => none, fun _ => .nilIface, fun _ => ⟨rfl, fun _ h => by cases h⟩, fun _ => none⟩).cells (ofConst_isAny hz)).length
                simp at this; omega
              split at h
              · rename_i u hu1
                split at h
                · rename_i ik hu2
                  split at h
                  · rename_i k' n
                    split at h
                    · rename_i hn
                      simp only [Bool.and_eq_true, Nat.blt, Nat.ble_eq, roomy] at hn
                      obtain ⟨v, A', hk, hg⟩ := appendK_sound h (by omega) (by simp [hzl])
                      refine ⟨v, A', hk, fun ρ w args' ty cs hr hargs => ?_⟩
                      obtain ⟨l⟩ := args'
                      cases hargs with
                      | cons hs' hrest => cases hrest with
                        | cons hx' hnil => cases hnil
                                           rename_i s' x'
                                           cases hx'
                                           have hsrc : Src P w size n ts bytes zv (.int k' (.ofNat n)) (List.replicate n zv.cells.toList).flatten := by
                                             refine ⟨by simp [hzs], .inr ⟨u, ik, k', hu1, hu2, rfl, by omega, by omega, ?_, hzs⟩⟩
                                             apply Array.ext'
                                             rw [Builtin.zeroCells, zeros_list _ _ (by omega)]
                                           obtain ⟨ρ', w', v', q1, q2, q3, q4⟩ := hg ρ w s' _ _ ts t e ty i zv hr hs' (VRs.flatten_replicate n ((hzr ρ).cells (ofConst_isAny hz))) hsrc ht0 ht hi hs hb hzz hzs
                                           simp only [Int.ofNat_eq_natCast] at q4
                                           exact ⟨ρ', w', v', q1, q2, q3, by simp [builtin, q4]⟩
                    · cases h
                  · cases h
                · rename_i du hni hu2
                  split at h
                  · rename_i n hl
                    split at h
                    · rename_i new hsrc0
                      have hnl : new.length = n * size := by
                        unfold srcCells at hsrc0
                        split at hsrc0
                        · split at hsrc0
                          · obtain ⟨h3, rfl⟩ := readN_some hsrc0; simp; omega
                          · cases hsrc0
                        · simp only [srcLen, Option.some.injEq] at hl; subst hl; simp only [Option.some.injEq] at hsrc0; subst hsrc0; simp
                        · simp only [srcLen, Option.some.injEq] at hl; subst hl; simp only [Option.some.injEq] at hsrc0; subst hsrc0; simp
                        · simp only [srcLen, Option.some.injEq] at hl; subst hl; simp only [Option.some.injEq] at hsrc0; subst hsrc0; simp
                        · simp only [srcLen, Option.some.injEq] at hl; subst hl
                          obtain ⟨h3, rfl⟩ := readN_some hsrc0; simp; omega
                        · simp only [srcLen, Option.some.injEq] at hl; subst hl
                          split at hsrc0
                          · rename_i h8
                            have h8 : size = 1 := by simpa using h8
                            subst h8
                            simp only [Option.some.injEq] at hsrc0; subst hsrc0; simp
                          · cases hsrc0
                        · cases hsrc0
                      obtain ⟨v, A', hk, hg⟩ := appendK_sound h (by omega) hnl
                      refine ⟨v, A', hk, fun ρ w args' ty cs hr hargs => ?_⟩
                      obtain ⟨l⟩ := args'
                      cases hargs with
                      | cons hs' hrest => cases hrest with
                        | cons hx' hnil => cases hnil
                                           rename_i s' x'
                                           obtain ⟨new', n1, n2, n3, n4⟩ := srcCells_sound (P := P) hr hsrc0 hx' hl (Nat.le_refl _) (by omega)
                                           have hsrc : Src P w size n ts bytes zv x' new' := ⟨by rw [← n1.length]; exact n2, .inl ⟨u, du, hu1, hu2, fun k' e0 => hni k' e0, n3, n4⟩⟩
                                           obtain ⟨ρ', w', v', q1, q2, q3, q4⟩ := hg ρ w s' x' new' ts t e ty i zv hr hs' n1 hsrc ht0 ht hi hs hb hzz hzs
                                           exact ⟨ρ', w', v', q1, q2, q3, by simp [builtin, q4]⟩
                    · cases h
                  · cases h
                · cases h
              · cases h
        · cases h
      · cases h
    · cases h
  · -- copy
    rename_i d x t ht0
    split at h
    · rename_i e ht
      split at h
      · rename_i size m n hs hdl hxl
        split at h
        · cases h
        rename_i hb0
        have h0 : 0 < size := by
          have : size ≠ 0 := by simpa using hb0
          omega
        rw [fNat_eq] at h
        have hmin : (if Nat.ble n m then n else m) = Nat.min n m := by
          by_cases hb : n ≤ m
          · rw [if_pos (by simpa using hb)]; simp [hb]
          · rw [if_neg (by simpa using hb)]; simp [Nat.min_def, hb]
        simp only [hmin] at h
        split at h
        · rename_i new hsrc0
          split at h
          · rename_i p off len cap soft
            split at h
            · rename_i cs esz hp
              split at h
              · rename_i hc
                simp only [Bool.and_eq_true, Nat.ble_eq] at hc
                rw [setsK_eq, H.setK_eq] at h
                refine ⟨_, _, h, fun ρ w args' ty bs hr hargs => ?_⟩
                obtain ⟨l⟩ := args'
                cases hargs with
                | cons hd' hrest => cases hrest with
                  | cons hx' hnil =>
                    cases hnil
                    rename_i d' x'
                    simp only [srcLen, Option.some.injEq] at hdl; subst hdl
                    obtain ⟨new', n1, n2, n3, n4⟩ := srcCells_sound (P := P) hr hsrc0 hx' hxl (Nat.min_le_left _ _) h0
                    cases hd' with | @slice _ _ _ _ _ rb off' cap' hm hcap hoff hlen =>
                    by_cases hn0 : Nat.min n len = 0
                    · have hnil : new = [] := List.eq_nil_of_length_eq_zero (by rw [n2, hn0]; simp)
                      have hnil' : new' = [] := List.eq_nil_of_length_eq_zero (by rw [← n1.length, hnil]; rfl)
                      subst hnil; subst hnil'
                      obtain ⟨hr2, hs2⟩ := hr.turn (o' := .cells (sets [] cs off) esz false) hp hm rfl rfl (Turned.refl w rb.blk) (hr.obj _ _ _ hp hm)
                      refine ⟨ρ, w, _, hs2, hr2, .int _ _, ?_⟩
                      have n4' := n4 w rfl
                      simp [builtin, Builtin.copy_, ht0, run_underlying ht, n3, run_sizeT hs, n4', storeCells, goInt]
                    · have ho : off' = rb.shift + off := by
                        have h9 : Nat.min n len ≤ len := Nat.min_le_right n len
                        have : 0 < len := by omega
                        rcases hoff with e0 | e0 <;> omega
                      subst ho
                      obtain ⟨w', hst, hr2, hs2⟩ := write_sound (P := P) hr hp hm n1 hc.2 hc.1
                      refine ⟨ρ, w', _, hs2, hr2, .int _ _, ?_⟩
                      have n4' := n4 w rfl
                      simp [builtin, Builtin.copy_, ht0, run_underlying ht, n3, run_sizeT hs, n4', hst, goInt]
              · cases h
            · cases h
          · refine ⟨_, _, h, fun ρ w args' ty bs hr hargs => ?_⟩
            obtain ⟨l⟩ := args'
            cases hargs with
            | cons hd' hrest => cases hrest with
              | cons hx' hnil =>
                cases hnil
                rename_i d' x'
                simp only [srcLen, Option.some.injEq] at hdl; subst hdl
                obtain ⟨new', n1, n2, n3, n4⟩ := srcCells_sound (P := P) hr hsrc0 hx' hxl (Nat.min_le_left _ _) h0
                cases hd'
                refine ⟨ρ, w, _, .refl, hr, .int _ _, ?_⟩
                have n4' := n4 w rfl
                rw [show Nat.min n 0 = 0 from Nat.min_zero n] at n4' ⊢
                simp [builtin, Builtin.copy_, ht0, run_underlying ht, n3, run_sizeT hs, n4', goInt]
          · refine ⟨_, _, h, fun ρ w args' ty bs hr hargs => ?_⟩
            obtain ⟨l⟩ := args'
            cases hargs with
            | cons hd' hrest => cases hrest with
              | cons hx' hnil =>
                cases hnil
                rename_i d' x'
                simp only [srcLen, Option.some.injEq] at hdl; subst hdl
                obtain ⟨new', n1, n2, n3, n4⟩ := srcCells_sound (P := P) hr hsrc0 hx' hxl (Nat.min_le_left _ _) h0
                cases hd' with | @e0 ad hok =>
                refine ⟨ρ, w, _, .refl, hr, .int _ _, ?_⟩
                have n4' := n4 w rfl
                rw [show Nat.min n 0 = 0 from Nat.min_zero n] at n4' ⊢
                have e1 : new' = [] := List.eq_nil_of_length_eq_zero (by rw [← n1.length, n2, show Nat.min n 0 = 0 from Nat.min_zero n]; simp)
                subst e1
                cases ad <;> simp [storeCells, builtin, Builtin.copy_, ht0, run_underlying ht, n3, run_sizeT hs, n4', goInt]
          · cases h
        · cases h
      · cases h
    · cases h
  · -- clear
    rename_i x t ht0
    split at h
    · rename_i e ht
      refine ⟨_, _, h, fun ρ w args' ty bs hr hargs => ?_⟩
      obtain ⟨l⟩ := args'
      cases hargs with
      | cons hx' hnil =>
        cases hnil; cases hx'
        refine ⟨ρ, w, _, .refl, hr, .tup .nil, ?_⟩
        simp [builtin, Builtin.clear_, ht0, run_underlying ht]
    · rename_i e p off n cap soft ht
      split at h
      · rename_i size z cs esz hs hz hp
        split at h
        · rename_i hn
          have hn0 : n = 0 := by simpa using hn
          subst hn0
          refine ⟨_, _, h, fun ρ w args' ty bs hr hargs => ?_⟩
          obtain ⟨l⟩ := args'
          cases hargs with
          | cons hx' hnil =>
            cases hnil; cases hx'
            refine ⟨ρ, w, _, .refl, hr, .tup .nil, ?_⟩
            simp [builtin, Builtin.clear_, ht0, run_underlying ht]
        · rename_i hn
          have hn0 : n ≠ 0 := by simpa using hn
          split at h
          · rename_i hc
            simp only [Bool.and_eq_true, Nat.blt, Nat.ble_eq, Nat.beq_eq] at hc
            obtain ⟨hzl, hsz0, hle, hall⟩ := hc
            rw [setsK_eq, H.setK_eq] at h
            refine ⟨_, _, h, fun ρ w args' ty bs hr hargs => ?_⟩
            obtain ⟨l⟩ := args'
            cases hargs with
            | cons hx' hnil =>
              cases hnil; cases hx' with | @slice _ _ _ _ _ rb off' cap' hm hcap hoff hlen =>
              obtain ⟨z', hz1, hz2⟩ := zeroT_sound (ρ := ρ) hz
              have hzl' : z'.cells.size = size := by have := (hz1.cells (zeroT_isAny hz)).length; simp at this; omega
              have ho : off' = rb.shift + off := by rcases hoff with e0 | e0 <;> omega
              subst ho
              have hlen2 : ((List.replicate n z.cells).flatten).length = n * size := by simp [hzl]
              have hall2 : ((List.replicate n z.cells).flatten).all AV.one = true := by
                rw [List.all_eq_true] at hall ⊢
                intro y hy
                obtain ⟨l2, h1, h2⟩ := List.mem_flatten.1 hy
                rw [List.mem_replicate] at h1
                rw [h1.2] at h2
                exact hall y h2
              obtain ⟨w', hst, hr2, hs2⟩ := write_sound (P := P) hr hp hm (VRs.flatten_replicate n (hz1.cells (zeroT_isAny hz))) hall2 (by rw [hlen2]; exact hle)
              refine ⟨ρ, w', _, hs2, hr2, .tup .nil, ?_⟩
              have hzz : (Builtin.zeroCells z'.cells n).toList = (List.replicate n z'.cells.toList).flatten := by
                rw [Builtin.zeroCells]; exact zeros_list _ _ (by omega)
              obtain ⟨n1, rfl⟩ : ∃ n1, n = n1 + 1 := ⟨n - 1, by omega⟩
              simp [builtin, Builtin.clear_, ht0, run_underlying ht, hz2, hzz, hst]
          · cases h
      · cases h
    · rename_i kt e ht
      refine ⟨_, _, h, fun ρ w args' ty bs hr hargs => ?_⟩
      obtain ⟨l⟩ := args'
      cases hargs with
      | cons hx' hnil =>
        cases hnil; cases hx'
        exact ⟨ρ, w, _, .refl, hr, .tup .nil, by simp [builtin, Builtin.clear_, ht0, run_underlying ht]⟩
    · rename_i kt e p ht
      split at h
      · rename_i es clock hp
        rw [H.setK_eq] at h
        refine ⟨_, _, h, fun ρ w args' ty bs hr hargs => ?_⟩
        obtain ⟨l⟩ := args'
        cases hargs with
        | cons hx' hnil =>
          cases hnil; cases hx'; rename_i rb hm
          obtain ⟨es', h1, h2⟩ := hr.obj _ _ _ hp hm
          obtain ⟨s1, s2, s3⟩ := hr.turnMap (P := P) hp hm (c2 := clock) (es2' := #[]) (es2 := []) .nil
          exact ⟨ρ, _, _, s3, s2, .tup .nil, by simp [builtin, Builtin.clear_, ht0, run_underlying ht, Go.MapKept.run_getObj_map h1, s1]⟩
      · cases h
    · cases h
  · -- delete
    rename_i m key t ht0
    obtain ⟨A', hk, hg⟩ := deleteK_sound h
    refine ⟨_, A', hk, fun ρ w args' ty bs hr hargs => ?_⟩
    obtain ⟨l⟩ := args'
    cases hargs with
    | cons hm' hrest => cases hrest with
      | cons hk' hnil =>
        cases hnil
        rename_i m' key'
        obtain ⟨w', g1, g2, g3⟩ := hg ρ w m' key' ts ty ht0 hr hm' hk'
        exact ⟨ρ, w', _, g1, g2, .tup .nil, by simp [builtin, g3]⟩
  · cases h

theorem effK_sound {fn i : Nat} {app : AV → List AV → H → (AV → H → Ans) → Ans} (happ : AppOK P app) {tm : Tm} {A : H} {op : Op} {k : AV → H → Ans} (h : effK P fn i app tm A op k = .ok) :
    ∃ v A', k v A' = .ok ∧ ∀ (ρ : RM) (w : World) (o : Oper) (a : Act), o.op = op → Rel ρ A w → OpdRel ρ tm a op.operands.toList → OpOK P A v A' ρ w o a := by
  unfold effK at h
  split at h
  · rename_i t x v
    split at h
    · rename_i xv vv ex evv
      obtain ⟨A', hk, hg⟩ := storeK_sound h
      refine ⟨_, A', hk, fun ρ w o a ho hr ht => ?_⟩
      obtain ⟨w', h1, h2, h3⟩ := hg ρ w _ _ hr (ht _ (by simp [Op.operands]) _ ex) (ht _ (by simp [Op.operands]) _ evv)
      exact .skip (by rw [ho]; intro c e; cases e) h1 h2 (by simp [execOp, ho, h3])
    · cases h
  · rename_i t
    rw [H.newK_eq] at h
    refine ⟨_, _, h, fun ρ w o a ho hr ht => ?_⟩
    obtain ⟨ρ', w', v', h1, h2, h3, h4⟩ := makeMap_sound (P := P) hr (t := t) (r := none) (.inl rfl)
    exact .value (by rw [ho]; intro c e; cases e) h1 h2 h3 (by simp [execOp, ho, h4])
  · rename_i t r
    split at h
    · rename_i kt e ik n hu er
      rw [H.newK_eq] at h
      refine ⟨_, _, h, fun ρ w o a ho hr ht => ?_⟩
      have hc := ht _ (by simp [Op.operands]) _ er
      generalize hb : a.eval r = rv at hc
      cases hc
      obtain ⟨ρ', w', v', h1, h2, h3, h4⟩ := makeMap_sound (P := P) hr (t := t) (r := some (.int ik n)) (.inr ⟨_, _, _, _, hu, rfl⟩)
      exact .value (by rw [ho]; intro c e; cases e) h1 h2 h3 (by simp [execOp, ho, hb, h4])
    · cases h
  · rename_i t m key v
    split at h
    · rename_i mv kv vv em ek evv
      obtain ⟨A', hk, hg⟩ := mapUpdateK_sound h
      refine ⟨_, A', hk, fun ρ w o a ho hr ht => ?_⟩
      obtain ⟨w', h1, h2, h3⟩ := hg ρ w _ _ _ hr (ht _ (by simp [Op.operands]) _ em) (ht _ (by simp [Op.operands]) _ ek) (ht _ (by simp [Op.operands]) _ evv)
      exact .skip (by rw [ho]; intro c e; cases e) h1 h2 (by simp [execOp, ho, h3])
    · cases h
  · rename_i t m key v
    split at h
    · rename_i mv kv vv em ek evv
      obtain ⟨A', hk, hg⟩ := mapUpdateK_sound h
      refine ⟨_, A', hk, fun ρ w o a ho hr ht => ?_⟩
      obtain ⟨w', h1, h2, h3⟩ := hg ρ w _ _ _ hr (ht _ (by simp [Op.operands]) _ em) (ht _ (by simp [Op.operands]) _ ek) (ht _ (by simp [Op.operands]) _ evv)
      exact .skip (by rw [ho]; intro c e; cases e) h1 h2 (by simp [execOp, ho, h3])
    · cases h
  · rename_i t m key
    split at h
    · rename_i mv kv em ek
      obtain ⟨v, A', hk, hg⟩ := mapEntryK_sound h
      refine ⟨v, A', hk, fun ρ w o a ho hr ht => ?_⟩
      obtain ⟨w', v', h1, h2, h3, h4⟩ := hg ρ w _ _ hr (ht _ (by simp [Op.operands]) _ em) (ht _ (by simp [Op.operands]) _ ek)
      exact .value (by rw [ho]; intro c e; cases e) h1 h2 h3 (by simp [execOp, ho, h4])
    · cases h
  · rename_i t m st v
    split at h
    · rename_i mv sv vv em es evv
      obtain ⟨A', hk, hg⟩ := entryStoreK_sound (P := P) h
      refine ⟨_, A', hk, fun ρ w o a ho hr ht => ?_⟩
      obtain ⟨w', h1, h2, h3⟩ := hg ρ w t _ _ _ hr (ht _ (by simp [Op.operands]) _ em) (ht _ (by simp [Op.operands]) _ es) (ht _ (by simp [Op.operands]) _ evv)
      exact .skip (by rw [ho]; intro c e; cases e) h1 h2 (by simp [execOp, ho, h3])
    · cases h
  · rename_i t x
    split at h
    · rename_i l hu ex
      rw [H.newK_eq] at h
      refine ⟨_, _, h, fun ρ w o a ho hr ht => ?_⟩
      have hc := ht _ (by simp [Op.operands]) _ ex
      generalize hb : a.eval x = xv at hc
      cases hc; rename_i sb
      obtain ⟨ρ', w', v', h1, h2, h3, h4⟩ := rangeS_sound (P := P) hr sb hu
      exact .value (by rw [ho]; intro c e; cases e) h1 h2 h3 (by simp [execOp, ho, hb, h4])
    · rename_i kt e hu ex
      rw [H.newK_eq] at h
      refine ⟨_, _, h, fun ρ w o a ho hr ht => ?_⟩
      have hc := ht _ (by simp [Op.operands]) _ ex
      generalize hb : a.eval x = xv at hc
      obtain ⟨ρ', w', v', h1, h2, h3, h4⟩ := rangeM_sound (P := P) hr hu hc (.inl ⟨rfl, rfl, rfl⟩)
      exact .value (by rw [ho]; intro c e; cases e) h1 h2 h3 (by simp [execOp, ho, hb, h4])
    · rename_i kt e m hu ex
      split at h
      · rename_i es clock hm
        rw [H.newK_eq] at h
        refine ⟨_, _, h, fun ρ w o a ho hr ht => ?_⟩
        have hc := ht _ (by simp [Op.operands]) _ ex
        generalize hb : a.eval x = xv at hc
        obtain ⟨ρ', w', v', h1, h2, h3, h4⟩ := rangeM_sound (P := P) hr hu hc (.inr ⟨m, es, rfl, hm, rfl⟩)
        exact .value (by rw [ho]; intro c e; cases e) h1 h2 h3 (by simp [execOp, ho, hb, h4])
      · cases h
    · cases h
  · rename_i it
    split at h
    · rename_i p ei
      split at h
      · rename_i since seen last hp
        refine ⟨_, _, h, fun ρ w o a ho hr ht => ?_⟩
        have hc := ht _ (by simp [Op.operands]) _ ei
        generalize hv : a.eval it = xv at hc
        cases hc; rename_i rb hm
        exact .value (by rw [ho]; intro c e; cases e) .refl hr (.tup (.cons (.bool _) .nil)) (by simp only [execOp, ho, hv, Sem.run_bind, (nextM_sound (P := P) hr hp hm o.type).1 rfl, Result.andThen_ok, Sem.run_pure])
      · rename_i m since seen last hp
        split at h
        · rename_i es clock hq
          split at h
          · rename_i hn
            refine ⟨_, _, h, fun ρ w o a ho hr ht => ?_⟩
            have hc := ht _ (by simp [Op.operands]) _ ei
            generalize hv : a.eval it = xv at hc
            cases hc; rename_i rb hm
            exact .value (by rw [ho]; intro c e; cases e) .refl hr (.tup (.cons (.bool _) .nil)) (by simp only [execOp, ho, hv, Sem.run_bind, ((nextM_sound (P := P) hr hp hm o.type).2 m es clock none rfl hq hn).1 rfl, Result.andThen_ok, Sem.run_pure])
          · rename_i key v b hn
            rw [fNats_eq, H.setK_eq] at h
            refine ⟨_, _, h, fun ρ w o a ho hr ht => ?_⟩
            have hc := ht _ (by simp [Op.operands]) _ ei
            generalize hv : a.eval it = xv at hc
            cases hc; rename_i rb hm
            obtain ⟨w', v', h1, h2, h3, h4⟩ := ((nextM_sound (P := P) hr hp hm o.type).2 m es clock _ rfl hq hn).2 key v b rfl
            exact .value (by rw [ho]; intro c e; cases e) h1 h2 h3 (by simp only [execOp, ho, hv, Sem.run_bind, h4, Result.andThen_ok, Sem.run_pure])
          · cases h
        · cases h
      · cases h
    · cases h
  · rename_i it
    split at h
    · rename_i p ei
      split at h
      · rename_i m since seen stepped hp
        split at h
        · rename_i es clock b hq hb
          split at h
          · rename_i key v hcs hf
            have hcs' : clock = stepped := by simpa using hcs
            subst hcs'
            refine ⟨_, _, h, fun ρ w o a ho hr ht => ?_⟩
            have hc := ht _ (by simp [Op.operands]) _ ei
            generalize hv : a.eval it = xv at hc
            cases hc; rename_i rb hm
            obtain ⟨v', h1, h2⟩ := entryM_sound (P := P) hr hp hm hq hb hf
            exact .value (by rw [ho]; intro c e; cases e) .refl hr h1 (by simp only [execOp, ho, hv, Sem.run_bind, h2, Result.andThen_ok, Sem.run_pure])
          · cases h
        · cases h
      · cases h
    · cases h
  · rename_i it
    split at h
    · rename_i p ei
      split at h
      · rename_i l pos hp
        split at h
        · rename_i b hb
          split at h
          · rename_i h128
            rw [fNat_eq, H.setK_eq] at h
            refine ⟨_, _, h, fun ρ w o a ho hr ht => ?_⟩
            have hc := ht _ (by simp [Op.operands]) _ ei
            generalize hv : a.eval it = xv at hc
            cases hc; rename_i rb hm
            obtain ⟨w', v', h1, h2, h3, h4⟩ := nextS_sound (P := P) hr hp hm hb ((blt_iff _ _).1 h128) o.type
            exact .value (by rw [ho]; intro c e; cases e) h1 h2 h3 (by simp only [execOp, ho, hv, Sem.run_bind, h4, Result.andThen_ok, Sem.run_pure])
          · cases h
        · rename_i hb
          refine ⟨_, _, h, fun ρ w o a ho hr ht => ?_⟩
          have hc := ht _ (by simp [Op.operands]) _ ei
          generalize hv : a.eval it = xv at hc
          cases hc; rename_i rb hm
          exact .value (by rw [ho]; intro c e; cases e) .refl hr (.tup (.cons (.bool _) .nil)) (by simp only [execOp, ho, hv, Sem.run_bind, endS_sound (P := P) hr hp hm hb o.type, Result.andThen_ok, Sem.run_pure])
      · cases h
    · cases h
  · rename_i s d x
    split at h
    · rename_i e l hs hd ex
      split at h
      · rename_i he
        rw [fList_eq, fNat_eq, H.newK_eq] at h
        refine ⟨_, _, h, fun ρ w o a ho hr ht => ?_⟩
        have hc := ht _ (by simp [Op.operands]) _ ex
        generalize hb : a.eval x = xv at hc
        cases hc; rename_i sb
        have hrun := run_bytes_of_string (P := P) w s d e sb hs hd he
        have hge := grownCap_bounds w sb.size 0 e
        have hsz : (bytesRow sb (grownCap w sb.size 0 e)).size = sb.size + (grownCap w sb.size 0 e - sb.size) := by simp [bytesRow]
        obtain ⟨hr2, hs2⟩ := (hr.drew).new (.cells ((bytesOf sb).map fun b => .int .u8 (.ofNat b)) 1 false)
          (.cells (bytesRow sb (grownCap w sb.size 0 e)) e ((bytesRow sb (grownCap w sb.size 0 e)).size, (bytesRow sb (grownCap w sb.size 0 e)).size + 1)) (grownCap w sb.size 0 e - sb.size)
          (by
            refine ⟨_, e, _, heap_alloc_new w.drew _, ?_, fun i v hv => ?_, fun _ => ⟨fun i h1 _ => h1, fun h => absurd rfl h, by simp⟩⟩
            · simp only [List.length_map, bytesOf_length, hsz]; omega
            · simp only [bytesOf, List.map_map, List.getElem?_map, Array.getElem?_toList] at hv
              cases hd2 : sb.data[i]? with
              | none => simp [hd2] at hv
              | some b =>
                simp only [hd2, Option.map_some, Option.some.injEq] at hv; subst hv
                have hi : i < sb.data.size := (Array.getElem?_eq_some_iff.1 hd2).1
                refine ⟨.int .u8 b.toNat, ?_, .int _ _⟩
                simp only [bytesRow, Nat.zero_add]
                rw [Array.getElem?_append_left (by simpa using hi)]
                simp [hd2])
        exact .value (by rw [ho]; intro c e; cases e) (Stp.drew.trans hs2) hr2 (.slice (off := 0) (off' := 0) (cap' := grownCap w sb.size 0 e) (RM.at_self _ _ _) (by simp only [bytesOf_length, if_true]; omega) (.inr rfl) (Nat.le_refl _))
          (by simp only [execOp, ho, hb, Sem.run_bind, hrun, Result.andThen_ok, Sem.run_pure, bytesOf_length]; rfl)
      · cases h
    · cases h
  · rename_i c
    split at h
    · rename_i f hc
      split at h
      · rename_i fv l ef el
        obtain ⟨v, A', hk, hg⟩ := happ _ _ _ _ h
        exact ⟨v, A', hk, fun ρ w o a ho hr ht => .call ho hc (hg ρ w _ _ hr (ht _ (by simp [Op.operands, Call.operands, hc]) _ ef) (by simpa using VRs.evs' (fun x hx => ht x (by simp [Op.operands, Call.operands, hc]; right; simpa using hx)) el))⟩
      · cases h
    · rename_i b hc
      split at h
      · rename_i l el
        obtain ⟨v, A', hk, hg⟩ := builtinK_sound h
        refine ⟨v, A', hk, fun ρ w o a ho hr ht => ?_⟩
        obtain ⟨ρ', w', v', h1, h2, h3, h4⟩ := hg ρ w (c.args.map a.eval) o.type (c.args.map fun | .const _ => true | _ => false) hr (by simpa using VRs.evs' (fun x hx => ht x (by simp [Op.operands, Call.operands, hc]; simpa using hx)) el)
        exact .value (by rw [ho]; intro c e; cases e) h1 h2 h3 (by simp only [execOp, ho, resolve, hc, Sem.run_bind, Sem.run_pure, Result.andThen_ok, invoke]; exact h4)
      · cases h
    · rename_i recv name hc
      split at h
      · rename_i t v l er el
        split at h
        · rename_i f rv0 hm
          obtain ⟨u, A', hk, hg⟩ := happ _ _ _ _ h
          refine ⟨u, A', hk, fun ρ w o a ho hr ht => ?_⟩
          have hrv := ht recv (by simp [Op.operands, Call.operands, hc]) _ er
          have hargs : VRs ρ l (c.args.map a.eval).toList := by simpa using VRs.evs' (fun x hx => ht x (by simp [Op.operands, Call.operands, hc]; right; simpa using hx)) el
          generalize hb : a.eval recv = rv at hrv
          cases hrv; rename_i v0 hv0
          obtain ⟨v', hv, hmeth⟩ := methV_sound (P := P) hm hv0 hr
          have hf0 : VR ρ (.func (Pos.ofNat f) [] []) (.func (.func f) #[] #[]) := by
            have := VR.func (ρ := ρ) (f := Pos.ofNat f) (fs := []) (cs := []) (fs' := #[]) (cs' := #[]) .nil .nil
            rwa [Pos.idx_ofNat] at this
          have hcg := hg ρ w _ (#[v'] ++ c.args.map a.eval) hr hf0 (by simpa using VRs.cons hv hargs)
          refine .callG (by rw [ho]; intro _ h; cases h) ?_ hcg
          obtain ⟨n, hn⟩ : ∃ n, P.types.size + Made.depth = n + 1 := ⟨P.types.size + Made.depth - 1, by have : 0 < Made.depth := by decide
                                                                                                        omega⟩
          have e1 : (#[Value.iface t v0] ++ c.args.map a.eval).extract 1 (#[Value.iface t v0] ++ c.args.map a.eval).size = c.args.map a.eval := by
            apply Array.ext'; simp; exact List.take_of_length_le (by simp)
          have e2 : (#[Value.iface t v0] ++ c.args.map a.eval)[0]? = some (.iface t v0) := by rw [Array.getElem?_append_left (Nat.zero_lt_one)]; rfl
          simp only [execOp, ho, resolve, hc, hb, Sem.run_bind, Sem.run_pure, Result.andThen_ok, invoke, e1, e2, callMethod, run_program, hn, hmeth n, callSem, Deferred.ofValue, Array.empty_append, Array.append_empty]
        · cases h
      · cases h
  · cases h

theorem operK_sound {fn i : Nat} {app : AV → List AV → H → (AV → H → Ans) → Ans} (happ : AppOK P app) {tm : Tm} {A : H} {op : Op} {k : AV → H → Ans} (h : operK P fn i app tm A op k = .ok) :
    ∃ v A', k v A' = .ok ∧ ∀ (ρ : RM) (w : World) (o : Oper) (a : Act), o.op = op → Rel ρ A w → OpdRel ρ tm a op.operands.toList → OpOK P A v A' ρ w o a := by
  unfold operK at h
  have nd : ∀ {o : Oper} {v : AV}, pureV P tm o.op = some v → ∀ c, o.op ≠ .defer c := by
    intro o v hp c e; rw [e] at hp; simp [pureV] at hp
  split at h
  · rename_i v hp
    refine ⟨v, A, h, fun ρ w o a ho hr ht => ?_⟩
    subst ho
    obtain ⟨v', h1, h2⟩ := pureV_sound hp ht w
    exact .value (nd hp) .refl hr h1 h2
  · split at h
    · rename_i v hp
      refine ⟨v, A, h, fun ρ w o a ho hr ht => ?_⟩
      subst ho
      obtain ⟨w', v', q1, q2, h1, h2⟩ := readV_sound hp ht hr
      exact .value (by intro c e; rw [e] at hp; simp [readV] at hp) q1 q2 h1 h2
    · split at h
      · rename_i cs esz mk hp
        rw [fList_eq, H.newK_eq] at h
        refine ⟨_, _, h, fun ρ w o a ho hr ht => ?_⟩
        subst ho
        obtain ⟨c, t, h1, h2⟩ := allocV_sound hp ht
        obtain ⟨mk', h3, h4⟩ := h2 w
        obtain ⟨hr2, hs2⟩ := hr.new (.cells cs esz false) (.cells c t) 0 (ORel.cells_new (h1.mono (RM.le_at hr.fresh_none)))
        exact .value (by intro c e; rw [e] at hp; simp [allocV] at hp) hs2 hr2 (h4 _ _ (RM.at_self _ _ _)) h3
      · exact effK_sound happ h

/-! ### A region in the text's order -/
theorem TmRel.put {ρ : RM} {tm : Tm} {a : Act} (ht : TmRel ρ tm a.tmps) {dst : Option Tmp} {v : AV} {v' : Value} (hv : VR ρ v v') (hd : ∀ d, dst = some d → d < a.tmps.size) : TmRel ρ (Tm.put' tm dst v) (a.put dst v').tmps := by
  cases dst with
  | none => exact ht
  | some d =>
    intro p u hu
    simp only [Tm.put', PT.get_put] at hu
    simp only [Act.put]
    by_cases hp : p = Pos.ofNat d
    · subst hp
      simp only [if_true, Option.some.injEq] at hu; subst hu
      rw [Pos.idx_ofNat]
      exact ⟨v', by simp [hd d rfl], hv⟩
    · rw [if_neg hp] at hu
      obtain ⟨u', h1, h2⟩ := ht p u hu
      refine ⟨u', ?_, h2⟩
      rw [Array.getElem?_setIfInBounds_ne]
      · exact h1
      · intro e; apply hp; apply Pos.idx_inj; rw [Pos.idx_ofNat]; exact e.symm

theorem put_size (a : Act) (dst : Option Tmp) (v : Value) : (a.put dst v).tmps.size = a.tmps.size := by cases dst <;> simp [Act.put]
theorem put_defers (a : Act) (dst : Option Tmp) (v : Value) : (a.put dst v).defers = a.defers := by cases dst <;> rfl

theorem wantedV_sound' {ops : Array Oper} {tm : Tm} {o : Oper} {b : Bool} (h : wantedV ops tm o = some b) {ρ : RM} {a : Act}
    (ht : ∀ j want d, o.guard = some (j, want) → (ops[j]?).bind (·.dst) = some d → ∀ v, tm.get (Pos.ofNat d) = some v → ∃ v', a.tmps[d]? = some v' ∧ VR ρ v v') : Region.wanted o (yielded ops a.tmps) = b := by
  unfold wantedV at h
  unfold Region.wanted
  split at h
  · rename_i hg; simp only [Option.some.injEq] at h; subst h; simp [hg]
  · rename_i j want hg
    simp only [hg]
    split at h
    · rename_i d hd
      split at h
      · rename_i c hc
        simp only [Option.some.injEq] at h; subst h
        obtain ⟨v', h1, h2⟩ := ht _ _ _ hg hd _ hc
        cases h2
        simp [yielded, hd, h1]
      · rename_i hc
        simp only [Option.some.injEq] at h; subst h
        obtain ⟨v', h1, h2⟩ := ht _ _ _ hg hd _ hc
        cases h2
        simp [yielded, hd, h1]
      · cases h
    · rename_i hd
      simp only [Option.some.injEq] at h; subst h
      simp [yielded, hd]
theorem wantedV_sound {ops : Array Oper} {tm : Tm} {o : Oper} {b : Bool} (h : wantedV ops tm o = some b) {ρ : RM} {a : Act} (ht : TmRel ρ tm a.tmps) : Region.wanted o (yielded ops a.tmps) = b :=
  wantedV_sound' h fun j want d _ _ v hv => by obtain ⟨v', h1, h2⟩ := ht _ _ hv; rw [Pos.idx_ofNat] at h1; exact ⟨v', h1, h2⟩

theorem deferV_sound {fx : Fx} {tm : Tm} {c : Call} {m : Mk} (h : deferV fx tm c = some m) {ρ : RM} {a : Act} (ht : TmRel ρ tm a.tmps) {o : Oper} (ho : o.op = .defer c) :
    fx.rnd = none ∧ ∃ d : Deferred, (∀ w, (execOp a.eval o).run P w = .ok (.defer d) w) ∧ ∀ l ds, MkRel ρ l ds → MkRel ρ (m :: l) (d :: ds) := by
  unfold deferV at h
  split at h
  · rename_i f hf hc
    split at h
    · rename_i g first captured args e1 e2
      simp only [Option.some.injEq] at h; subst h
      have hv := VR.ev ht e1
      generalize hb : a.eval f = fv at hv
      cases hv; rename_i fs cs hfs hcs
      refine ⟨hf, { target := .fn (.func g.idx) cs, args := fs ++ c.args.map a.eval }, fun w => ?_, fun l ds hm => .fn ?_ hcs hm⟩
      · simp only [execOp, ho, resolve, hc, hb, Deferred.ofValue, Sem.run_bind, Sem.run_pure, Result.andThen_ok]
      · have := VRs.evs ht e2
        simpa using hfs.append this
    · cases h
  · cases h

theorem execOps_sound {fx : Fx} {app : AV → List AV → H → (AV → H → Ans) → Ans} (happ : AppOK P app) {ops : Array Oper} : ∀ (l : List Oper) (j i : Nat) (tm : Tm) (A : H) (marks : List Mk) (k : Tm → H → List Mk → Ans),
    ops.toList.drop j = l → execOps P fx app ops l i tm A marks k = .ok →
    ∃ tm' A' marks', k tm' A' marks' = .ok ∧ ∀ (ρ : RM) (w : World) (a : Act) (r : Option Nat), Rel ρ A w → TmRel ρ tm a.tmps → fx.nt ≤ a.tmps.size → MkRel ρ marks a.defers → RndRel ρ fx.rnd r → ∀ (n : Nat) (Q : Exit → Act → World → Prop),
      (∀ ρ' w' a', Stp ρ A w ρ' A' w' → Rel ρ' A' w' → TmRel ρ' tm' a'.tmps → a'.tmps.size = a.tmps.size → MkRel ρ' marks' a'.defers → Q .normal a' w') → wpOpsIn (FW r) n P ops Q (List.range' j l.length) a w
  | [], j, i, tm, A, marks, k, hl, h => ⟨tm, A, marks, h, fun ρ w a r hr ht hn hm hrr n Q hq => by simpa [wpOpsIn] using hq ρ w a .refl hr ht rfl hm⟩
  | o :: l, j, i, tm, A, marks, k, hl, h => by
    have hj : ops[j]? = some o := by
      have : ops.toList[j]? = some o := by rw [← List.head?_drop, hl]; rfl
      simpa using this
    have hl' : ops.toList.drop (j + 1) = l := by rw [← List.tail_drop, hl]; rfl
    have h' : (match wantedV ops tm o with
      | some true => match o.op with
        | .defer c => match deferV fx tm c with
          | some m => putTm fx.nt tm o.dst (.tup []) fun tm => execOps P fx app ops l (Nat.succ i) tm A (m :: marks) k
          | none => .err fx.fn i 39
        | op => operK P fx.fn i app tm A op fun v A => putTm fx.nt tm o.dst v fun tm => execOps P fx app ops l (Nat.succ i) tm A marks k
      | some false => putTm fx.nt tm o.dst (.tup []) fun tm => execOps P fx app ops l (Nat.succ i) tm A marks k
      | none => .err fx.fn i 2000) = .ok := h
    split at h'
    · rename_i hw
      split at h'
      · rename_i c hop
        split at h'
        · rename_i m hm
          obtain ⟨hk2, hd⟩ := putTm_ok h'
          obtain ⟨tm', A', marks', hk3, hrest⟩ := execOps_sound happ l (j + 1) (Nat.succ i) _ _ _ _ hl' hk2
          refine ⟨tm', A', marks', hk3, fun ρ w a r hr ht hn hmk hrr n Q hq => ?_⟩
          rw [List.length_cons, List.range'_succ]
          simp only [wpOpsIn, hj]
          rw [if_pos (wantedV_sound hw ht)]
          obtain ⟨hrnd, d, hrun, hpush⟩ := deferV_sound (P := P) hm ht hop
          have hr0 : r = none := by
            rw [hrnd] at hrr
            cases r with
            | none => rfl
            | some b => exact hrr.elim
          subst hr0
          refine ⟨fun _ _ => trivial, ?_⟩
          rw [show (FW none).round = none from rfl, Oper.semAt_none, hrun]
          refine hrest ρ w ({ a with defers := d :: a.defers }.put o.dst undef) none hr ?_ (by rw [put_size]; exact hn) (by rw [put_defers]; exact hpush _ _ hmk) hrr n Q fun ρ' w' a' hs' hr' ht' hsz hdf => ?_
          · exact TmRel.put (a := { a with defers := d :: a.defers }) ht (.tup .nil) (fun d' e => Nat.lt_of_lt_of_le (hd d' e) hn)
          · exact hq ρ' w' a' hs' hr' ht' (hsz.trans (put_size _ _ _)) hdf
        · cases h'
      · obtain ⟨v, A1, hk, hg⟩ := operK_sound happ h'
        obtain ⟨hk2, hd⟩ := putTm_ok hk
        obtain ⟨tm', A', marks', hk3, hrest⟩ := execOps_sound happ l (j + 1) (Nat.succ i) _ _ _ _ hl' hk2
        refine ⟨tm', A', marks', hk3, fun ρ w a r hr ht hn hmk hrr n Q hq => ?_⟩
        rw [List.length_cons, List.range'_succ]
        simp only [wpOpsIn, hj]
        rw [if_pos (wantedV_sound hw ht)]
        refine hg ρ w o a rfl hr (OpdRel.of_tm ht _) r n _ Q fun ρ1 w1 v1 hs1 hr1 hv1 => ?_
        refine hrest ρ1 w1 _ r hr1 (TmRel.put (ht.mono hs1.le) hv1 (fun d e => Nat.lt_of_lt_of_le (hd d e) hn)) (by rw [put_size]; exact hn) (by rw [put_defers]; exact hmk.mono hs1.le) (hrr.mono hs1.le) n Q fun ρ' w' a' hs' hr' ht' hsz hdf => ?_
        exact hq ρ' w' a' (hs1.trans hs') hr' ht' (hsz.trans (put_size _ _ _)) hdf
    · rename_i hw
      obtain ⟨hk2, hd⟩ := putTm_ok h'
      obtain ⟨tm', A', marks', hk3, hrest⟩ := execOps_sound happ l (j + 1) (Nat.succ i) _ _ _ _ hl' hk2
      refine ⟨tm', A', marks', hk3, fun ρ w a r hr ht hn hmk hrr n Q hq => ?_⟩
      rw [List.length_cons, List.range'_succ]
      simp only [wpOpsIn, hj]
      rw [if_neg (by rw [wantedV_sound hw ht]; simp)]
      refine ⟨fun _ _ => trivial, ?_⟩
      refine hrest ρ w _ r hr (TmRel.put ht (.tup .nil) (fun d e => Nat.lt_of_lt_of_le (hd d e) hn)) (by rw [put_size]; exact hn) (by rw [put_defers]; exact hmk) hrr n Q fun ρ' w' a' hs' hr' ht' hsz hdf => ?_
      exact hq ρ' w' a' hs' hr' ht' (hsz.trans (put_size _ _ _)) hdf
    · cases h'

end Go.AM
