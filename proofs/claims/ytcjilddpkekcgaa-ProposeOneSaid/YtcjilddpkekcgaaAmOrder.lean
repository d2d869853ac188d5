/-
  THE MACHINE 'AM': what the static look at a region that draws its order says.
-/
import Derived.Test.YtcjilddpkekcgaaAmOper
namespace Go.AM
variable {P : Program} {ops : Array Oper}

/-- y stands ahead of x by edges that bind. -/
inductive Anc (ops : Array Oper) : Nat → Nat → Prop
  | edge {x : Nat} {o : Oper} {e : Edge} : ops[x]? = some o → e ∈ o.after → Region.binds .any e = true → Anc ops e.on x
  | trans {y x : Nat} {o : Oper} {e : Edge} : Anc ops y e.on → ops[x]? = some o → e ∈ o.after → Region.binds .any e = true → Anc ops y x

/-- A set of operations that holds all that its members wait for. -/
def Closed (ops : Array Oper) (D : Nat → Prop) : Prop := ∀ x o e, D x → ops[x]? = some o → e ∈ o.after → Region.binds .any e = true → D e.on

theorem Anc.mem {D : Nat → Prop} (hD : Closed ops D) {y x : Nat} (h : Anc ops y x) (hx : ∀ o e, ops[x]? = some o → e ∈ o.after → Region.binds .any e = true → D e.on) : D y := by
  induction h with
  | edge h1 h2 h3 => exact hx _ _ h1 h2 h3
  | trans _ h1 h2 h3 ih => exact ih fun o e a b c => hD _ o e (hx _ _ h1 h2 h3) a b c
theorem Anc.mem' {D : Nat → Prop} (hD : Closed ops D) {y x : Nat} (h : Anc ops y x) (hx : D x) : D y := h.mem hD fun o e a b c => hD x o e hx a b c

theorem testBit_lor (a b i : Nat) : Nat.testBit (Nat.lor a b) i = (Nat.testBit a i || Nat.testBit b i) := Nat.testBit_or a b i
theorem testBit_one (i j : Nat) : Nat.testBit (Nat.shiftLeft 1 i) j = decide (i = j) := by
  show Nat.testBit (1 <<< i) j = _
  rw [Nat.testBit_shiftLeft]
  rw [Bool.eq_iff_iff]
  simp only [Bool.and_eq_true, decide_eq_true_eq]
  constructor
  · rintro ⟨h1, h2⟩
    have : j - i = 0 := by
      cases hk : j - i with
      | zero => rfl
      | succ k => rw [hk, Nat.testBit_succ] at h2; simp at h2
    omega
  · rintro rfl; simp

theorem maskOf_sound {t : PT Nat} {x : Nat} {o : Oper} (ho : ops[x]? = some o) (ht : ∀ z m, t.get (Pos.ofNat z) = some m → ∀ y, Nat.testBit m y = true → Anc ops y z) : ∀ (l : List Edge), (∀ e ∈ l, e ∈ o.after) →
    ∀ y, Nat.testBit (maskOf t l) y = true → Anc ops y x
  | [], _, y, h => by simp [maskOf] at h
  | e :: l, hl, y, h => by
    have h' : Nat.testBit (match Region.binds .any e with
      | true => Nat.lor (Nat.lor (maskOf t l) (Nat.shiftLeft 1 e.on)) (match t.get (Pos.ofNat e.on) with | some m => m | none => 0)
      | false => maskOf t l) y = true := h
    have he := hl e (by simp)
    split at h'
    · rename_i hb
      rw [testBit_lor, testBit_lor, Bool.or_eq_true, Bool.or_eq_true] at h'
      rcases h' with (h1 | h1) | h1
      · exact maskOf_sound ho ht l (fun e' h' => hl e' (by simp [h'])) y h1
      · rw [testBit_one, decide_eq_true_eq] at h1; subst h1; exact .edge ho he hb
      · split at h1
        · rename_i m hm; exact .trans (ht _ _ hm y h1) ho he hb
        · simp at h1
    · exact maskOf_sound ho ht l (fun e' h' => hl e' (by simp [h'])) y h'

theorem ancs_step (o : Oper) (l : List Oper) (j : Nat) (t : PT Nat) : ancs (o :: l) j t = ancs l (j + 1) (PT.put (some (maskOf t o.after.toList)) (Pos.ofNat j) t) := by
  show (Nat.rec (motive := fun _ => PT Nat) (PT.putK (some 0) (Pos.ofNat j) t fun t => ancs l (Nat.succ j) t)
      (fun m _ => PT.putK (some (Nat.succ m)) (Pos.ofNat j) t fun t => ancs l (Nat.succ j) t) (maskOf t o.after.toList) : PT Nat) = _
  cases maskOf t o.after.toList with
  | zero => exact PT.putK_eq _ _ _ _
  | succ m => exact PT.putK_eq _ _ _ _

theorem ancs_sound : ∀ (l : List Oper) (j : Nat) (t : PT Nat), ops.toList.drop j = l → (∀ z m, t.get (Pos.ofNat z) = some m → ∀ y, Nat.testBit m y = true → Anc ops y z) →
    ∀ z m, (ancs l j t).get (Pos.ofNat z) = some m → ∀ y, Nat.testBit m y = true → Anc ops y z
  | [], j, t, _, ht => ht
  | o :: l, j, t, hl, ht => by
    have hj : ops[j]? = some o := by
      have : ops.toList[j]? = some o := by rw [← List.head?_drop, hl]; rfl
      simpa using this
    rw [ancs_step]
    refine ancs_sound l (j + 1) _ (by rw [← List.tail_drop, hl]; rfl) fun z m hm y hy => ?_
    rw [PT.get_put] at hm
    by_cases hz : Pos.ofNat z = Pos.ofNat j
    · have := Pos.ofNat_inj hz; subst this
      simp only [if_true, Option.some.injEq] at hm; subst hm
      exact maskOf_sound hj ht _ (fun e he => by simpa using he) y hy
    · rw [if_neg hz] at hm; exact ht z m hm y hy

/-- What is known of a row of the order. -/
structure RFact (P : Program) (ops : Array Oper) (x : ROp) : Prop where
  op : ops[x.i]? = some x.o
  cls : x.cls = clsOp P x.o.op
  anc : ∀ y, Nat.testBit x.anc y = true → Anc ops y x.i

theorem rops_mem {t : PT Nat} (ht : ∀ z m, t.get (Pos.ofNat z) = some m → ∀ y, Nat.testBit m y = true → Anc ops y z) : ∀ (l : List Oper) (j : Nat), ops.toList.drop j = l → ∀ x ∈ rops P t l j, RFact P ops x ∧ (∀ m, t.get (Pos.ofNat x.i) = some m → m = x.anc)
  | [], _, _, x, h => by simp [rops] at h
  | o :: l, j, hl, x, h => by
    have hj : ops[j]? = some o := by
      have : ops.toList[j]? = some o := by rw [← List.head?_drop, hl]; rfl
      simpa using this
    simp only [rops, List.mem_cons] at h
    rcases h with rfl | h
    · refine ⟨⟨hj, rfl, fun y hy => ?_⟩, fun m hm => by simp [hm]⟩
      simp only at hy
      split at hy
      · rename_i m hm; exact ht _ _ hm y hy
      · simp at hy
    · exact rops_mem ht l (j + 1) (by rw [← List.tail_drop, hl]; rfl) x h

theorem parted_mem {rem : Nat} : ∀ {l : List ROp} {x : ROp}, (x ∈ (parted rem l).1 ∨ x ∈ (parted rem l).2) → x ∈ l
  | [], x, h => by simp [parted] at h
  | y :: l, x, h => by
    simp only [parted] at h
    split at h
    · simp only [List.mem_cons] at h ⊢
      rcases h with (h | h) | h
      · exact .inl h
      · exact .inr (parted_mem (.inl h))
      · exact .inr (parted_mem (.inr h))
    · simp only [List.mem_cons] at h ⊢
      rcases h with h | h | h
      · exact .inr (parted_mem (.inl h))
      · exact .inl h
      · exact .inr (parted_mem (.inr h))

theorem ordered_mem : ∀ {es rest : List ROp} {rem : Nat} {x : ROp}, x ∈ ordered es rem rest → x ∈ es ∨ x ∈ rest
  | [], rest, rem, x, h => .inr h
  | e :: es, rest, rem, x, h => by
    simp only [ordered, List.mem_append, List.mem_cons] at h
    rcases h with h | rfl | h
    · exact .inr (parted_mem (.inl h))
    · exact .inl (by simp)
    · rcases ordered_mem h with h | h
      · exact .inl (by simp [h])
      · exact .inr (parted_mem (.inr h))

/-- The order, said without masks. -/
inductive OrdP (ops : Array Oper) : List ROp → (D E : Nat → Prop) → Prop
  | nil {D E : Nat → Prop} : (∀ i, i < ops.size → D i) → OrdP ops [] D E
  | cons {x : ROp} {l : List ROp} {D E : Nat → Prop} : x.i < ops.size → ¬ D x.i → (∀ e ∈ x.o.after, Region.binds .any e = true → D e.on) → (∀ y, E y → Nat.testBit x.anc y = true) →
      OrdP ops l (fun i => i = x.i ∨ D i) (fun i => (i = x.i ∧ x.cls = 3) ∨ E i) → OrdP ops (x :: l) D E

theorem OrdP.congr {l : List ROp} {D D' E E' : Nat → Prop} (h : OrdP ops l D E) (hD : ∀ i, D i ↔ D' i) (hE : ∀ i, E i ↔ E' i) : OrdP ops l D' E' := by
  have e1 : D = D' := funext fun i => propext (hD i)
  have e2 : E = E' := funext fun i => propext (hE i)
  subst e1; subst e2; exact h

theorem ordOk_sound : ∀ {l : List ROp} {done eff : Nat}, ordOk ops l done eff = true → OrdP ops l (fun i => Nat.testBit done i = true) (fun i => Nat.testBit eff i = true) ∧ ∀ x ∈ l, backIn x.o.after.toList x.i = true
  | [], done, eff, h => by
    simp only [ordOk, Nat.beq_eq] at h
    refine ⟨.nil fun i hi => ?_, fun x hx => by cases hx⟩
    rw [h]
    show Nat.testBit ((1 <<< ops.size) - 1) i = true
    rw [Nat.one_shiftLeft, Nat.testBit_two_pow_sub_one]
    simpa using hi
  | x :: l, done, eff, h => by
    simp only [ordOk, Bool.and_eq_true] at h
    obtain ⟨⟨⟨⟨⟨h1, h2⟩, h3⟩, hback⟩, h4⟩, h5⟩ := h
    obtain ⟨ho, hb⟩ := ordOk_sound h5
    refine ⟨.cons ((blt_iff _ _).1 h1) (by simpa using h2) (fun e he hbe => ?_) (fun y hy => ?_) (ho.congr (fun i => ?_) (fun i => ?_)), fun y hy => ?_⟩
    · simp only [maskIn, List.all_eq_true] at h3
      have := h3 e (by simpa using he)
      simpa [hbe] using this
    · have h4' : Nat.land eff x.anc = eff := by simpa using h4
      have : Nat.testBit (Nat.land eff x.anc) y = true := by rw [h4']; exact hy
      have e : Nat.testBit (Nat.land eff x.anc) y = (Nat.testBit eff y && Nat.testBit x.anc y) := Nat.testBit_and _ _ _
      rw [e, Bool.and_eq_true] at this
      exact this.2
    · rw [testBit_lor, testBit_one, Bool.or_eq_true, decide_eq_true_eq]
      exact ⟨fun h => h.elim .inr (fun e => .inl e.symm), fun h => h.elim (fun e => .inr e.symm) .inl⟩
    · by_cases hc : x.cls = 3
      · rw [if_pos (by simpa using hc), testBit_lor, testBit_one, Bool.or_eq_true, decide_eq_true_eq]
        exact ⟨fun h => h.elim .inr (fun e => .inl ⟨e.symm, hc⟩), fun h => h.elim (fun e => .inr e.1.symm) .inl⟩
      · rw [if_neg (by simpa using hc)]
        exact ⟨.inr, fun h => h.elim (fun e => absurd e.2 hc) id⟩
    · rcases List.mem_cons.1 hy with rfl | hy
      · exact hback
      · exact hb y hy

/-- Who writes a temporary. -/
def Writes (ops : Array Oper) (i : Nat) (t : Tmp) : Prop := ∃ o, ops[i]? = some o ∧ o.dst = some t

theorem writers_sound : ∀ {l : List ROp} {t wr : PT Nat}, writers l t = some wr → (∀ x ∈ l, ops[x.i]? = some x.o) →
    (∀ d i, t.get (Pos.ofNat d) = some i → wr.get (Pos.ofNat d) = some i) ∧ (∀ x ∈ l, ∀ d, x.o.dst = some d → wr.get (Pos.ofNat d) = some x.i)
  | [], t, wr, h, _ => by simp only [writers, Option.some.injEq] at h; subst h; exact ⟨fun _ _ h => h, fun x hx => by cases hx⟩
  | x :: l, t, wr, h, hl => by
    simp only [writers] at h
    split at h
    · rename_i hd
      obtain ⟨h1, h2⟩ := writers_sound h (fun y hy => hl y (by simp [hy]))
      refine ⟨h1, fun y hy d hyd => ?_⟩
      rcases List.mem_cons.1 hy with rfl | hy
      · rw [hd] at hyd; cases hyd
      · exact h2 y hy d hyd
    · rename_i d hd
      split at h
      · cases h
      · rename_i hnone
        obtain ⟨h1, h2⟩ := writers_sound h (fun y hy => hl y (by simp [hy]))
        refine ⟨fun d' i hi => h1 d' i ?_, fun y hy d' hyd => ?_⟩
        · rw [PT.get_put]
          by_cases e : Pos.ofNat d' = Pos.ofNat d
          · rw [e, hnone] at hi; cases hi
          · rw [if_neg e]; exact hi
        · rcases List.mem_cons.1 hy with rfl | hy
          · rw [hd] at hyd; cases hyd
            exact h1 _ _ (PT.get_put_self _ _ _)
          · exact h2 y hy d' hyd

/-- What the static look says. -/
structure Look (P : Program) (ops : Array Oper) (ord : List ROp) : Prop where
  fact : ∀ x ∈ ord, RFact P ops x
  ordp : OrdP ops ord (fun _ => False) (fun _ => False)
  back : ∀ x ∈ ord, ∀ e ∈ x.o.after, Region.binds .any e = true → e.on < x.i
  /-- no temporary has two writers -/
  one : ∀ i j t, Writes ops i t → Writes ops j t → i = j
  /-- who looks at a temporary stands behind its writer, or ahead of it -/
  name : ∀ x ∈ ord, ∀ t ∈ readsOf ops x.o, ∀ i, Writes ops i t → i = x.i ∨ Anc ops i x.i ∨ Anc ops x.i i

theorem rops_all {t : PT Nat} : ∀ (l : List Oper) (j i : Nat) (o : Oper), l[i]? = some o → ∃ x ∈ rops P t l j, x.i = j + i ∧ x.o = o
  | [], _, _, _, h => by simp at h
  | o :: l, j, 0, o', h => by simp at h; subst h; exact ⟨_, by rw [rops]; exact List.mem_cons_self .., rfl, rfl⟩
  | o :: l, j, i + 1, o', h => by
    obtain ⟨x, h1, h2, h3⟩ := rops_all (t := t) l (j + 1) i o' (by simpa using h)
    exact ⟨x, by simp [rops, h1], by omega, h3⟩

theorem namesOk_sound {anc wr : PT Nat} : ∀ {l : List ROp}, namesOk ops anc wr l = true → ∀ x ∈ l, ∀ t ∈ readsOf ops x.o, ∀ i, wr.get (Pos.ofNat t) = some i →
    i = x.i ∨ Nat.testBit x.anc i = true ∨ ∃ m, anc.get (Pos.ofNat i) = some m ∧ Nat.testBit m x.i = true
  | [], _, x, hx => by cases hx
  | y :: l, h, x, hx => by
    simp only [namesOk, Bool.and_eq_true] at h
    rcases List.mem_cons.1 hx with rfl | hx
    · intro t ht i hi
      have := List.all_eq_true.1 h.1 t ht
      simp only [hi, Bool.or_eq_true, Nat.beq_eq] at this
      rcases this with (h1 | h1) | h1
      · exact .inl h1
      · exact .inr (.inl h1)
      · split at h1
        · rename_i m hm; exact .inr (.inr ⟨m, hm, h1⟩)
        · cases h1
    · exact namesOk_sound h.2 x hx

theorem regOrd_look {ord : List ROp} (h : regOrd P ops = some ord) : Look P ops ord := by
  unfold regOrd at h
  simp only at h
  have hanc := ancs_sound (ops := ops) ops.toList 0 .leaf (by simp) (fun z m hm => by rw [PT.get_leaf] at hm; cases hm)
  have hr := rops_mem (P := P) (ops := ops) hanc ops.toList 0 (by simp)
  split at h
  · rename_i wr hwr
    split at h
    · rename_i hok
      simp only [Bool.and_eq_true] at hok
      simp only [Option.some.injEq] at h
      obtain ⟨ho, hb⟩ := ordOk_sound hok.1
      obtain ⟨_, hw⟩ := writers_sound (ops := ops) hwr (fun x hx => (hr x hx).1.op)
      have hmem : ∀ x ∈ ord, x ∈ rops P (ancs ops.toList 0 .leaf) ops.toList 0 := by
        intro x hx
        rw [← h] at hx
        rcases ordered_mem hx with h1 | h1
        · exact (List.mem_filter.1 h1).1
        · exact (List.mem_filter.1 h1).1
      have hwrites : ∀ i t, Writes ops i t → wr.get (Pos.ofNat t) = some i := by
        rintro i t ⟨o, h1, h2⟩
        obtain ⟨x, hx1, hx2, hx3⟩ := rops_all (P := P) (t := ancs ops.toList 0 .leaf) ops.toList 0 i o (by simpa using h1)
        have := hw x hx1 t (by rw [hx3]; exact h2)
        rw [hx2] at this; simpa using this
      subst h
      refine ⟨fun x hx => (hr x (hmem x hx)).1, ho.congr (fun i => by simp) (fun i => by simp), fun x hx e he hbe => ?_, fun i j t hi hj => ?_, fun x hx t ht i hi => ?_⟩
      · have := hb x hx
        simp only [backIn, List.all_eq_true] at this
        have := this e (by simpa using he)
        simp only [hbe, Bool.not_true, Bool.false_or] at this
        exact (blt_iff _ _).1 this
      · have h1 := hwrites i t hi
        rw [hwrites j t hj] at h1; cases h1; rfl
      · rcases namesOk_sound hok.2 x (hmem x hx) t ht i (hwrites i t hi) with h1 | h1 | ⟨m, h1, h2⟩
        · exact .inl h1
        · exact .inr (.inl ((hr x (hmem x hx)).1.anc i h1))
        · exact .inr (.inr (hanc i m h1 x.i h2))
    · cases h
  · cases h

end Go.AM
