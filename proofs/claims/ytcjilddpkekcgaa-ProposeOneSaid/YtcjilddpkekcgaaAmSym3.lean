/-
  THE MACHINE 'AM': SMALL HEAPS AS LISTS: which places lie where, told by lists of numbers.
-/
import Derived.Test.YtcjilddpkekcgaaAmSym2
namespace Go.AM
variable {P : Program}

abbrev HL := List (Option HObj)
def mkT : HL → Pos → PT HObj → PT HObj
  | [], _, t => t
  | o :: l, p, t => mkT l p.succ (t.put o p)
noncomputable def mkH (l : HL) : H := ⟨Pos.ofNat l.length, mkT l .z .leaf, 0, true⟩

theorem mkT_get : ∀ (l : HL) (p : Pos) (t : PT HObj) (q : Pos), (mkT l p t).get q = if q.idx < p.idx then t.get q else match l[q.idx - p.idx]? with | some o => o | none => t.get q
  | [], p, t, q => by simp [mkT]
  | o :: l, p, t, q => by
    simp only [mkT]
    rw [mkT_get l p.succ (t.put o p) q, Pos.idx_succ, PT.get_put]
    by_cases h1 : q.idx < p.idx
    · rw [if_pos (by omega), if_pos h1, if_neg (fun e => by subst e; omega)]
    · rw [if_neg h1]
      by_cases h2 : q.idx = p.idx
      · have : q = p := Pos.idx_inj h2
        subst this
        rw [if_pos (by omega), if_pos rfl]; simp
      · rw [if_neg (by omega), if_neg (fun e => h2 (by rw [e]))]
        have : q.idx - p.idx = (q.idx - (p.idx + 1)) + 1 := by omega
        rw [this, List.getElem?_cons_succ]
theorem mkH_get (l : HL) (q : Pos) : (mkH l).t.get q = (l[q.idx]?).join := by
  show (mkT l .z .leaf).get q = _
  rw [mkT_get]
  simp only [Pos.idx, Nat.not_lt_zero, if_false, Nat.sub_zero, PT.get_leaf]
  cases l[q.idx]? <;> rfl
theorem mkH_next (l : HL) : (mkH l).next.idx = l.length := Pos.idx_ofNat _
theorem mkH_some {l : HL} {q : Pos} {o : HObj} (h : (mkH l).t.get q = some o) : l[q.idx]? = some (some o) := by
  rw [mkH_get] at h
  cases e : l[q.idx]? with
  | none => rw [e] at h; cases h
  | some x => rw [e] at h; cases x with | none => cases h | some y => cases h; rfl

/-- The place i lies at s's i-th number; what is new, behind n. -/
noncomputable def seat (s : List Nat) (n : Nat) : Pos → Pos := fun p => match s[p.idx]? with | some i => .ofNat i | none => .ofNat (n + (p.idx - s.length))

/-- Each object of L lies in B, at s's places. -/
def Laid (σ : Pos → Pos) (B : HL) : HL → List Nat → Prop
  | [], _ => True
  | none :: L, s => Laid σ B L s.tail
  | some o :: L, s => (∃ j, s.head? = some j ∧ B[j]? = some (some (o.ren σ))) ∧ Laid σ B L s.tail
theorem Laid.get {σ : Pos → Pos} {B : HL} : ∀ {L : HL} {s : List Nat}, Laid σ B L s → ∀ (i : Nat) (o : HObj), L[i]? = some (some o) → ∃ j, s[i]? = some j ∧ B[j]? = some (some (o.ren σ))
  | [], _, _, i, o, h => by simp at h
  | none :: L, s, hl, 0, o, h => by simp at h
  | none :: L, s, hl, i + 1, o, h => by
    obtain ⟨j, h1, h2⟩ := Laid.get (L := L) (s := s.tail) hl i o (by simpa using h)
    exact ⟨j, by rw [List.getElem?_tail] at h1; exact h1, h2⟩
  | some x :: L, s, hl, 0, o, h => by
    simp at h; subst h
    obtain ⟨j, h1, h2⟩ := hl.1
    exact ⟨j, by rw [← List.head?_eq_getElem?]; exact h1, h2⟩
  | some x :: L, s, hl, i + 1, o, h => by
    obtain ⟨j, h1, h2⟩ := Laid.get (L := L) (s := s.tail) hl.2 i o (by simpa using h)
    exact ⟨j, by rw [List.getElem?_tail] at h1; exact h1, h2⟩

theorem seat_old {s : List Nat} {n i : Nat} {p : Pos} (h : s[p.idx]? = some i) : seat s n p = .ofNat i := by simp [seat, h]
theorem seat_new {s : List Nat} {n : Nat} {p : Pos} (h : s.length ≤ p.idx) : seat s n p = .ofNat (n + (p.idx - s.length)) := by simp [seat, List.getElem?_eq_none h]

/-- Where the live ones lie. -/
def liveS : HL → List Nat → List Nat
  | none :: L, _ :: s => liveS L s
  | some _ :: L, i :: s => i :: liveS L s
  | _, _ => []
theorem liveS_mem : ∀ {L : HL} {s : List Nat} {i k : Nat} {o : HObj}, L[i]? = some (some o) → s[i]? = some k → k ∈ liveS L s
  | [], _, i, _, _, h, _ => by simp at h
  | _ :: _, [], i, _, _, _, h => by simp at h
  | none :: L, a :: s, 0, _, _, h, _ => by simp at h
  | none :: L, a :: s, i + 1, k, o, h, h' => by show k ∈ liveS L s; exact liveS_mem (by simpa using h) (by simpa using h')
  | some x :: L, a :: s, 0, k, o, h, h' => by simp at h'; subst h'; show a ∈ a :: liveS L s; simp
  | some x :: L, a :: s, i + 1, k, o, h, h' => by show k ∈ a :: liveS L s; exact List.mem_cons_of_mem _ (liveS_mem (by simpa using h) (by simpa using h'))
theorem liveS_inj : ∀ {L : HL} {s : List Nat}, (liveS L s).Nodup → ∀ {i j k : Nat} {o o' : HObj}, L[i]? = some (some o) → L[j]? = some (some o') → s[i]? = some k → s[j]? = some k → i = j
  | [], _, _, i, j, _, _, _, h, _, _, _ => by simp at h
  | _ :: _, [], _, i, j, _, _, _, _, _, h, _ => by simp at h
  | none :: L, a :: s, _, 0, _, _, _, _, h, _, _, _ => by simp at h
  | none :: L, a :: s, _, _ + 1, 0, _, _, _, _, h, _, _ => by simp at h
  | none :: L, a :: s, hn, i + 1, j + 1, k, o, o', h1, h2, h3, h4 => by
    have hn' : (liveS L s).Nodup := hn
    exact congrArg (· + 1) (liveS_inj (L := L) (s := s) (i := i) (j := j) (k := k) (o := o) (o' := o') hn' (by simpa using h1) (by simpa using h2) (by simpa using h3) (by simpa using h4))
  | some x :: L, a :: s, _, 0, 0, _, _, _, _, _, _, _ => rfl
  | some x :: L, a :: s, hn, 0, j + 1, k, o, o', h1, h2, h3, h4 => by
    have hn' : (a :: liveS L s).Nodup := hn
    simp at h3; subst h3
    exact absurd (liveS_mem (by simpa using h2) (by simpa using h4)) (List.nodup_cons.1 hn').1
  | some x :: L, a :: s, hn, i + 1, 0, k, o, o', h1, h2, h3, h4 => by
    have hn' : (a :: liveS L s).Nodup := hn
    simp at h4; subst h4
    exact absurd (liveS_mem (by simpa using h1) (by simpa using h3)) (List.nodup_cons.1 hn').1
  | some x :: L, a :: s, hn, i + 1, j + 1, k, o, o', h1, h2, h3, h4 => by
    have hn' : (a :: liveS L s).Nodup := hn
    exact congrArg (· + 1) (liveS_inj (L := L) (s := s) (i := i) (j := j) (k := k) (o := o) (o' := o') (List.nodup_cons.1 hn').2 (by simpa using h1) (by simpa using h2) (by simpa using h3) (by simpa using h4))

theorem Emb.of_list {L0 L1 : HL} {s : List Nat} (hl : s.length = L0.length) (hs : Laid (seat s L1.length) L1 L0 s) (hn : s.Nodup) (hb : ∀ i ∈ s, i < L1.length) : Emb (seat s L1.length) (mkH L0) (mkH L1) where
  at_ p o h := by
    obtain ⟨j, h1, h2⟩ := hs.get _ _ (mkH_some h)
    rw [seat_old h1, mkH_get, Pos.idx_ofNat, h2]; rfl
  inj p q o o' h h' e := by
    obtain ⟨j, h1, _⟩ := hs.get _ _ (mkH_some h)
    obtain ⟨j', h1', _⟩ := hs.get _ _ (mkH_some h')
    rw [seat_old h1, seat_old h1'] at e
    have := Pos.ofNat_inj e
    subst this
    have hp : p.idx < s.length := (List.getElem?_eq_some_iff.1 h1).1
    exact Pos.idx_inj ((List.getElem?_inj hp hn).1 (h1.trans h1'.symm))
  ids p o h := by rw [mkH_next]; exact (List.getElem?_eq_some_iff.1 (mkH_some h)).1
  old p h := by
    rw [mkH_next] at h ⊢
    rw [← hl] at h
    have h1 : s[p.idx]? = some s[p.idx] := List.getElem?_eq_getElem h
    rw [seat_old h1, Pos.idx_ofNat]
    exact hb _ (List.getElem_mem h)
  new p h := by
    rw [mkH_next] at h
    rw [mkH_next, mkH_next, seat_new (by rw [hl]; exact h), hl]
  ng := rfl

/-- What B comes to when L in it comes to F. -/
noncomputable def glueL (σ : Pos → Pos) (s : List Nat) (L F B : HL) : HL :=
  (List.range B.length).map (fun j => match s.findIdx? (fun i => Nat.beq i j) with
    | some i => match L[i]? with | some (some _) => (F[i]?).join.map (HObj.ren σ) | _ => (B[j]?).join
    | none => (B[j]?).join) ++ (F.drop L.length).map (fun o => o.map (HObj.ren σ))

def noRo : HL → Prop
  | [] => True
  | none :: l => noRo l
  | some o :: l => o.isRo = false ∧ noRo l
theorem noRo.get : ∀ {l : HL}, noRo l → ∀ (i : Nat) o, l[i]? = some (some o) → o.isRo = false
  | [], _, i, o, h => by simp at h
  | none :: l, _, 0, o, h => by simp at h
  | none :: l, h0, i + 1, o, h => noRo.get (l := l) h0 i o (by simpa using h)
  | some x :: l, h0, 0, o, h => by simp at h; subst h; exact h0.1
  | some x :: l, h0, i + 1, o, h => noRo.get (l := l) h0.2 i o (by simpa using h)

theorem Glue.of_list {L0 L1 F : HL} {s : List Nat} (hl : s.length = L0.length) (hn : s.Nodup) (_hF : L0.length ≤ F.length) (hro : noRo (F.drop L0.length)) :
    Glue (seat s L1.length) (mkH L0) (mkH L1) (mkH F) (mkH (glueL (seat s L1.length) s L0 F L1)) where
  obj q o h := by
    have h := mkH_some h
    unfold glueL at h
    by_cases hq : q.idx < L1.length
    · rw [List.getElem?_append_left (by simpa using hq)] at h
      simp only [List.getElem?_map, List.getElem?_range hq, Option.map_some, Option.some.injEq] at h
      have plain : (L1[q.idx]?).join = some o → (∀ (i : Nat) (o0 : HObj), s[i]? = some q.idx → L0[i]? ≠ some (some o0)) → (mkH L1).t.get q = some o ∧ ∀ p o0, (mkH L0).t.get p = some o0 → q ≠ seat s L1.length p := by
        intro h1 h2
        refine ⟨by rw [mkH_get]; exact h1, fun p o0 e0 he => ?_⟩
        have e1 := mkH_some e0
        have hp : p.idx < s.length := by rw [hl]; exact (List.getElem?_eq_some_iff.1 e1).1
        have h3 : s[p.idx]? = some s[p.idx] := List.getElem?_eq_getElem hp
        rw [seat_old h3] at he
        have h4 : q.idx = s[p.idx] := by rw [he, Pos.idx_ofNat]
        exact h2 p.idx o0 (by rw [h4]; exact h3) e1
      split at h
      · rename_i i hi
        rw [List.findIdx?_eq_some_iff_getElem] at hi
        obtain ⟨hi1, hi2, _⟩ := hi
        have hiq : s[i] = q.idx := Nat.eq_of_beq_eq_true hi2
        have hsi : s[i]? = some q.idx := by rw [List.getElem?_eq_getElem hi1, hiq]
        split at h
        · rename_i x hx
          refine .inr ⟨.ofNat i, ?_⟩
          have hσ : q = seat s L1.length (.ofNat i) := by
            rw [seat_old (i := q.idx) (by rw [Pos.idx_ofNat]; exact hsi), Pos.ofNat_idx]
          cases hF1 : (F[i]?).join with
          | none => rw [hF1] at h; cases h
          | some o1 =>
            rw [hF1] at h
            simp only [Option.map_some, Option.some.injEq] at h
            exact ⟨o1, hσ, by rw [mkH_get, Pos.idx_ofNat]; exact hF1, h.symm, .inl ⟨x, by rw [mkH_get, Pos.idx_ofNat, hx]; rfl⟩⟩
        · rename_i hx
          refine .inl (plain h fun j o0 hj e => ?_)
          have hjl : j < s.length := (List.getElem?_eq_some_iff.1 hj).1
          have : j = i := (List.getElem?_inj hjl hn).1 (hj.trans hsi.symm)
          subst this
          exact hx o0 e
      · rename_i hi
        rw [List.findIdx?_eq_none_iff] at hi
        refine .inl (plain h fun j o0 hj _ => ?_)
        have := hi q.idx (List.mem_of_getElem? hj)
        simp at this
    · have hq' : L1.length ≤ q.idx := Nat.not_lt.1 hq
      rw [List.getElem?_append_right (by simpa using hq')] at h
      simp only [List.length_map, List.length_range, List.getElem?_map, List.getElem?_drop] at h
      cases hF1 : F[L0.length + (q.idx - L1.length)]? with
      | none => rw [hF1] at h; cases h
      | some x =>
        rw [hF1] at h
        cases x with
        | none => cases h
        | some o1 =>
          simp only [Option.map_some, Option.some.injEq] at h
          refine .inr ⟨.ofNat (L0.length + (q.idx - L1.length)), o1, ?_, by rw [mkH_get, Pos.idx_ofNat, hF1]; rfl, h.symm, .inr ⟨by rw [mkH_next, Pos.idx_ofNat]; omega, hro.get (q.idx - L1.length) o1 (by rw [List.getElem?_drop]; exact hF1)⟩⟩
          rw [seat_new (by rw [Pos.idx_ofNat]; omega), Pos.idx_ofNat, hl, show L1.length + (L0.length + (q.idx - L1.length) - L0.length) = q.idx by omega, Pos.ofNat_idx]
  next := by
    simp only [mkH_next, glueL, List.length_append, List.length_map, List.length_range, List.length_drop]
    omega
  ng := rfl

/-- t keeps what is below n. -/
def fixes (t : List Nat) : Nat → Prop
  | 0 => True
  | n + 1 => t[n]? = some n ∧ fixes t n
theorem fixes.get {t : List Nat} : ∀ {n : Nat}, fixes t n → ∀ i, i < n → t[i]? = some i
  | n + 1, h, i, hi => by
    rcases Nat.lt_or_ge i n with h1 | h1
    · exact h.2.get i h1
    · have : i = n := by omega
      subst this; exact h.1

theorem Sel.of_list {n : Nat} {B A1 : HL} {t : List Nat} (hl : t.length = B.length) (hs : Laid (seat t A1.length) A1 B t) (hn : (liveS B t).Nodup) (hf : fixes t n) : Sel (seat t A1.length) n (mkH B) (mkH A1) where
  at_ p o h := by
    obtain ⟨j, h1, h2⟩ := hs.get _ _ (mkH_some h)
    rw [seat_old h1, mkH_get, Pos.idx_ofNat, h2]; rfl
  inj p q o o' h h' e := by
    obtain ⟨j, h1, _⟩ := hs.get _ _ (mkH_some h)
    obtain ⟨j', h1', _⟩ := hs.get _ _ (mkH_some h')
    rw [seat_old h1, seat_old h1'] at e
    have := Pos.ofNat_inj e
    subst this
    exact Pos.idx_inj (liveS_inj hn (mkH_some h) (mkH_some h') h1 h1')
  ids p o h := by rw [mkH_next]; exact (List.getElem?_eq_some_iff.1 (mkH_some h)).1
  fix p h := by rw [seat_old (hf.get _ h), Pos.ofNat_idx]
  top p h := by
    rw [mkH_next] at h
    rw [mkH_next, seat_new (by rw [hl]; exact h), Pos.idx_ofNat]
    omega
  next := by
    rw [mkH_next, ← hl]
    cases n with
    | zero => omega
    | succ n => have := hf.get n (Nat.lt_succ_self n); exact (List.getElem?_eq_some_iff.1 this).1
  ng := Nat.le_refl _
  ngn := Nat.zero_le _

/-! ### Temporaries -/
noncomputable def mkTm : List (Nat × AV) → Tm
  | [] => .leaf
  | (i, v) :: l => PT.put (some v) (.ofNat i) (mkTm l)
def subT (σ : Pos → Pos) : Tm → Tm → Prop
  | .leaf, _ => True
  | .node l x r, t => (∀ v, x = some v → t.get .z = some (v.ren σ)) ∧ subT σ l (match t with | .leaf => .leaf | .node l _ _ => l) ∧ subT σ r (match t with | .leaf => .leaf | .node _ _ r => r)
theorem subT.sub {σ : Pos → Pos} : ∀ {t0 t : Tm}, subT σ t0 t → SubT σ t0 t
  | .leaf, _, _, p, v, h => by rw [PT.get_leaf] at h; cases h
  | .node l x r, t, hs, .z, v, h => hs.1 v h
  | .node l x r, t, hs, .l p, v, h => by
    have := hs.2.1.sub p v h
    cases t with
    | leaf => rw [PT.get_leaf] at this; cases this
    | node a b c => exact this
  | .node l x r, t, hs, .r p, v, h => by
    have := hs.2.2.sub p v h
    cases t with
    | leaf => rw [PT.get_leaf] at this; cases this
    | node a b c => exact this

/-! ### A Boolean, looked at -/
noncomputable def brec {β : Type} (f t : β) (c : Bool) : β := Bool.rec (motive := fun _ => β) f t c
theorem brec_eq {β : Type} (f t : β) (c : Bool) : brec f t c = match c with | true => t | false => f := by cases c <;> rfl

end Go.AM
