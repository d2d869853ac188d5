/-
  THE MACHINE 'AM', QUICK: rows of cells: writing on end, putting together, comparing.
-/
import Derived.Test.YtcjilddpkekcgaaAmFast1
namespace Go.AM
section
variable {β : Type}

noncomputable def kcode : IntKind → Nat := @IntKind.rec (fun _ => Nat) 0 1 2 3 4 5 6 7
noncomputable def kindEq (j k : IntKind) : Bool := Nat.beq (kcode j) (kcode k)
theorem kindEq_eq (j k : IntKind) : kindEq j k = decide (j = k) := by cases j <;> cases k <;> rfl

/-! ### Writing on end -/
theorem sets_cons (a : AV) : ∀ (vs l : List AV) (i : Nat), sets vs (a :: l) (i + 1) = a :: sets vs l i
  | [], _, _ => rfl
  | v :: vs, l, i => by
    show sets vs (a :: l.set i v) (i + 1 + 1) = a :: sets vs (l.set i v) (i + 1)
    exact sets_cons a vs (l.set i v) (i + 1)
theorem sets_zero (v : AV) (vs : List AV) (a : AV) (l : List AV) : sets (v :: vs) (a :: l) 0 = v :: sets vs l 0 := sets_cons v vs l 0

/-- Cells are written on end from the row's front, if there is room. -/
noncomputable def overK : List AV → List AV → (List AV → β) → β → β :=
  @List.rec AV (fun _ => List AV → (List AV → β) → β → β) (fun l f _ => f l)
    (fun v _ ih l f e => @List.rec AV (fun _ => (List AV → (List AV → β) → β → β) → AV → (List AV → β) → β → β) (fun _ _ _ e => e) (fun _ l _ ih v f e => ih l (fun r => f (v :: r)) e) l ih v f e)
theorem overK_eq : ∀ (vs l : List AV) (f : List AV → β) (e : β), overK vs l f e = if vs.length ≤ l.length then f (sets vs l 0) else e
  | [], l, f, e => by show f l = _; simp [sets]
  | v :: vs, [], f, e => by show e = _; simp
  | v :: vs, a :: l, f, e => by
    show overK vs l (fun r => f (v :: r)) e = _
    rw [overK_eq vs l, sets_zero]; simp
/-- .. from a place on. -/
noncomputable def setsB : Nat → List AV → List AV → (List AV → β) → β → β :=
  @Nat.rec (fun _ => List AV → List AV → (List AV → β) → β → β) (fun vs l f e => overK vs l f e)
    (fun _ ih vs l f e => @List.rec AV (fun _ => (List AV → List AV → (List AV → β) → β → β) → List AV → (List AV → β) → β → β) (fun _ _ _ e => e) (fun a l _ ih vs f e => ih vs l (fun r => f (a :: r)) e) l ih vs f e)
theorem setsB_eq : ∀ (i : Nat) (vs l : List AV) (f : List AV → β) (e : β), setsB i vs l f e = if i + vs.length ≤ l.length then f (sets vs l i) else e
  | 0, vs, l, f, e => by show overK vs l f e = _; rw [overK_eq]; simp
  | i + 1, vs, [], f, e => by show e = _; simp
  | i + 1, vs, a :: l, f, e => by
    show setsB i vs l (fun r => f (a :: r)) e = _
    rw [setsB_eq i vs l, sets_cons]; simp [Nat.add_right_comm]

theorem readN_eq (cs : List AV) (off n : Nat) (f : List AV → β) (e : β) : segK off cs n f e = optK (readN cs off n) f e := by
  rw [segK_eq]
  unfold readN
  by_cases h : off + n ≤ cs.length
  · rw [if_pos h, if_pos (Nat.ble_eq_true_of_le h)]; rfl
  · rw [if_neg h, if_neg (fun hb => h (Nat.le_of_ble_eq_true hb))]; rfl

noncomputable def appK : List AV → List AV → (List AV → β) → β := @List.rec AV (fun _ => List AV → (List AV → β) → β) (fun y f => f y) (fun a _ ih y f => ih y fun l => f (a :: l))
theorem appK_eq : ∀ (x y : List AV) (f : List AV → β), appK x y f = f (x ++ y)
  | [], _, _ => rfl
  | a :: x, y, f => appK_eq x y fun l => f (a :: l)

/-! ### One cell each -/
noncomputable def oneF : AV → Bool :=
  @AV.rec (fun _ => Bool) (fun _ => PUnit) (fun _ => true) (fun _ _ => true) (fun _ => true) true (fun _ _ => true) true (fun _ _ _ _ _ => true) true (fun _ => true) true (fun _ _ _ _ _ => true) (fun _ => true) true (fun _ _ _ => true) (fun _ _ => false) (fun _ _ => false) (fun _ => true) (fun _ _ => true) (fun _ => true) (fun _ _ => true) (fun _ _ => true) false (fun _ _ _ => true) (fun _ _ _ => true) true true PUnit.unit (fun _ _ _ _ => PUnit.unit)
theorem oneF_eq (v : AV) : oneF v = v.one := by cases v <;> rfl
noncomputable def onesF : List AV → Bool := @List.rec AV (fun _ => Bool) true (fun a _ ih => boolK (oneF a) ih false)
theorem onesF_eq : ∀ (l : List AV), onesF l = l.all AV.one
  | [] => rfl
  | a :: l => by
    show boolK (oneF a) (onesF l) false = _
    rw [oneF_eq, onesF_eq l, List.all_cons]
    cases a.one <;> rfl

/-! ### Sameness -/
noncomputable def same0F (a b : AV) : Bool :=
  eInt a (fun k x => eInt b (fun j y => boolK (kindEq k j) (ieq x y) false) false)
    (eStr a (fun x => eStr b (fun y => lbeq x y) false)
      (eBool a (fun x => eBool b (fun y => boolK x y (boolK y false true)) false)
        (eSlice a (fun p i l c s => eSlice b (fun q j m d r => boolK (Pos.beq p q) (boolK (Nat.beq i j) (boolK (Nat.beq l m) (boolK (Nat.beq c d) (boolK s r (boolK r false true)) false) false) false) false) false)
          (ePtr a (fun p i => ePtr b (fun q j => boolK (Pos.beq p q) (Nat.beq i j) false) false) (same0 a b)))))
theorem same0F_eq (a b : AV) : same0F a b = same0 a b := by
  cases a <;> first | rfl | skip
  · rename_i x; cases b <;> first | rfl | (rename_i y; cases x <;> cases y <;> rfl)
  · rename_i k x; cases b <;> first | rfl | skip
    rename_i j y
    show boolK (kindEq k j) (ieq x y) false = ((k == j) && ieq x y)
    rw [kindEq_eq]
    by_cases h : k = j
    · subst h; simp [boolK]
    · have : (k == j) = false := by simpa using h
      simp [h, this, boolK]
  · rename_i x; cases b <;> rfl
  · rename_i p i; cases b <;> first | rfl | skip
    rename_i q j
    show boolK (Pos.beq p q) (Nat.beq i j) false = (Pos.beq p q && Nat.beq i j)
    cases Pos.beq p q <;> rfl
  · rename_i p i l c s; cases b <;> first | rfl | skip
    rename_i q j m d r
    show boolK (Pos.beq p q) _ false = (Pos.beq p q && (Nat.beq i j && (Nat.beq l m && (Nat.beq c d && (s == r)))))
    cases Pos.beq p q <;> first | rfl | skip
    cases Nat.beq i j <;> first | rfl | skip
    cases Nat.beq l m <;> first | rfl | skip
    cases Nat.beq c d <;> first | rfl | skip
    cases s <;> cases r <;> rfl

noncomputable def samesF (eq : AV → AV → Bool) : List AV → List AV → Bool :=
  @List.rec AV (fun _ => List AV → Bool) (fun y => @List.rec AV (fun _ => Bool) true (fun _ _ _ => false) y) (fun a _ ih y => @List.rec AV (fun _ => (List AV → Bool) → AV → Bool) (fun _ _ => false) (fun b y _ ih a => boolK (eq a b) (ih y) false) y ih a)
theorem samesF_eq {eq eq' : AV → AV → Bool} (h : ∀ a b, eq a b = eq' a b) : ∀ (x y : List AV), samesF eq x y = samesBy eq' x y
  | [], [] => rfl
  | [], _ :: _ => rfl
  | _ :: _, [] => rfl
  | a :: x, b :: y => by
    show boolK (eq a b) (samesF eq x y) false = (match eq' a b with | true => samesBy eq' x y | false => false)
    rw [h, samesF_eq h x y]
    cases eq' a b <;> rfl
/-- Cells that are no rows themselves, ahead of the plain look. -/
noncomputable def same1F (a b : AV) : Bool := eFunc a (fun _ _ _ => same1 a b) (eIface a (fun _ _ => same1 a b) (same0F a b))
theorem same1F_eq (a b : AV) : same1F a b = same1 a b := by
  have h0 := same0F_eq a b
  cases a <;> first | rfl | (exact h0.trans (by cases b <;> rfl))
noncomputable def same2F (a b : AV) : Bool := eAgg a (fun _ => same2 a b) (same1F a b)
theorem same2F_eq (a b : AV) : same2F a b = same2 a b := by
  have h0 := same1F_eq a b
  cases a <;> first | rfl | (exact h0.trans (by cases b <;> rfl))
noncomputable def sameF (a b : AV) : Bool := eAgg a (fun x => eAgg b (fun y => samesF same2F x y) (same a b)) (eTup a (fun x => eTup b (fun y => samesF same2F x y) (same a b)) (eIface a (fun _ _ => same a b) (same1F a b)))
theorem sameF_eq (a b : AV) : sameF a b = same a b := by
  have h0 := same1F_eq a b
  cases a <;> first | rfl | (exact h0.trans (by cases b <;> rfl)) | skip
  all_goals
    rename_i x
    cases b <;> first | rfl | skip
    rename_i y
    exact (samesF_eq same2F_eq x y).trans rfl

theorem sets_layIn : ∀ (off : Nat) (vs l : List AV), off + vs.length ≤ l.length → sets vs l off = layIn l off vs
  | 0, [], l, _ => by simp [sets, layIn]
  | 0, v :: vs, [], h => by simp at h
  | 0, v :: vs, a :: l, h => by
    rw [sets_zero, sets_layIn 0 vs l (by simp at h ⊢; omega)]
    simp [layIn]
  | off + 1, vs, [], h => by simp at h
  | off + 1, vs, a :: l, h => by
    rw [sets_cons, sets_layIn off vs l (by simp at h ⊢; omega)]
    simp [layIn, Nat.add_right_comm]

noncomputable def cellsK (v : AV) (f : List AV → β) : β := eAgg v f (f [v])
theorem cellsK_eq (v : AV) (f : List AV → β) : cellsK v f = f v.cells := by cases v <;> rfl

/-- Parts are laid into a row. -/
noncomputable def fillF (place : Nat → Option (Nat × Nat)) : List (Nat × AV) → List AV → (List AV → β) → β → β :=
  @List.rec (Nat × AV) (fun _ => List AV → (List AV → β) → β → β) (fun cs f _ => f cs)
    (fun x _ ih cs f e => optK (place x.1) (fun q => boolK x.2.isAny e (cellsK x.2 fun l => boolK (Nat.beq l.length q.2) (setsB q.1 l cs (fun cs => ih cs f e) e) e)) e)
theorem fillF_eq (place : Nat → Option (Nat × Nat)) : ∀ (parts : List (Nat × AV)) (cs : List AV) (f : List AV → β) (e : β), fillF place parts cs f e = optK (fillV place cs parts) f e
  | [], _, _, _ => rfl
  | (i, v) :: rest, cs, f, e => by
    show optK (place i) (fun q => boolK v.isAny e (cellsK v fun l => boolK (Nat.beq l.length q.2) (setsB q.1 l cs (fun cs => fillF place rest cs f e) e) e)) e = _
    simp only [fillV]
    cases place i with
    | none => rfl
    | some q =>
      obtain ⟨off, size⟩ := q
      show boolK v.isAny e (cellsK v fun l => boolK (Nat.beq l.length size) (setsB off l cs (fun cs => fillF place rest cs f e) e) e) = _
      rw [cellsK_eq]
      simp only
      cases ha : v.isAny with
      | true => simp [boolK, optK]
      | false =>
        show boolK (Nat.beq v.cells.length size) (setsB off v.cells cs (fun cs => fillF place rest cs f e) e) e = _
        by_cases h1 : v.cells.length = size
        · have hb : Nat.beq v.cells.length size = true := by simpa using h1
          rw [hb]
          show setsB off v.cells cs (fun cs => fillF place rest cs f e) e = _
          rw [setsB_eq]
          by_cases h2 : off + v.cells.length ≤ cs.length
          · rw [if_pos h2, if_pos ⟨rfl, h1, h2⟩, sets_layIn _ _ _ h2]
            exact fillF_eq place rest _ f e
          · rw [if_neg h2, if_neg (fun h => h2 h.2.2)]; rfl
        · have hb : Nat.beq v.cells.length size = false := by
            cases hx : Nat.beq v.cells.length size with
            | false => rfl
            | true => exact absurd (Nat.eq_of_beq_eq_true hx) h1
          rw [hb, if_neg (fun h => h1 h.2.1)]; rfl

noncomputable def partsK : List (Nat × Operand) → Tm → (List (Nat × AV) → β) → β → β :=
  @List.rec (Nat × Operand) (fun _ => Tm → (List (Nat × AV) → β) → β → β) (fun _ f _ => f []) (fun x _ ih tm f e => evK x.2 tm (fun v => ih tm (fun r => f ((x.1, v) :: r)) e) e)
theorem partsK_eq : ∀ (l : List (Nat × Operand)) (tm : Tm) (f : List (Nat × AV) → β) (e : β), partsK l tm f e = optK (evParts tm l) f e
  | [], _, _, _ => rfl
  | (i, x) :: l, tm, f, e => by
    show evK x tm (fun v => partsK l tm (fun r => f ((i, v) :: r)) e) e = _
    rw [evK_eq]
    simp only [evParts]
    cases ev tm x with
    | none => rfl
    | some v =>
      show partsK l tm (fun r => f ((i, v) :: r)) e = _
      rw [partsK_eq l]
      simp only
      cases evParts tm l <;> rfl

/-! ### Two arrays of integers -/
noncomputable def cmpN : Nat → List AV → List AV → Option Bool :=
  @Nat.rec (fun _ => List AV → List AV → Option Bool) (fun _ _ => some true)
    (fun _ ih x y => @List.rec AV (fun _ => (List AV → List AV → Option Bool) → List AV → Option Bool) (fun _ _ => none)
      (fun a x _ ih y => @List.rec AV (fun _ => (List AV → List AV → Option Bool) → AV → List AV → Option Bool) (fun _ _ _ => none)
        (fun b y _ ih a x => eInt a (fun k m => eInt b (fun j n => boolK (kindEq k j) (boolK (ieq m n) (ih x y) (some false)) none) none) none) y ih a x) x ih y)
theorem cmpN_eq {P : Program} {e : TypeId} {ik : IntKind} (he : P.underlying e = some (.int ik)) (d : Nat) : ∀ (n i : Nat) (xs ys : List AV), eqElemsV (equalV P (d + 1)) P e 1 xs ys n i = cmpN n (xs.drop i) (ys.drop i)
  | 0, _, _, _ => rfl
  | n + 1, i, xs, ys => by
    have hp : ∀ l : List AV, partV P e l (i * 1) = l[i]? := fun l => by simp only [partV, he, Nat.mul_one]
    simp only [eqElemsV, hp]
    cases hx : xs[i]? with
    | none =>
      have : xs.drop i = [] := List.drop_of_length_le (by simpa using hx)
      rw [this]; rfl
    | some a =>
      have hxd : xs.drop i = a :: xs.drop (i + 1) := by
        have hi := (List.getElem?_eq_some_iff.1 hx).1
        rw [List.drop_eq_getElem_cons hi, (List.getElem?_eq_some_iff.1 hx).2]
      rw [hxd]
      cases hy : ys[i]? with
      | none =>
        have : ys.drop i = [] := List.drop_of_length_le (by simpa using hy)
        rw [this]; rfl
      | some b =>
        have hyd : ys.drop i = b :: ys.drop (i + 1) := by
          have hi := (List.getElem?_eq_some_iff.1 hy).1
          rw [List.drop_eq_getElem_cons hi, (List.getElem?_eq_some_iff.1 hy).2]
        rw [hyd]
        show _ = eInt a (fun k m => eInt b (fun j n' => boolK (kindEq k j) (boolK (ieq m n') (cmpN n (xs.drop (i + 1)) (ys.drop (i + 1))) (some false)) none) none) none
        simp only [equalV, he]
        have ih := cmpN_eq he d n (i + 1) xs ys
        cases a <;> first | rfl | skip
        rename_i k m
        cases b <;> first | rfl | skip
        rename_i j n'
        show _ = boolK (kindEq k j) (boolK (ieq m n') (cmpN n (xs.drop (i + 1)) (ys.drop (i + 1))) (some false)) none
        rw [kindEq_eq]
        simp only
        by_cases hkj : k = j
        · rw [if_pos hkj]
          simp only [hkj, decide_true]
          show _ = boolK (ieq m n') _ _
          cases ieq m n' with
          | true => exact ih
          | false => rfl
        · rw [if_neg hkj]
          simp only [hkj, decide_false]
          rfl

/-- Fields that are integers, one cell each, in their order. -/
def stFlat (P : Program) : List Field → Nat → Bool
  | [], _ => true
  | f :: fs, i => decide (f.name ≠ "_") && (Nat.beq f.offset i && ((match P.underlying f.type with | some (.int _) => true | _ => false) && stFlat P fs (i + 1)))
theorem fields_eq {P : Program} (d : Nat) : ∀ (fs : List Field) (i : Nat) (xs ys : List AV), stFlat P fs i = true → eqFieldsV (equalV P (d + 1)) P xs ys fs = cmpN fs.length (xs.drop i) (ys.drop i)
  | [], _, _, _, _ => rfl
  | f :: fs, i, xs, ys, h => by
    simp only [stFlat, Bool.and_eq_true, decide_eq_true_eq] at h
    obtain ⟨hname, hoff, hty, hfs⟩ := h
    have hoff' : f.offset = i := Nat.eq_of_beq_eq_true hoff
    have he : ∃ ik, P.underlying f.type = some (.int ik) := by
      split at hty
      · rename_i ik hu; exact ⟨ik, hu⟩
      · cases hty
    obtain ⟨ik, he⟩ := he
    have hp : ∀ l : List AV, partV P f.type l f.offset = l[i]? := fun l => by simp only [partV, he, hoff']
    simp only [eqFieldsV, hname, ne_eq, not_false_eq_true, if_true, hp]
    have ih := fields_eq d fs (i + 1) xs ys hfs
    cases hx : xs[i]? with
    | none =>
      have : xs.drop i = [] := List.drop_of_length_le (by simpa using hx)
      rw [this]; rfl
    | some a =>
      have hxd : xs.drop i = a :: xs.drop (i + 1) := by
        have hi := (List.getElem?_eq_some_iff.1 hx).1
        rw [List.drop_eq_getElem_cons hi, (List.getElem?_eq_some_iff.1 hx).2]
      rw [hxd]
      cases hy : ys[i]? with
      | none =>
        have : ys.drop i = [] := List.drop_of_length_le (by simpa using hy)
        rw [this]; rfl
      | some b =>
        have hyd : ys.drop i = b :: ys.drop (i + 1) := by
          have hi := (List.getElem?_eq_some_iff.1 hy).1
          rw [List.drop_eq_getElem_cons hi, (List.getElem?_eq_some_iff.1 hy).2]
        rw [hyd]
        show _ = eInt a (fun k m => eInt b (fun j n' => boolK (kindEq k j) (boolK (ieq m n') (cmpN fs.length (xs.drop (i + 1)) (ys.drop (i + 1))) (some false)) none) none) none
        simp only [equalV, he]
        cases a <;> first | rfl | skip
        rename_i k m
        cases b <;> first | rfl | skip
        rename_i j n'
        show _ = boolK (kindEq k j) (boolK (ieq m n') (cmpN fs.length (xs.drop (i + 1)) (ys.drop (i + 1))) (some false)) none
        rw [kindEq_eq]
        simp only
        by_cases hkj : k = j
        · rw [if_pos hkj]
          simp only [hkj, decide_true]
          show _ = boolK (ieq m n') _ _
          cases ieq m n' with
          | true => exact ih
          | false => rfl
        · rw [if_neg hkj]
          simp only [hkj, decide_false]
          rfl

end
end Go.AM
