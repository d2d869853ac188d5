/-
  THE MACHINE 'AM', QUICK: operations that read, make, act; a region in the text's order.
-/
import Derived.Test.YtcjilddpkekcgaaAmFast2
namespace Go.AM
section
variable {β : Type}

/-! ### Reading -/
/-- 1: a text, 2: a number, 3: a Boolean. -/
def kdT (P : Program) (t : TypeId) : Nat := match P.underlying t with | some .string => 1 | some (.int _) => 2 | some .bool => 3 | _ => 0
noncomputable def fitK (st : Bool) (kd : Nat) (v : AV) (f : AV → β) (e : β) : β :=
  boolK st (boolK (Nat.beq kd 1) (eStr v (fun s => f (.str s)) e) (boolK (Nat.beq kd 2) (eInt v (fun k n => f (.int k n)) e) (boolK (Nat.beq kd 3) (eBool v (fun b => f (.bool b)) e) (f v)))) (f v)
theorem fitK_eq {P : Program} {t : TypeId} {d : TypeDesc} (hu : P.underlying t = some d) (st : Bool) (v : AV) (f : AV → β) (e : β) : fitK st (kdT P t) v f e = optK (match fitS st d v with | true => some v | false => none) f e := by
  cases st with
  | false => rfl
  | true => unfold kdT; rw [hu]; cases d <;> first | rfl | (cases v <;> rfl)

/-- .. in a row that stays as it is; 4: a slice. -/
def kdL (P : Program) (t : TypeId) : Nat := match P.underlying t with | some .string => 1 | some (.int _) => 2 | some .bool => 3 | some (.slice _) => 4 | _ => 0
noncomputable def fitKL (st : Bool) (kd : Nat) (v : AV) (f : AV → β) (e : β) : β :=
  boolK st (boolK (Nat.beq kd 1) (eStr v (fun s => f (.str s)) e) (boolK (Nat.beq kd 2) (eInt v (fun k n => f (.int k n)) e) (boolK (Nat.beq kd 3) (eBool v (fun b => f (.bool b)) e) (boolK (Nat.beq kd 4) (eFz v (fun l n => f (.fz l n)) e) (f v))))) (f v)
theorem fitKL_eq {P : Program} {t : TypeId} {d : TypeDesc} (hu : P.underlying t = some d) (st : Bool) (v : AV) (f : AV → β) (e : β) : fitKL st (kdL P t) v f e = optK (match fitL st d v with | true => some v | false => none) f e := by
  cases st with
  | false => rfl
  | true => unfold kdL; rw [hu]; cases d <;> first | rfl | (cases v <;> rfl)

theorem loadG_fast (P : Program) {fit : TypeDesc → AV → Bool} {K : AV → (AV → β) → β → β} (t : TypeId) (hK : ∀ d v f e, P.underlying t = some d → K v f e = optK (match fit d v with | true => some v | false => none) f e) (cs : List AV) (off : Nat) (f : AV → β) (e : β) :
    boolK (scalT P t) (nthK cs off (fun v => K v f e) e) (boolK (isAggT P t) (optK (sizeT P t) (fun n => segK off cs n (fun l => f (.agg l)) e) e) e) = optK (loadG fit P t cs off) f e := by
  rw [nthK_eq]
  unfold loadG
  cases hu : P.underlying t with
  | none => simp only [scalT, isAggT, hu]; rfl
  | some d =>
    have sc : optK cs[off]? (fun v => K v f e) e = optK (match cs[off]? with | some v => (match fit d v with | true => some v | false => none) | none => none) f e := by
      cases cs[off]? with
      | none => rfl
      | some v => exact hK d v f e hu
    simp only [scalT, isAggT, hu]
    have agg : (optK (sizeT P t) (fun n => segK off cs n (fun l => f (.agg l)) e) e) = optK (match sizeT P t with
        | some n => match readN cs off n with | some l => some (AV.agg l) | none => none
        | none => none) f e := by
      cases sizeT P t with
      | none => rfl
      | some n =>
        show segK off cs n (fun l => f (.agg l)) e = _
        rw [segK_eq]
        unfold readN
        by_cases h : off + n ≤ cs.length
        · have h' : Nat.ble (off + n) cs.length = true := by simpa using h
          simp only [if_pos h, h', if_true]; rfl
        · have h' : Nat.ble (off + n) cs.length = false := by
            cases hb : Nat.ble (off + n) cs.length with
            | false => rfl
            | true => exact absurd (by simpa using hb) h
          simp only [if_neg h, h']; rfl
    cases d <;> first | exact agg | exact sc


noncomputable def rLoad (t : TypeId) (x : Operand) (P : Program) (tm : Tm) (A : H) (f : AV → β) (e : β) : β :=
  evK x tm (fun v => ePtr v (fun p off => getK p A.t (fun o => eCells o (fun cs _ _ => boolK (scalT P t) (nthK cs off (fun v => fitK A.st (kdT P t) v f e) e)
    (boolK (isAggT P t) (optK (sizeT P t) (fun n => segK off cs n (fun l => f (.agg l)) e) e) e)) e) e)
    (eFp v (fun cs off => boolK (scalT P t) (nthK cs off (fun v => fitKL A.st (kdL P t) v f e) e) (boolK (isAggT P t) (optK (sizeT P t) (fun n => segK off cs n (fun l => f (.agg l)) e) e) e)) (optK (loadV P A t v) f e))) e
noncomputable def rConv (s d : TypeId) (x : Operand) (P : Program) (tm : Tm) (A : H) (f : AV → β) (e : β) : β := optK (match ev tm x with | some v => bytesV P A s d v | none => none) f e
noncomputable def rLookup (t : TypeId) (x k : Operand) (ok : Bool) (P : Program) (tm : Tm) (A : H) (f : AV → β) (e : β) : β := optK (match ev tm x, ev tm k with | some v, some j => lookupV P A t v j ok | _, _ => none) f e
noncomputable def rCall (c : Call) (P : Program) (tm : Tm) (A : H) (f : AV → β) (e : β) : β := boolK (callsValue c) e (optK (match c with
  | { callee := .builtin .len, args, argTypes } => match args[0]?, argTypes[0]? with
    | some x, some t => match ev tm x, P.underlying t with
      | some m, some (.map ..) => match mapOf A m with | some es => some (.int .i64 (.ofNat es.length)) | none => none
      | _, _ => none
    | _, _ => none
  | _ => none) f e)
noncomputable def rdF : Op → Program → Tm → H → (AV → β) → β → β :=
  @Op.rec (fun _ => Program → Tm → H → (AV → β) → β → β)
    (fun _ _ _ _ _ e => e) (fun _ _ _ _ _ e => e) (fun _ _ _ _ _ _ _ e => e) (fun _ _ _ _ _ e => e) (fun _ _ _ _ _ _ e => e) (fun _ _ _ _ _ _ e => e) (fun _ _ _ _ _ _ _ e => e) (fun _ _ _ _ _ _ _ _ e => e) rLoad (fun _ _ _ _ _ _ _ e => e) (fun _ _ _ _ _ e => e) (fun _ _ _ _ _ e => e) (fun _ _ _ _ _ e => e) (fun _ _ _ _ _ _ _ _ _ e => e) (fun _ _ _ _ _ _ _ e => e) rConv (fun _ _ _ _ _ _ e => e) (fun _ _ _ _ _ _ e => e) (fun _ _ _ _ _ _ _ e => e) (fun _ _ _ _ _ _ e => e) (fun _ _ _ _ _ _ e => e) (fun _ _ _ _ _ _ _ e => e) (fun _ _ _ _ _ _ _ _ _ e => e) (fun _ _ _ _ _ _ _ e => e) (fun _ _ _ _ _ _ _ e => e) (fun _ _ _ _ _ _ _ e => e) (fun _ _ _ _ _ _ _ e => e) rLookup (fun _ _ _ _ _ _ _ _ e => e) (fun _ _ _ _ _ _ _ e => e) (fun _ _ _ _ _ _ _ _ e => e) (fun _ _ _ _ _ _ e => e) (fun _ _ _ _ _ _ e => e) (fun _ _ _ _ _ e => e) (fun _ _ _ _ _ _ _ _ e => e) (fun _ _ _ _ _ _ e => e) rCall (fun _ _ _ _ _ e => e) (fun _ _ _ _ _ e => e) (fun _ _ _ _ _ e => e) (fun _ _ _ _ _ _ e => e) (fun _ _ _ _ _ _ _ e => e) (fun _ _ _ _ _ _ e => e)

theorem rdF_eq (op : Op) (P : Program) (tm : Tm) (A : H) (f : AV → β) (e : β) : rdF op P tm A f e = optK (readV P tm A op) f e := by
  cases op with
  | load t x =>
    show rLoad t x P tm A f e = _
    simp only [rLoad, evK_eq, readV]
    cases ev tm x with
    | none => rfl
    | some v =>
      show ePtr v _ (eFp v _ (optK (loadV P A t v) f e)) = optK (loadV P A t v) f e
      cases v <;> first | rfl | skip
      · rename_i p off
        show getK p A.t _ e = _
        rw [getK_eq]
        simp only [loadV, loadH, ptrOf]
        cases A.t.get p with
        | none => rfl
        | some o =>
          cases o <;> first | rfl | skip
          rename_i cs esz ro
          exact loadG_fast P (fit := fitS A.st) (K := fitK A.st (kdT P t)) t (fun d v f e hu => fitK_eq hu A.st v f e) cs off f e
      · rename_i cs off
        exact loadG_fast P (fit := fitL A.st) (K := fitKL A.st (kdL P t)) t (fun d v f e hu => fitKL_eq hu A.st v f e) cs off f e
  | convert s d x => rfl
  | lookup t x k ok => rfl
  | call c =>
    obtain ⟨callee, args, ats⟩ := c
    cases callee with
    | value g => rfl
    | invoke r m => rfl
    | builtin b => cases b <;> rfl
  | _ => rfl
end

/-! ### Acting -/
abbrev App := AV → List AV → H → (AV → H → Ans) → Ans

/-- One cell of a row is turned, if it is there. -/
noncomputable def set1K {β : Type} : List AV → Nat → AV → (List AV → β) → β → β :=
  @List.rec AV (fun _ => Nat → AV → (List AV → β) → β → β) (fun _ _ _ e => e) (fun a l ih i v f e => @Nat.rec (fun _ => (Nat → AV → (List AV → β) → β → β) → AV → List AV → AV → (List AV → β) → β → β) (fun _ _ l v f _ => f (v :: l)) (fun i _ ih a _ v f e => ih i v (fun l => f (a :: l)) e) i ih a l v f e)
theorem set1K_eq {β : Type} : ∀ (l : List AV) (i : Nat) (v : AV) (f : List AV → β) (e : β), set1K l i v f e = if i < l.length then f (l.set i v) else e
  | [], _, _, _, _ => by show _ = _; simp [set1K]
  | a :: l, 0, v, f, e => by show f (v :: l) = _; simp
  | a :: l, i + 1, v, f, e => by
    show set1K l i v (fun l => f (a :: l)) e = _
    rw [set1K_eq l i]; simp

/-- Is a type's variable one cell? -/
def size1 (P : Program) (t : TypeId) : Bool := match sizeT P t with | some n => Nat.beq n 1 | none => false

noncomputable def aStore (t : TypeId) (x v : Operand) (P : Program) (_ _ : Nat) (_ : App) (tm : Tm) (A : H) (k : AV → H → Ans) (e : Ans) : Ans :=
  evK x tm (fun x => evK v tm (fun v => ePtr x (fun p off => boolK (oneF v) (boolK (size1 P t) (getK p A.t (fun o => eCells o (fun cs esz ro => boolK ro e (set1K cs off v (fun cs => A.setK p (some (.cells cs esz false)) fun A => k (.tup []) A) (.err 2 0 0))) e) e) e)
    (eAgg v (fun l => optK (sizeT P t) (fun n => boolK (Nat.beq l.length n) (boolK (onesF l) (getK p A.t (fun o => eCells o (fun cs esz ro => boolK ro e (setsB off l cs (fun cs => A.setK p (some (.cells cs esz false)) fun A => k (.tup []) A) (.err 2 0 0))) e) e) e) e) e) e)) e) e) e

/-- What an append of a slice to a slice must know of its types: how many cells and bytes an element has. -/
def apInfo (P : Program) (ts : Array TypeId) : Option (Nat × Nat) :=
  match ts[0]? with
  | some t => match P.underlying t with
    | some (.slice e) => match sizeT P e, bytesT P e, zeroT P e with
      | some size, some bytes, some z => if Nat.blt 0 size && Nat.beq z.cells.length size then
          (match ts[1]? with
          | some u => match P.underlying u with
            | some (.int _) => none
            | some _ => some (size, bytes)
            | none => none
          | none => none) else none
      | _, _, _ => none
    | _ => none
  | none => none
noncomputable def appendF (A : H) (size bytes : Nat) (s : AV) (n : Nat) (new : List AV) (k : AV → H → Ans) (e : Ans) : Ans :=
  eSlice s (fun p off len cap soft => boolK (Nat.ble (len + n) cap)
    (boolK (Nat.beq (n * size) 0) (k (.slice p off (len + n) cap soft) A) (getK p A.t (fun o => eCells o (fun cs esz ro => boolK ro (.err 1 2 0)
      (boolK (onesF new) (setsB (off + len * size) new cs (fun cs => A.setK p (some (.cells cs esz false)) fun A => k (.slice p off (len + n) cap soft) A) (.err 1 1 0)) (.err 1 1 0))) (.err 1 2 0)) (.err 1 2 0)))
    (boolK (roomy (len + n) bytes) (getK p A.t (fun o => eCells o (fun cs esz ro => segK off cs (len * size) (fun old => appK old new fun both => boolK soft
        (boolK (Nat.beq esz size && (Nat.beq (off + cap * size) cs.length && (!ro && onesF new))) (A.setK p none fun A => A.newK (.cells both size false) fun p A => k (.slice p 0 (len + n) (len + n) true) A) (.err 1 4 0))
        (A.newK (.cells both size false) fun p A => k (.slice p 0 (len + n) (len + n) true) A)) (.err 1 3 0)) (.err 1 5 0)) (.err 1 5 0)) (.err 1 6 0))) e
theorem appendF_eq (A : H) (size bytes : Nat) (s : AV) (n : Nat) (new : List AV) (k : AV → H → Ans) : appendF A size bytes s n new k (appendK A size bytes s n new k) = appendK A size bytes s n new k := by
  generalize he : appendK A size bytes s n new k = e
  have hslow := he.symm
  cases s <;> first | rfl | skip
  rename_i p off len cap soft
  unfold appendK at hslow
  simp only at hslow
  show boolK (Nat.ble (len + n) cap) _ _ = e
  cases h1 : Nat.ble (len + n) cap with
  | true =>
    rw [h1] at hslow
    simp only [if_true] at hslow
    show boolK (Nat.beq (n * size) 0) _ _ = e
    cases h2 : Nat.beq (n * size) 0 with
    | true => rw [h2] at hslow; simp only [if_true] at hslow; rw [hslow]; rfl
    | false =>
      rw [h2] at hslow
      simp only [Bool.false_eq_true, if_false] at hslow
      show getK p A.t _ (.err 1 2 0) = e
      rw [getK_eq]
      cases hp : A.t.get p with
      | none => simp only [hp] at hslow; rw [hslow]; rfl
      | some o =>
        cases o <;> first | (simp only [hp] at hslow; rw [hslow]; rfl) | skip
        rename_i cs esz ro
        show boolK ro (.err 1 2 0) _ = e
        cases ro with
        | true => simp only [hp] at hslow; rw [hslow]; rfl
        | false =>
          show boolK (onesF new) _ (.err 1 1 0) = e
          rw [onesF_eq]
          simp only [hp] at hslow
          cases h3 : new.all AV.one with
          | false => rw [h3] at hslow; simp only [Bool.and_false, Bool.false_eq_true, if_false] at hslow; rw [hslow]; rfl
          | true =>
            show setsB (off + len * size) new cs _ (.err 1 1 0) = e
            rw [setsB_eq]
            by_cases h4 : off + len * size + new.length ≤ cs.length
            · rw [if_pos h4, hslow, if_pos (by rw [Nat.ble_eq_true_of_le h4, h3]; rfl), setsK_eq]
            · have hb : Nat.ble (off + len * size + new.length) cs.length = false := by
                cases hx : Nat.ble (off + len * size + new.length) cs.length with
                | false => rfl
                | true => exact absurd (Nat.le_of_ble_eq_true hx) h4
              rw [if_neg h4, hslow, hb]; rfl
  | false =>
    rw [h1] at hslow
    simp only [Bool.false_eq_true, if_false] at hslow
    show boolK (roomy (len + n) bytes) _ (.err 1 6 0) = e
    cases h2 : roomy (len + n) bytes with
    | false => rw [h2] at hslow; simp only [Bool.false_eq_true, if_false] at hslow; rw [hslow]; rfl
    | true =>
      rw [h2] at hslow
      simp only [if_true] at hslow
      show getK p A.t _ (.err 1 5 0) = e
      rw [getK_eq]
      cases hp : A.t.get p with
      | none => simp only [hp] at hslow; rw [hslow]; rfl
      | some o =>
        cases o <;> first | (simp only [hp] at hslow; rw [hslow]; rfl) | skip
        rename_i cs esz ro
        show segK off cs (len * size) _ (.err 1 3 0) = e
        rw [readN_eq]
        simp only [hp] at hslow
        cases hr : readN cs off (len * size) with
        | none => simp only [hr] at hslow; rw [hslow]; rfl
        | some old =>
          simp only [hr, fList_eq] at hslow
          show appK old new _ = e
          rw [appK_eq]
          cases soft with
          | false => rw [hslow]; rfl
          | true =>
            show boolK _ _ (.err 1 4 0) = e
            rw [onesF_eq]
            simp only at hslow
            cases h3 : (Nat.beq esz size && (Nat.beq (off + cap * size) cs.length && (!ro && new.all AV.one))) with
            | false => rw [h3] at hslow; simp only [Bool.false_eq_true, if_false] at hslow; rw [hslow]; rfl
            | true => rw [h3] at hslow; rw [hslow]; rfl

noncomputable def bApp0 (ats : Array TypeId) (args : List Operand) (P : Program) (tm : Tm) (A : H) (k : AV → H → Ans) (e : Ans) : Ans :=
  optK (apInfo P ats) (fun q => evsK args tm (fun l => @List.rec AV (fun _ => Ans) e (fun s r _ => @List.rec AV (fun _ => Ans) e (fun x r2 _ => @List.rec AV (fun _ => Ans)
    (eSlice x (fun p off n _ _ => getK p A.t (fun o => eCells o (fun cs _ _ => segK off cs (n * q.1) (fun new => appendF A q.1 q.2 s n new k (appendK A q.1 q.2 s n new k)) (.err 3 2 0)) (.err 3 2 0)) (.err 3 2 0)) (eFz x (fun cs n => segK 0 cs (n * q.1) (fun new => appendF A q.1 q.2 s n new k (appendK A q.1 q.2 s n new k)) (.err 3 2 0)) e)) (fun _ _ _ => e) r2) r) l) e) e
/-- What an append of so many zeros must know: an element's cells, bytes, zero. -/
def apInfoN (P : Program) (ts : Array TypeId) : Option (Nat × Nat × List AV) :=
  match ts[0]? with
  | some t => match P.underlying t with
    | some (.slice e) => match sizeT P e, bytesT P e, zeroT P e with
      | some size, some bytes, some z => if Nat.blt 0 size && Nat.beq z.cells.length size then
          (match ts[1]? with
          | some u => match P.underlying u with
            | some (.int _) => some (size, bytes, z.cells)
            | some _ => none
            | none => none
          | none => none) else none
      | _, _, _ => none
    | _ => none
  | none => none
noncomputable def bApp (ats : Array TypeId) (args : List Operand) (P : Program) (tm : Tm) (A : H) (k : AV → H → Ans) (e : Ans) : Ans :=
  optK (apInfoN P ats) (fun q => evsK args tm (fun l => @List.rec AV (fun _ => Ans) e (fun s r _ => @List.rec AV (fun _ => Ans) e (fun x r2 _ => @List.rec AV (fun _ => Ans)
    (eInt x (fun _ c => natOf c (fun n => boolK (Nat.blt n 1073741824) (boolK (roomy n q.2.1) (appendF A q.1 q.2.1 s n (List.replicate n q.2.2).flatten k (appendK A q.1 q.2.1 s n (List.replicate n q.2.2).flatten k)) (.err 3 0 0)) (.err 3 0 0)) (.err 3 1 0)) e) (fun _ _ _ => e) r2) r) l) e) (bApp0 ats args P tm A k e)
/-- What a copy must know: how many cells an element has. -/
def cpInfo (P : Program) (ts : Array TypeId) : Option Nat :=
  match ts[0]? with
  | some t => match P.underlying t with
    | some (.slice e) => match sizeT P e with
      | some size => if Nat.beq size 0 then none else some size
      | none => none
    | _ => none
  | none => none
noncomputable def bCopy (ats : Array TypeId) (args : List Operand) (P : Program) (tm : Tm) (A : H) (k : AV → H → Ans) (e : Ans) : Ans :=
  optK (cpInfo P ats) (fun size => evsK args tm (fun l => @List.rec AV (fun _ => Ans) e (fun d r _ => @List.rec AV (fun _ => Ans) e (fun x r2 _ => @List.rec AV (fun _ => Ans)
    (eSlice d (fun p off m _ _ => eSlice x (fun q qoff n _ _ => fNat (if Nat.ble n m then n else m) fun n => getK q A.t (fun o => eCells o (fun cs2 _ _ => segK qoff cs2 (n * size) (fun new => boolK (onesF new)
      (getK p A.t (fun o => eCells o (fun cs esz ro => boolK ro e (setsB off new cs (fun cs => A.setK p (some (.cells cs esz false)) fun A => k (.int .i64 (.ofNat n)) A) e)) e) e) e) e) e) e)
      (eFz x (fun cs2 n => fNat (if Nat.ble n m then n else m) fun n => segK 0 cs2 (n * size) (fun new => boolK (onesF new)
      (getK p A.t (fun o => eCells o (fun cs esz ro => boolK ro e (setsB off new cs (fun cs => A.setK p (some (.cells cs esz false)) fun A => k (.int .i64 (.ofNat n)) A) e)) e) e) e) e) e)) e) (fun _ _ _ => e) r2) r) l) e) e
/-- What a clear must know: an element's cells, its zero's cells. -/
def clInfo (P : Program) (ts : Array TypeId) : Option (Nat × List AV) :=
  match ts[0]? with
  | some t => match P.underlying t with
    | some (.slice e) => match sizeT P e, zeroT P e with
      | some size, some z => if Nat.beq z.cells.length size && (Nat.blt 0 size && z.cells.all AV.one) then some (size, z.cells) else none
      | _, _ => none
    | _ => none
  | none => none
noncomputable def bClear (ats : Array TypeId) (args : List Operand) (P : Program) (tm : Tm) (A : H) (k : AV → H → Ans) (e : Ans) : Ans :=
  optK (clInfo P ats) (fun q => evsK args tm (fun l => @List.rec AV (fun _ => Ans) e (fun x r _ => @List.rec AV (fun _ => Ans)
    (eSlice x (fun p off n _ _ => getK p A.t (fun o => eCells o (fun cs esz ro => boolK ro e (boolK (Nat.beq n 0) (k (.tup []) A)
      (setsB off (List.replicate n q.2).flatten cs (fun cs => A.setK p (some (.cells cs esz false)) fun A => k (.tup []) A) (.err 5 0 0)))) e) e) e) (fun _ _ _ => e) r) l) e) e
theorem flat_len (n : Nat) (z : List AV) : (List.replicate n z).flatten.length = n * z.length := by simp
noncomputable def isApp : Builtin → Nat := fun b => match b with | .append => 1 | .copy => 2 | .clear => 3 | _ => 0

noncomputable def aCall (c : Call) (P : Program) (_ _ : Nat) (app : App) (tm : Tm) (A : H) (k : AV → H → Ans) (e : Ans) : Ans :=
  @Callee.rec (fun _ => Array TypeId → List Operand → Program → App → Tm → H → (AV → H → Ans) → Ans → Ans) (fun f _ l _ app tm A k e => evK f tm (fun f => evsK l tm (fun l => app f l A k) e) e) (fun _ _ _ _ _ _ _ _ _ e => e)
    (fun b ats l P _ tm A k e => @Nat.rec (fun _ => Ans) e (fun n _ => @Nat.rec (fun _ => Ans) (bApp ats l P tm A k e) (fun n _ => @Nat.rec (fun _ => Ans) (bCopy ats l P tm A k e) (fun _ _ => bClear ats l P tm A k e) n) n) (isApp b)) c.callee c.argTypes c.args.toList P app tm A k e
noncomputable def mkRow (A : H) (k : AV → H → Ans) (q : List AV × Nat × (Pos → AV)) : Ans := fList q.1 fun cs => A.newK (.cells cs q.2.1 false) fun p A => k (q.2.2 p) A
/-! ### Making memory -/
/-- What a row that is built must know of its type: an element's cells; the zero row. -/
def bsT (P : Program) (t : TypeId) (len : Nat) : Option (Nat × List AV) := match P.underlying t with
  | some (.slice e) => match sizeT P e, zeroT P e with
    | some n, some z => if z.cells.length = n ∧ len * n ≤ 16777216 ∧ 0 < n then some (n, (List.replicate len z.cells).flatten) else none
    | _, _ => none
  | _ => none
/-- An element's cells and bytes, and its zero's cells. -/
def msT (P : Program) (t : TypeId) : Option (Nat × Nat × List AV) := match P.underlying t with
  | some (.slice e) => match sizeT P e, bytesT P e, zeroT P e with
    | some n, some b, some z => if z.cells.length = n ∧ 0 < n then some (n, b, z.cells) else none
    | _, _, _ => none
  | _ => none
abbrev AlK (β : Type) := List AV → Nat → (Pos → AV) → β
noncomputable def alAlloc {β : Type} (t : TypeId) (P : Program) (tm : Tm) (f : AlK β) (e : β) : β := optK (allocV P tm (.alloc t)) (fun q => f q.1 q.2.1 q.2.2) e
noncomputable def alBox {β : Type} (t : TypeId) (x : Operand) (P : Program) (tm : Tm) (f : AlK β) (e : β) : β :=
  evK x tm (fun v => optK (sizeT P t) (fun n => boolK v.isAny e (cellsK v fun l => f l n (fun p => .ptr p 0))) e) e
noncomputable def alBuild {β : Type} (t : TypeId) (len : Nat) (ps : Array (Nat × Operand)) (P : Program) (tm : Tm) (f : AlK β) (e : β) : β :=
  partsK ps.toList tm (fun l => optK (bsT P t len) (fun q => fillF (fun i => some (i * q.1, q.1)) l q.2 (fun cs => f cs q.1 (fun p => .slice p 0 len len false)) e) e) e
noncomputable def alMake {β : Type} (t : TypeId) (l c : Operand) (P : Program) (tm : Tm) (f : AlK β) (e : β) : β :=
  evK l tm (fun l => evK c tm (fun c => optK (msT P t) (fun q => upK c 281474976710656 (fun c => upK l c (fun l => boolK (Nat.ble (q.2.1 * c) 281474976710656)
    (f ((List.replicate c q.2.2).flatten) q.1 (fun p => .slice p 0 l c false)) e) e) e) e) e) e
noncomputable def alF {β : Type} : Op → Program → Tm → AlK β → β → β :=
  @Op.rec (fun _ => Program → Tm → AlK β → β → β)
    (fun _ _ _ _ e => e) (fun _ _ _ _ e => e) (fun _ _ _ _ _ _ e => e) alAlloc alBox (fun _ _ _ _ _ e => e) alBuild (fun _ _ _ _ _ _ _ e => e) (fun _ _ _ _ _ e => e) (fun _ _ _ _ _ _ e => e) (fun _ _ _ _ e => e) (fun _ _ _ _ e => e) (fun _ _ _ _ e => e) (fun _ _ _ _ _ _ _ _ e => e) (fun _ _ _ _ _ _ e => e) (fun _ _ _ _ _ _ e => e) (fun _ _ _ _ _ e => e) (fun _ _ _ _ _ e => e) (fun _ _ _ _ _ _ e => e) (fun _ _ _ _ _ e => e) (fun _ _ _ _ _ e => e) alMake (fun _ _ _ _ _ _ _ _ e => e) (fun _ _ _ _ _ _ e => e) (fun _ _ _ _ _ _ e => e) (fun _ _ _ _ _ _ e => e) (fun _ _ _ _ _ _ e => e) (fun _ _ _ _ _ _ _ e => e) (fun _ _ _ _ _ _ _ e => e) (fun _ _ _ _ _ _ e => e) (fun _ _ _ _ _ _ _ e => e) (fun _ _ _ _ _ e => e) (fun _ _ _ _ _ e => e) (fun _ _ _ _ e => e) (fun _ _ _ _ _ _ _ e => e) (fun _ _ _ _ _ e => e) (fun _ _ _ _ e => e) (fun _ _ _ _ e => e) (fun _ _ _ _ e => e) (fun _ _ _ _ e => e) (fun _ _ _ _ _ e => e) (fun _ _ _ _ _ _ e => e) (fun _ _ _ _ _ e => e)
theorem alF_eq {β : Type} (op : Op) (P : Program) (tm : Tm) (f : AlK β) (e : β) : alF op P tm f e = optK (allocV P tm op) (fun q => f q.1 q.2.1 q.2.2) e := by
  cases op with
  | box t x =>
    show alBox t x P tm f e = _
    simp only [alBox, evK_eq, allocV, cellsK_eq]
    cases ev tm x with
    | none => rfl
    | some v =>
      show optK (sizeT P t) _ e = _
      cases sizeT P t with
      | none => rfl
      | some n => simp only [optK]; cases v.isAny <;> rfl
  | buildSlice t len ps =>
    show alBuild t len ps P tm f e = _
    simp only [alBuild, partsK_eq, fillF_eq, allocV, bsT]
    cases P.underlying t with
    | none => cases evParts tm ps.toList <;> rfl
    | some d =>
      cases d <;> first | (cases evParts tm ps.toList <;> rfl) | skip
      rename_i el
      simp only
      cases sizeT P el with
      | none => cases evParts tm ps.toList <;> rfl
      | some n =>
        cases zeroT P el with
        | none => cases evParts tm ps.toList <;> rfl
        | some z =>
          cases evParts tm ps.toList with
          | none => rfl
          | some l =>
            simp only
            by_cases hc : z.cells.length = n ∧ len * n ≤ 16777216 ∧ 0 < n
            · simp only [if_pos hc]
              show optK (fillV (fun i => some (i * n, n)) ((List.replicate len z.cells).flatten) l) _ e = _
              cases fillV (fun i => some (i * n, n)) ((List.replicate len z.cells).flatten) l <;> rfl
            · simp only [if_neg hc]; rfl
  | makeSlice t l c =>
    show alMake t l c P tm f e = _
    simp only [alMake, evK_eq, upK_eq, allocV, msT]
    cases ev tm l with
    | none => cases P.underlying t <;> first | rfl | (rename_i d; cases d <;> rfl)
    | some l =>
      cases ev tm c with
      | none => cases P.underlying t <;> first | rfl | (rename_i d; cases d <;> rfl)
      | some c =>
        cases P.underlying t with
        | none => rfl
        | some d =>
          cases d <;> first | rfl | skip
          rename_i el
          simp only
          cases sizeT P el with
          | none => rfl
          | some n =>
            cases bytesT P el with
            | none => rfl
            | some b =>
              cases zeroT P el with
              | none => rfl
              | some z =>
                simp only
                by_cases hc : z.cells.length = n ∧ 0 < n
                · simp only [if_pos hc]
                  show optK (upTo c 281474976710656) _ e = _
                  cases upTo c 281474976710656 with
                  | none => rfl
                  | some c =>
                    show optK (upTo l c) _ e = _
                    simp only
                    cases upTo l c with
                    | none => rfl
                    | some l =>
                      show boolK (Nat.ble (b * c) 281474976710656) _ e = _
                      by_cases hb : b * c ≤ 281474976710656
                      · rw [Nat.ble_eq_true_of_le hb]; simp only; rw [if_pos ⟨hc.1, hb, hc.2⟩]; rfl
                      · have : Nat.ble (b * c) 281474976710656 = false := by
                          cases h : Nat.ble (b * c) 281474976710656 with
                          | false => rfl
                          | true => exact absurd (Nat.le_of_ble_eq_true h) hb
                        rw [this]; simp only; rw [if_neg (fun h => hb h.2.1)]; rfl
                · simp only [if_neg hc]
                  cases upTo c 281474976710656 with
                  | none => rfl
                  | some c =>
                    simp only
                    cases upTo l c with
                    | none => rfl
                    | some l => simp only; rw [if_neg (fun h => hc ⟨h.1, h.2.2⟩)]; rfl
  | _ => rfl
noncomputable def aAlloc (t : TypeId) (P : Program) (fn i : Nat) (_ : App) (tm : Tm) (A : H) (k : AV → H → Ans) (_ : Ans) : Ans := alAlloc t P tm (fun cs n mk => mkRow A k (cs, n, mk)) (.err fn i (opCode (.alloc t)))
noncomputable def aBox (t : TypeId) (x : Operand) (P : Program) (fn i : Nat) (_ : App) (tm : Tm) (A : H) (k : AV → H → Ans) (_ : Ans) : Ans := alBox t x P tm (fun cs n mk => mkRow A k (cs, n, mk)) (.err fn i (opCode (.box t x)))
noncomputable def aBuildSlice (t : TypeId) (n : Nat) (ps : Array (Nat × Operand)) (P : Program) (fn i : Nat) (_ : App) (tm : Tm) (A : H) (k : AV → H → Ans) (_ : Ans) : Ans := alBuild t n ps P tm (fun cs m mk => mkRow A k (cs, m, mk)) (.err fn i (opCode (.buildSlice t n ps)))
noncomputable def aMakeSlice (t : TypeId) (l c : Operand) (P : Program) (fn i : Nat) (_ : App) (tm : Tm) (A : H) (k : AV → H → Ans) (_ : Ans) : Ans := alMake t l c P tm (fun cs n mk => mkRow A k (cs, n, mk)) (.err fn i (opCode (.makeSlice t l c)))

noncomputable def actF : Op → Program → Nat → Nat → App → Tm → H → (AV → H → Ans) → Ans → Ans :=
  @Op.rec (fun _ => Program → Nat → Nat → App → Tm → H → (AV → H → Ans) → Ans → Ans)
    (fun _ _ _ _ _ _ _ _ e => e) (fun _ _ _ _ _ _ _ _ e => e) (fun _ _ _ _ _ _ _ _ _ _ e => e) aAlloc aBox (fun _ _ _ _ _ _ _ _ _ e => e) aBuildSlice (fun _ _ _ _ _ _ _ _ _ _ _ e => e) (fun _ _ _ _ _ _ _ _ _ e => e) aStore (fun _ _ _ _ _ _ _ _ e => e) (fun _ _ _ _ _ _ _ _ e => e) (fun _ _ _ _ _ _ _ _ e => e) (fun _ _ _ _ _ _ _ _ _ _ _ _ e => e) (fun _ _ _ _ _ _ _ _ _ _ e => e) (fun _ _ _ _ _ _ _ _ _ _ e => e) (fun _ _ _ _ _ _ _ _ _ e => e) (fun _ _ _ _ _ _ _ _ _ e => e) (fun _ _ _ _ _ _ _ _ _ _ e => e) (fun _ _ _ _ _ _ _ _ _ e => e) (fun _ _ _ _ _ _ _ _ _ e => e) aMakeSlice (fun _ _ _ _ _ _ _ _ _ _ _ _ e => e) (fun _ _ _ _ _ _ _ _ _ _ e => e) (fun _ _ _ _ _ _ _ _ _ _ e => e) (fun _ _ _ _ _ _ _ _ _ _ e => e) (fun _ _ _ _ _ _ _ _ _ _ e => e) (fun _ _ _ _ _ _ _ _ _ _ _ e => e) (fun _ _ _ _ _ _ _ _ _ _ _ e => e) (fun _ _ _ _ _ _ _ _ _ _ e => e) (fun _ _ _ _ _ _ _ _ _ _ _ e => e) (fun _ _ _ _ _ _ _ _ _ e => e) (fun _ _ _ _ _ _ _ _ _ e => e) (fun _ _ _ _ _ _ _ _ e => e) (fun _ _ _ _ _ _ _ _ _ _ _ e => e) (fun _ _ _ _ _ _ _ _ _ e => e) aCall (fun _ _ _ _ _ _ _ _ e => e) (fun _ _ _ _ _ _ _ _ e => e) (fun _ _ _ _ _ _ _ _ e => e) (fun _ _ _ _ _ _ _ _ _ e => e) (fun _ _ _ _ _ _ _ _ _ _ e => e) (fun _ _ _ _ _ _ _ _ _ e => e)

/-- What stands behind reading and reckoning. -/
noncomputable def actSlow (P : Program) (fn i : Nat) (app : App) (tm : Tm) (A : H) (op : Op) (k : AV → H → Ans) : Ans :=
  match allocV P tm op with
  | some (cs, esz, mk) => fList cs fun cs => A.newK (.cells cs esz false) fun p A => k (mk p) A
  | none => effK P fn i app tm A op k

theorem optK_mkRow {P : Program} {fn i : Nat} {app : App} {tm : Tm} {A : H} {op : Op} {k : AV → H → Ans} : optK (allocV P tm op) (mkRow A k) (actSlow P fn i app tm A op k) = actSlow P fn i app tm A op k := by
  unfold actSlow
  cases allocV P tm op with
  | none => rfl
  | some q => rfl

theorem bApp0_eq (ats : Array TypeId) (args : List Operand) (P : Program) (tm : Tm) (A : H) (k : AV → H → Ans) (bad : Ans) :
    bApp0 ats args P tm A k (match evs tm args with | some l => builtinK P A .append ats l k | none => bad) = (match evs tm args with | some l => builtinK P A .append ats l k | none => bad) := by
  unfold bApp0
  cases hq : apInfo P ats with
  | none => rfl
  | some q =>
    obtain ⟨size, bytes⟩ := q
    show evsK args tm _ _ = _
    rw [evsK_eq]
    cases evs tm args with
    | none => rfl
    | some l =>
      match l with
      | [] => rfl
      | [_] => rfl
      | _ :: _ :: _ :: _ => rfl
      | [s, x] =>
        simp only
        generalize he : builtinK P A .append ats [s, x] k = e
        have hb : ∀ n, srcLen x = some n → e = (match srcCells A size n x with | some new => appendK A size bytes s n new k | none => .err 3 2 0) := by
          intro n hsl
          unfold apInfo at hq
          split at hq
          · rename_i t ht
            split at hq
            · rename_i el hu
              split at hq
              · rename_i sz by' z hs hb hz
                split at hq
                · rename_i hc
                  split at hq
                  · rename_i u hu1
                    split at hq
                    · cases hq
                    · rename_i du hni hu2
                      simp only [Option.some.injEq, Prod.mk.injEq] at hq; obtain ⟨rfl, rfl⟩ := hq
                      rw [← he]
                      simp only [builtinK, ht, hu, hs, hb, hz, if_pos hc, hu1, hu2, hsl]
                      cases srcCells A sz n x <;> rfl
                    · cases hq
                  · cases hq
                · cases hq
              · cases hq
            · cases hq
          · cases hq
        cases x <;> first | rfl | skip
        · rename_i p off n cap soft
          have hb := hb n rfl
          show getK p A.t _ (.err 3 2 0) = e
          rw [getK_eq]
          cases hp : A.t.get p with
          | none => rw [hb]; simp only [srcCells, hp]; rfl
          | some o =>
            cases o <;> first | (rw [hb]; simp only [srcCells, hp]; rfl) | skip
            rename_i cs esz ro
            show segK off cs (n * size) _ (.err 3 2 0) = e
            rw [readN_eq]
            cases hr : readN cs off (n * size) with
            | none => rw [hb]; simp only [srcCells, hp, hr]; rfl
            | some new =>
              show appendF A size bytes s n new k (appendK A size bytes s n new k) = e
              rw [appendF_eq, hb]; simp only [srcCells, hp, hr]
        · rename_i cs n
          have hb := hb n rfl
          show segK 0 cs (n * size) _ (.err 3 2 0) = e
          rw [readN_eq]
          cases hr : readN cs 0 (n * size) with
          | none => rw [hb]; simp only [srcCells, hr]; rfl
          | some new =>
            show appendF A size bytes s n new k (appendK A size bytes s n new k) = e
            rw [appendF_eq, hb]; simp only [srcCells, hr]
theorem bApp_eq (ats : Array TypeId) (args : List Operand) (P : Program) (tm : Tm) (A : H) (k : AV → H → Ans) (bad : Ans) :
    bApp ats args P tm A k (match evs tm args with | some l => builtinK P A .append ats l k | none => bad) = (match evs tm args with | some l => builtinK P A .append ats l k | none => bad) := by
  unfold bApp
  cases hq : apInfoN P ats with
  | none => exact bApp0_eq ats args P tm A k bad
  | some q =>
    obtain ⟨size, bytes, zs⟩ := q
    show evsK args tm _ _ = _
    rw [evsK_eq]
    cases evs tm args with
    | none =>
      have h0 := bApp0_eq ats args P tm A k bad
      exact rfl
    | some l =>
      match l with
      | [] => rfl
      | [_] => rfl
      | _ :: _ :: _ :: _ => rfl
      | [s, x] =>
        simp only
        generalize he : builtinK P A .append ats [s, x] k = e
        unfold apInfoN at hq
        split at hq
        · rename_i t ht
          split at hq
          · rename_i el hu
            split at hq
            · rename_i sz by' z hs hb hz
              split at hq
              · rename_i hc
                split at hq
                · rename_i u hu1
                  split at hq
                  · rename_i ik hu2
                    simp only [Option.some.injEq, Prod.mk.injEq] at hq; obtain ⟨rfl, rfl, rfl⟩ := hq
                    simp only [builtinK, ht, hu, hs, hb, hz, if_pos hc, hu1, hu2] at he
                    show eInt x _ e = e
                    cases x <;> first | rfl | skip
                    rename_i kd c
                    show natOf c _ (.err 3 1 0) = e
                    cases c with
                    | negSucc c => exact he
                    | ofNat n =>
                      show boolK (Nat.blt n 1073741824) _ (.err 3 0 0) = e
                      simp only at he
                      cases h1 : Nat.blt n 1073741824 with
                      | false => rw [h1] at he; simp only [Bool.false_and, Bool.false_eq_true, if_false] at he; exact he
                      | true =>
                        rw [h1] at he
                        show boolK (roomy n by') _ (.err 3 0 0) = e
                        cases h2 : roomy n by' with
                        | false => rw [h2] at he; simp only [Bool.and_false, Bool.false_eq_true, if_false] at he; exact he
                        | true =>
                          rw [h2] at he
                          show appendF A sz by' s n (List.replicate n z.cells).flatten k (appendK A sz by' s n (List.replicate n z.cells).flatten k) = e
                          rw [appendF_eq]
                          simp only [Bool.and_self, if_true] at he; exact he
                  · cases hq
                  · cases hq
                · cases hq
              · cases hq
            · cases hq
          · cases hq
        · cases hq
theorem bClear_eq (ats : Array TypeId) (args : List Operand) (P : Program) (tm : Tm) (A : H) (k : AV → H → Ans) (bad : Ans) :
    bClear ats args P tm A k (match evs tm args with | some l => builtinK P A .clear ats l k | none => bad) = (match evs tm args with | some l => builtinK P A .clear ats l k | none => bad) := by
  unfold bClear
  cases hq : clInfo P ats with
  | none => rfl
  | some q =>
    obtain ⟨size, zs⟩ := q
    show evsK args tm _ _ = _
    rw [evsK_eq]
    cases evs tm args with
    | none => rfl
    | some l =>
      match l with
      | [] => rfl
      | _ :: _ :: _ => rfl
      | [x] =>
        simp only
        generalize he : builtinK P A .clear ats [x] k = e
        show eSlice x _ e = e
        cases x <;> first | rfl | skip
        rename_i p off n cap soft
        show getK p A.t _ e = e
        rw [getK_eq]
        cases hp : A.t.get p with
        | none => rfl
        | some o =>
          cases o <;> first | rfl | skip
          rename_i cs esz ro
          show boolK ro e _ = e
          cases ro with
          | true => rfl
          | false =>
            unfold clInfo at hq
            split at hq
            · rename_i t ht
              split at hq
              · rename_i el hu
                split at hq
                · rename_i sz z hs hz
                  split at hq
                  · rename_i hc
                    simp only [Option.some.injEq, Prod.mk.injEq] at hq; obtain ⟨rfl, rfl⟩ := hq
                    simp only [builtinK, ht, hu, hs, hz, hp] at he
                    simp only [Bool.and_eq_true] at hc
                    obtain ⟨h1, h2, h3⟩ := hc
                    have hlen : z.cells.length = sz := Nat.eq_of_beq_eq_true h1
                    show boolK (Nat.beq n 0) (k (.tup []) A) _ = e
                    cases hn : Nat.beq n 0 with
                    | true => rw [hn] at he; simp only [if_true] at he; exact he
                    | false =>
                      rw [hn] at he
                      simp only [Bool.false_eq_true, if_false] at he
                      show setsB off (List.replicate n z.cells).flatten cs _ (.err 5 0 0) = e
                      rw [setsB_eq, flat_len, hlen]
                      by_cases h4 : off + n * sz ≤ cs.length
                      · rw [if_pos h4, ← he, if_pos (by rw [h1, h2, h3, Nat.ble_eq_true_of_le h4]; rfl), setsK_eq]
                      · have hb : Nat.ble (off + n * sz) cs.length = false := by
                          cases hx : Nat.ble (off + n * sz) cs.length with
                          | false => rfl
                          | true => exact absurd (Nat.le_of_ble_eq_true hx) h4
                        rw [if_neg h4, ← he, hb, if_neg (by simp)]
                  · cases hq
                · cases hq
              · cases hq
            · cases hq
theorem bCopy_eq (ats : Array TypeId) (args : List Operand) (P : Program) (tm : Tm) (A : H) (k : AV → H → Ans) (bad : Ans) :
    bCopy ats args P tm A k (match evs tm args with | some l => builtinK P A .copy ats l k | none => bad) = (match evs tm args with | some l => builtinK P A .copy ats l k | none => bad) := by
  unfold bCopy
  cases hq : cpInfo P ats with
  | none => rfl
  | some size =>
    show evsK args tm _ _ = _
    rw [evsK_eq]
    cases evs tm args with
    | none => rfl
    | some l =>
      match l with
      | [] => rfl
      | [_] => rfl
      | _ :: _ :: _ :: _ => rfl
      | [d, x] =>
        simp only
        generalize he : builtinK P A .copy ats [d, x] k = e
        show eSlice d _ e = e
        cases d <;> first | rfl | skip
        rename_i p off m cap soft
        show eSlice x _ (eFz x _ e) = e
        cases x <;> first | rfl | skip
        case fz cs2 n =>
          show fNat (if Nat.ble n m then n else m) _ = e
          rw [fNat_eq]
          generalize hn : (if Nat.ble n m then n else m) = c
          show segK 0 cs2 (c * size) _ e = e
          rw [readN_eq]
          cases hr : readN cs2 0 (c * size) with
          | none => rfl
          | some new =>
            show boolK (onesF new) _ e = e
            rw [onesF_eq]
            cases h3 : new.all AV.one with
            | false => rfl
            | true =>
              show getK p A.t _ e = e
              rw [getK_eq]
              cases hgp : A.t.get p with
              | none => rfl
              | some o =>
                cases o <;> first | rfl | skip
                rename_i cs esz ro
                show boolK ro e _ = e
                cases ro with
                | true => rfl
                | false =>
                  show setsB off new cs _ e = e
                  rw [setsB_eq]
                  by_cases h4 : off + new.length ≤ cs.length
                  · rw [if_pos h4, ← he]
                    unfold cpInfo at hq
                    split at hq
                    · rename_i t ht
                      split at hq
                      · rename_i el hu
                        split at hq
                        · rename_i sz hs
                          split at hq
                          · cases hq
                          · rename_i hz
                            simp only [Option.some.injEq] at hq; subst hq
                            simp only [builtinK, ht, hu, hs, srcLen, if_neg hz, fNat_eq, hn, srcCells, hr, hgp]
                            rw [if_pos (by rw [Nat.ble_eq_true_of_le h4, h3]; rfl), setsK_eq]
                        · cases hq
                      · cases hq
                    · cases hq
                  · rw [if_neg h4]
        rename_i q qoff n qcap qsoft
        have hes : ∀ (f : Pos → Nat → Nat → Nat → Bool → Ans) (e : Ans), eSlice (AV.slice q qoff n qcap qsoft) f e = f q qoff n qcap qsoft := fun _ _ => rfl
        rw [hes, fNat_eq]
        generalize hn : (if Nat.ble n m then n else m) = c
        rw [getK_eq]
        cases hgq : A.t.get q with
        | none => rfl
        | some o =>
          cases o <;> first | rfl | skip
          rename_i cs2 esz2 ro2
          show segK qoff cs2 (c * size) _ e = e
          rw [readN_eq]
          cases hr : readN cs2 qoff (c * size) with
          | none => rfl
          | some new =>
            show boolK (onesF new) _ e = e
            rw [onesF_eq]
            cases h3 : new.all AV.one with
            | false => rfl
            | true =>
              show getK p A.t _ e = e
              rw [getK_eq]
              cases hgp : A.t.get p with
              | none => rfl
              | some o =>
                cases o <;> first | rfl | skip
                rename_i cs esz ro
                show boolK ro e _ = e
                cases ro with
                | true => rfl
                | false =>
                  show setsB off new cs _ e = e
                  rw [setsB_eq]
                  by_cases h4 : off + new.length ≤ cs.length
                  · rw [if_pos h4, ← he]
                    unfold cpInfo at hq
                    split at hq
                    · rename_i t ht
                      split at hq
                      · rename_i el hu
                        split at hq
                        · rename_i sz hs
                          split at hq
                          · cases hq
                          · rename_i hz
                            simp only [Option.some.injEq] at hq; subst hq
                            simp only [builtinK, ht, hu, hs, srcLen, if_neg hz, fNat_eq, hn, srcCells, hgq, hr, hgp]
                            rw [if_pos (by rw [Nat.ble_eq_true_of_le h4, h3]; rfl), setsK_eq]
                        · cases hq
                      · cases hq
                    · cases hq
                  · rw [if_neg h4]

theorem actF_eq (op : Op) (P : Program) (fn i : Nat) (app : App) (tm : Tm) (A : H) (k : AV → H → Ans) : actF op P fn i app tm A k (actSlow P fn i app tm A op k) = actSlow P fn i app tm A op k := by
  cases op with
  | alloc t => exact (alF_eq (.alloc t) P tm _ _).trans (by unfold actSlow; cases allocV P tm (.alloc t) <;> rfl)
  | box t x => exact (alF_eq (.box t x) P tm _ _).trans (by unfold actSlow; cases allocV P tm (.box t x) <;> rfl)
  | buildSlice t n ps => exact (alF_eq (.buildSlice t n ps) P tm _ _).trans (by unfold actSlow; cases allocV P tm (.buildSlice t n ps) <;> rfl)
  | makeSlice t l c => exact (alF_eq (.makeSlice t l c) P tm _ _).trans (by unfold actSlow; cases allocV P tm (.makeSlice t l c) <;> rfl)
  | store t x v =>
    show aStore t x v P fn i app tm A k _ = _
    generalize he : actSlow P fn i app tm A (.store t x v) k = e
    simp only [aStore, evK_eq]
    have hslow : e = (match ev tm x, ev tm v with
      | some x, some v => storeK P A t x v fun A => k (.tup []) A
      | _, _ => .err fn i 1000) := he ▸ rfl
    cases hx : ev tm x with
    | none => rfl
    | some a =>
      cases hv : ev tm v with
      | none => rfl
      | some b =>
        simp only [hx, hv] at hslow
        show ePtr a _ e = e
        cases a <;> first | rfl | skip
        rename_i p off
        show boolK (oneF b) _ _ = e
        rw [oneF_eq]
        cases h1 : b.one with
        | false =>
          show eAgg b _ e = e
          cases b <;> first | rfl | skip
          rename_i l
          show optK (sizeT P t) _ e = e
          cases hn : sizeT P t with
          | none => rfl
          | some n =>
            show boolK (Nat.beq l.length n) _ e = e
            cases h2 : Nat.beq l.length n with
            | false => rfl
            | true =>
              show boolK (onesF l) _ e = e
              rw [onesF_eq]
              cases h3 : l.all AV.one with
              | false => rfl
              | true =>
                show getK p A.t _ e = e
                rw [getK_eq]
                cases hp : A.t.get p with
                | none => rfl
                | some o =>
                  cases o <;> first | rfl | skip
                  rename_i cs esz ro
                  show boolK ro e _ = e
                  cases ro with
                  | true => rfl
                  | false =>
                    show setsB off l cs _ (.err 2 0 0) = e
                    rw [setsB_eq]
                    by_cases h4 : off + l.length ≤ cs.length
                    · rw [if_pos h4, hslow]
                      have hcl : (AV.agg l).cells = l := rfl
                      simp only [storeK, hp, hn, hcl]
                      rw [if_pos (by rw [h2, Nat.ble_eq_true_of_le h4, h3]; rfl), setsK_eq]
                    · have hcl : (AV.agg l).cells = l := rfl
                      have hb : Nat.ble (off + l.length) cs.length = false := by
                        cases hx : Nat.ble (off + l.length) cs.length with
                        | false => rfl
                        | true => exact absurd (Nat.le_of_ble_eq_true hx) h4
                      rw [if_neg h4, hslow]
                      simp only [storeK, hp, hn, hcl]
                      rw [if_neg (by rw [hb]; simp)]
        | true =>
          show boolK (size1 P t) _ e = e
          cases h2 : size1 P t with
          | false => rfl
          | true =>
            show getK p A.t _ e = e
            rw [getK_eq]
            cases hp : A.t.get p with
            | none => rfl
            | some o =>
              cases o <;> first | rfl | skip
              rename_i cs esz ro
              show boolK ro e _ = e
              cases ro with
              | true => rfl
              | false =>
                show set1K cs off b _ (.err 2 0 0) = e
                rw [set1K_eq]
                have hc : b.cells = [b] := by cases b <;> first | rfl | cases h1
                have hz : ∃ n, sizeT P t = some n ∧ n = 1 := by
                  unfold size1 at h2
                  cases hs : sizeT P t with
                  | none => simp [hs] at h2
                  | some n => simp [hs] at h2; exact ⟨n, rfl, h2⟩
                obtain ⟨n, hn, rfl⟩ := hz
                by_cases hlt : off < cs.length
                · rw [if_pos hlt, hslow]
                  have hb : Nat.ble (off + 1) cs.length = true := Nat.ble_eq_true_of_le hlt
                  simp only [storeK, hp, hn, hc, List.length_singleton, hb, List.all_cons, h1, List.all_nil, Bool.and_true]
                  rw [if_pos (by decide), setsK_eq]
                  rfl
                · have hb : Nat.ble (off + 1) cs.length = false := by
                    cases hx : Nat.ble (off + 1) cs.length with
                    | false => rfl
                    | true => exact absurd (Nat.le_of_ble_eq_true hx) hlt
                  rw [if_neg hlt, hslow]
                  simp only [storeK, hp, hn, hc, List.length_singleton, hb]
                  rw [if_neg (by simp)]
  | call c =>
    obtain ⟨callee, args, ats⟩ := c
    cases callee with
    | value f =>
      show evK f tm (fun f => evsK args.toList tm (fun l => app f l A k) _) _ = _
      have hslow : actSlow P fn i app tm A (.call ⟨.value f, args, ats⟩) k = (match ev tm f, evs tm args.toList with
        | some f, some l => app f l A k
        | _, _ => .err fn i 1001) := rfl
      rw [evK_eq, hslow]
      cases ev tm f with
      | none => rfl
      | some g =>
        show evsK args.toList tm (fun l => app g l A k) _ = _
        rw [evsK_eq]
        cases evs tm args.toList <;> rfl
    | invoke r m => rfl
    | builtin b =>
      have hslow : actSlow P fn i app tm A (.call ⟨.builtin b, args, ats⟩) k = (match evs tm args.toList with | some l => builtinK P A b ats l k | none => .err fn i 1002) := by
        unfold actSlow effK; rfl
      cases b <;> first
        | rfl
        | (rw [hslow]; exact bApp_eq ats args.toList P tm A k _)
        | (rw [hslow]; exact bCopy_eq ats args.toList P tm A k _)
        | (rw [hslow]; exact bClear_eq ats args.toList P tm A k _)
  | _ => rfl

/-- An operation, however it acts. -/
noncomputable def operF (P : Program) (fn i : Nat) (app : App) (tm : Tm) (A : H) (op : Op) (k : AV → H → Ans) : Ans :=
  purF op P tm (fun v => k v A) (rdF op P tm A (fun v => k v A) (actF op P fn i app tm A k (actSlow P fn i app tm A op k)))
theorem operF_eq (P : Program) (fn i : Nat) (app : App) (tm : Tm) (A : H) (op : Op) (k : AV → H → Ans) : operF P fn i app tm A op k = operK P fn i app tm A op k := by
  unfold operF operK
  rw [actF_eq, rdF_eq, purF_eq]
  cases pureV P tm op with
  | some v => rfl
  | none =>
    cases readV P tm A op with
    | some v => rfl
    | none => rfl

noncomputable def putTmF (nt : Nat) (tm : Tm) (dst : Option Tmp) (v : AV) (k : Tm → Ans) : Ans :=
  @Option.rec Tmp (fun _ => Nat → Tm → AV → (Tm → Ans) → Ans) (fun _ tm _ k => k tm) (fun d nt tm v k => boolK (Nat.blt d nt) (fAVF v fun v => tm.putK (some v) (Pos.ofNat d) k) (.err 15 d nt)) dst nt tm v k
theorem putTmF_eq (nt : Nat) (tm : Tm) (dst : Option Tmp) (v : AV) (k : Tm → Ans) : putTmF nt tm dst v k = putTm nt tm dst v k := by
  cases dst with
  | none => rfl
  | some d =>
    show boolK (Nat.blt d nt) (fAVF v fun v => tm.putK (some v) (Pos.ofNat d) k) (.err 15 d nt) = _
    rw [fAVF_eq]
    simp only [putTm]
    cases Nat.blt d nt <;> rfl

/-! ### A region in the text's order -/
/-- One operation of the text's order: 'rest' is what stands behind it. -/
noncomputable def stepSlow (P : Program) (fx : Fx) (app : App) (o : Oper) (i : Nat) (tm : Tm) (A : H) (marks : List Mk) (rest : Nat → Tm → H → List Mk → Ans) : Ans :=
  match o.op with
  | .defer c => match deferV fx tm c with
    | some m => putTm fx.nt tm o.dst (.tup []) fun tm => rest (Nat.succ i) tm A (m :: marks)
    | none => .err fx.fn i 39
  | op => operK P fx.fn i app tm A op fun v A => putTm fx.nt tm o.dst v fun tm => rest (Nat.succ i) tm A marks
/-- What is left of it where it neither reckons nor reads. -/
noncomputable def stepRest (P : Program) (fx : Fx) (app : App) (o : Oper) (i : Nat) (tm : Tm) (A : H) (marks : List Mk) (rest : Nat → Tm → H → List Mk → Ans) : Ans :=
  match o.op with
  | .defer c => match deferV fx tm c with
    | some m => putTm fx.nt tm o.dst (.tup []) fun tm => rest (Nat.succ i) tm A (m :: marks)
    | none => .err fx.fn i 39
  | op => actSlow P fx.fn i app tm A op fun v A => putTm fx.nt tm o.dst v fun tm => rest (Nat.succ i) tm A marks
noncomputable def stepGo (P : Program) (fx : Fx) (app : App) (o : Oper) (i : Nat) (tm : Tm) (A : H) (marks : List Mk) (rest : Nat → Tm → H → List Mk → Ans) : Ans :=
  purF o.op P tm (fun v => putTmF fx.nt tm o.dst v fun tm => rest (Nat.succ i) tm A marks)
    (rdF o.op P tm A (fun v => putTmF fx.nt tm o.dst v fun tm => rest (Nat.succ i) tm A marks)
      (actF o.op P fx.fn i app tm A (fun v A => putTmF fx.nt tm o.dst v fun tm => rest (Nat.succ i) tm A marks) (stepRest P fx app o i tm A marks rest)))
theorem stepGo_eq (P : Program) (fx : Fx) (app : App) (o : Oper) (i : Nat) (tm : Tm) (A : H) (marks : List Mk) (rest : Nat → Tm → H → List Mk → Ans) :
    stepGo P fx app o i tm A marks rest = stepSlow P fx app o i tm A marks rest := by
  obtain ⟨dst, op, ty, pos, after, guard⟩ := o
  have key : (∀ c, op ≠ .defer c) → stepGo P fx app ⟨dst, op, ty, pos, after, guard⟩ i tm A marks rest = operK P fx.fn i app tm A op fun v A => putTm fx.nt tm dst v fun tm => rest (Nat.succ i) tm A marks := by
    intro hnd
    have hs : stepRest P fx app ⟨dst, op, ty, pos, after, guard⟩ i tm A marks rest = actSlow P fx.fn i app tm A op fun v A => putTm fx.nt tm dst v fun tm => rest (Nat.succ i) tm A marks := by
      unfold stepRest
      cases op <;> first | rfl | exact absurd rfl (hnd _)
    unfold stepGo
    rw [hs]
    simp only [putTmF_eq]
    rw [purF_eq, rdF_eq]
    simp only [operK]
    cases hp : pureV P tm op with
    | some v => rfl
    | none =>
      cases hr : readV P tm A op with
      | some v => rfl
      | none => exact actF_eq op P fx.fn i app tm A fun v A => putTm fx.nt tm dst v fun tm => rest (Nat.succ i) tm A marks
  by_cases hd : ∃ c, op = .defer c
  · obtain ⟨c, rfl⟩ := hd; rfl
  · have hnd : ∀ c, op ≠ .defer c := fun c e => hd ⟨c, e⟩
    rw [key hnd]
    unfold stepSlow
    cases op <;> first | rfl | exact absurd rfl (hnd _)

noncomputable def wantF (ops : Array Oper) (tm : Tm) (o : Oper) (yes no bad : Ans) : Ans :=
  optK o.guard (fun _ => optK (wantedV ops tm o) (fun b => boolK b yes no) bad) yes
theorem wantF_eq (ops : Array Oper) (tm : Tm) (o : Oper) (yes no bad : Ans) : wantF ops tm o yes no bad = (match wantedV ops tm o with | some true => yes | some false => no | none => bad) := by
  unfold wantF
  cases hg : o.guard with
  | none => simp only [wantedV, hg]; rfl
  | some g =>
    show optK (wantedV ops tm o) (fun b => boolK b yes no) bad = _
    cases wantedV ops tm o with
    | none => rfl
    | some b => cases b <;> rfl

noncomputable def opsF : List Oper → Program → Fx → App → Array Oper → Nat → Tm → H → List Mk → (Tm → H → List Mk → Ans) → Ans :=
  @List.rec Oper (fun _ => Program → Fx → App → Array Oper → Nat → Tm → H → List Mk → (Tm → H → List Mk → Ans) → Ans) (fun _ _ _ _ _ tm A marks k => k tm A marks)
    (fun o _ ih P fx app ops i tm A marks k => wantF ops tm o (stepGo P fx app o i tm A marks fun i tm A marks => ih P fx app ops i tm A marks k)
      (putTmF fx.nt tm o.dst (.tup []) fun tm => ih P fx app ops (Nat.succ i) tm A marks k) (.err fx.fn i 2000))
theorem opsF_eq : ∀ (l : List Oper) (P : Program) (fx : Fx) (app : App) (ops : Array Oper) (i : Nat) (tm : Tm) (A : H) (marks : List Mk) (k : Tm → H → List Mk → Ans), opsF l P fx app ops i tm A marks k = execOps P fx app ops l i tm A marks k
  | [], _, _, _, _, _, _, _, _, _ => rfl
  | o :: l, P, fx, app, ops, i, tm, A, marks, k => by
    have h : execOps P fx app ops (o :: l) i tm A marks k = (match wantedV ops tm o with
      | some true => stepSlow P fx app o i tm A marks fun i tm A marks => execOps P fx app ops l i tm A marks k
      | some false => putTm fx.nt tm o.dst (.tup []) fun tm => execOps P fx app ops l (Nat.succ i) tm A marks k
      | none => .err fx.fn i 2000) := rfl
    have h2 : opsF (o :: l) P fx app ops i tm A marks k = wantF ops tm o (stepGo P fx app o i tm A marks fun i tm A marks => opsF l P fx app ops i tm A marks k)
      (putTmF fx.nt tm o.dst (.tup []) fun tm => opsF l P fx app ops (Nat.succ i) tm A marks k) (.err fx.fn i 2000) := rfl
    rw [h, h2, wantF_eq, stepGo_eq, putTmF_eq]
    simp only [opsF_eq l]

/-! ### A region that draws its order -/
noncomputable def natK3 (n : Nat) (a b c d : Ans) : Ans := @Nat.rec (fun _ => Ans) a (fun n _ => @Nat.rec (fun _ => Ans) b (fun n _ => @Nat.rec (fun _ => Ans) c (fun _ _ => d) n) n) n
theorem natK3_eq (n : Nat) (a b c d : Ans) : natK3 n a b c d = (match n with | 0 => a | 1 => b | 2 => c | _ => d) := by
  match n with
  | 0 => rfl
  | 1 => rfl
  | 2 => rfl
  | n + 3 => rfl

noncomputable def chkK : List Pend → H → Ans → Ans → Ans := @List.rec Pend (fun _ => H → Ans → Ans → Ans) (fun _ b _ => b) (fun q _ ih A b e => boolK (q.chk A) (ih A b e) e)
theorem chkK_eq : ∀ (l : List Pend) (A : H) (b e : Ans), chkK l A b e = boolK (chkAll A l) b e
  | [], _, _, _ => rfl
  | q :: l, A, b, e => by
    show boolK (q.chk A) (chkK l A b e) e = boolK (match q.chk A with | true => chkAll A l | false => false) b e
    rw [chkK_eq l]
    cases q.chk A <;> rfl
noncomputable def heldF (clean : Bool) (A : H) (q : List Pend) (b e : Ans) : Ans := boolK clean b (chkK q A b e)
theorem heldF_eq (clean : Bool) (A : H) (q : List Pend) (b e : Ans) : heldF clean A q b e = (match heldB clean A q with | true => b | false => e) := by
  cases clean with
  | true => rfl
  | false => show chkK q A b e = (match chkAll A q with | true => b | false => e); rw [chkK_eq]; cases chkAll A q <;> rfl

noncomputable def stillF (clean : Bool) (A : H) (q : List Pend) : Bool := boolK clean (getK A.next A.t (fun _ => false) true) (noneB q)
theorem stillF_eq (clean : Bool) (A : H) (q : List Pend) : stillF clean A q = stillB clean A q := by
  cases clean with
  | true =>
    show getK A.next A.t (fun _ => false) true = (match A.t.get A.next with | none => true | some _ => false)
    rw [getK_eq]; cases A.t.get A.next <;> rfl
  | false => rfl

noncomputable def dStep (P : Program) (fx : Fx) (app : App) (x : ROp) (clean : Bool) (q : List Pend) (tm : Tm) (A : H) (ih : Bool → List Pend → Tm → H → Ans) : Ans :=
  natK3 x.cls
    (purF x.o.op P tm (fun v => putTmF fx.nt tm x.o.dst v fun tm => ih clean q tm A) (.err fx.fn x.i (3001 + opCode x.o.op)))
    (rdF x.o.op P tm A (fun v => fAVF v fun v => putTmF fx.nt tm x.o.dst v fun tm1 => ih clean (⟨x.i, fun B => rdF x.o.op P tm B (fun u => sameF u v) false⟩ :: q) tm1 A) (.err fx.fn x.i (3001 + opCode x.o.op)))
    (alF x.o.op P tm (fun cs esz mk => fBool (stillF clean A q) fun c => fList cs fun cs => A.newK (.cells cs esz false) fun p A =>
            putTmF fx.nt tm x.o.dst (mk p) fun tm => ih c (⟨x.i, fun B => match B.t.get p with | some (.cells ds e r') => sames ds cs && (Nat.beq e esz && !r') | _ => false⟩ :: q) tm A) (.err fx.fn x.i (3001 + opCode x.o.op)))
    (heldF clean A q (operF P fx.fn x.i app tm A x.o.op fun v A => putTmF fx.nt tm x.o.dst v fun tm => fBool (noneB (dropAnc x.anc q)) fun c => ih c (dropAnc x.anc q) tm A) (.err fx.fn x.i 3000))

noncomputable def dF : List ROp → Program → Fx → App → Array Oper → Bool → List Pend → Tm → H → (Tm → H → Ans) → Ans :=
  @List.rec ROp (fun _ => Program → Fx → App → Array Oper → Bool → List Pend → Tm → H → (Tm → H → Ans) → Ans) (fun _ fx _ _ clean q tm A k => heldF clean A q (k tm A) (.err fx.fn 0 3000))
    (fun x _ ih P fx app ops clean q tm A k => wantF ops tm x.o (dStep P fx app x clean q tm A fun clean q tm A => ih P fx app ops clean q tm A k)
      (putTmF fx.nt tm x.o.dst (.tup []) fun tm => ih P fx app ops clean q tm A k) (.err fx.fn x.i 2000))
theorem chk_eq (P : Program) (tm : Tm) (op : Op) (v : AV) : (fun B => rdF op P tm B (fun u => sameF u v) false) = fun B => match readV P tm B op with | some u => same u v | none => false := by
  funext B
  rw [rdF_eq]
  cases readV P tm B op with
  | none => rfl
  | some u => exact sameF_eq u v
theorem dF_eq : ∀ (l : List ROp) (P : Program) (fx : Fx) (app : App) (ops : Array Oper) (clean : Bool) (q : List Pend) (tm : Tm) (A : H) (k : Tm → H → Ans), dF l P fx app ops clean q tm A k = execD P fx app ops l clean q tm A k
  | [], P, fx, app, ops, clean, q, tm, A, k => heldF_eq ..
  | x :: l, P, fx, app, ops, clean, q, tm, A, k => by
    have h : execD P fx app ops (x :: l) clean q tm A k = (match wantedV ops tm x.o with
      | none => Ans.err fx.fn x.i 2000
      | some false => putTm fx.nt tm x.o.dst (.tup []) fun tm => execD P fx app ops l clean q tm A k
      | some true =>
        match x.cls with
        | 0 => match pureV P tm x.o.op with
          | some v => putTm fx.nt tm x.o.dst v fun tm => execD P fx app ops l clean q tm A k
          | none => Ans.err fx.fn x.i (3001 + opCode x.o.op)
        | 1 => match readV P tm A x.o.op with
          | some v => fAV v fun v => putTm fx.nt tm x.o.dst v fun tm1 => execD P fx app ops l clean (⟨x.i, fun B => match readV P tm B x.o.op with | some u => same u v | none => false⟩ :: q) tm1 A k
          | none => Ans.err fx.fn x.i (3001 + opCode x.o.op)
        | 2 => match allocV P tm x.o.op with
          | some (cs, esz, mk) => fList cs fun cs => A.newK (.cells cs esz false) fun p A1 =>
            putTm fx.nt tm x.o.dst (mk p) fun tm => execD P fx app ops l (stillB clean A q) (⟨x.i, fun B => match B.t.get p with | some (.cells ds e r) => sames ds cs && (Nat.beq e esz && !r) | _ => false⟩ :: q) tm A1 k
          | none => Ans.err fx.fn x.i (3001 + opCode x.o.op)
        | _ => match heldB clean A q with
          | true => operK P fx.fn x.i app tm A x.o.op fun v A => putTm fx.nt tm x.o.dst v fun tm => execD P fx app ops l (noneB (dropAnc x.anc q)) (dropAnc x.anc q) tm A k
          | false => Ans.err fx.fn x.i 3000) := rfl
    have h2 : dF (x :: l) P fx app ops clean q tm A k = wantF ops tm x.o (dStep P fx app x clean q tm A fun clean q tm A => dF l P fx app ops clean q tm A k)
      (putTmF fx.nt tm x.o.dst (.tup []) fun tm => dF l P fx app ops clean q tm A k) (.err fx.fn x.i 2000) := rfl
    rw [h, h2, wantF_eq]
    simp only [dStep]
    simp only [chk_eq]
    simp only [dF_eq l, heldF_eq, stillF_eq, fBool_eq, putTmF_eq, natK3_eq, purF_eq, rdF_eq, alF_eq, operF_eq, fAVF_eq]
    cases wantedV ops tm x.o with
    | none => rfl
    | some b =>
      cases b with
      | false => rfl
      | true =>
        simp only
        generalize x.cls = c
        match c with
        | 0 => simp only; cases pureV P tm x.o.op <;> rfl
        | 1 => simp only; cases readV P tm A x.o.op <;> rfl
        | 2 => simp only; cases allocV P tm x.o.op <;> rfl
        | c + 3 => simp only

end Go.AM
