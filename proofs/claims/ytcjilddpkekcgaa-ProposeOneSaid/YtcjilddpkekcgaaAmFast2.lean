/-
  THE MACHINE 'AM', QUICK: operations. Each is what the plain machine's is.
-/
import Derived.Test.YtcjilddpkekcgaaAmFastL
namespace Go.AM
section
variable {β : Type}

/-! ### Integers -/
noncomputable def natOf : Int → (Nat → β) → β → β := @Int.rec (fun _ => (Nat → β) → β → β) (fun n f _ => f n) (fun _ _ e => e)
theorem natOf_eq (x : Int) (f : Nat → β) (e : β) : natOf x f e = (match x with | .ofNat n => f n | .negSucc _ => e) := by cases x <;> rfl

noncomputable def quoW (k : IntKind) (x y : Int) : Int := match x, y with | .ofNat a, .ofNat b => wrapK k (.ofNat (Nat.div a b)) | _, _ => k.wrap (x.tdiv y)
noncomputable def remW (x y : Int) : Int := match x, y with | .ofNat a, .ofNat b => .ofNat (Nat.mod a b) | _, _ => x.tmod y
theorem quo_eq (k : IntKind) (x y : Int) (f : AV → β) (e : β) : boolK (ieq y 0) e (f (.int k (quoW k x y))) = optK (intOp .quo k x y) f e := by
  simp only [intOp]
  cases ieq y 0 with
  | true => rfl
  | false => cases x <;> cases y <;> rfl
theorem rem_eq (k : IntKind) (x y : Int) (f : AV → β) (e : β) : boolK (ieq y 0) e (f (.int k (remW x y))) = optK (intOp .rem k x y) f e := by
  simp only [intOp]
  cases ieq y 0 with
  | true => rfl
  | false => cases x <;> cases y <;> rfl

/-- Two integers under an operator. -/
noncomputable def intF : BinOp → IntKind → Int → IntKind → Int → (AV → β) → β → β :=
  @BinOp.rec (fun _ => IntKind → Int → IntKind → Int → (AV → β) → β → β)
    (fun k x k' y f e => boolK (kindEq k k') (f (.int k (wrapK k (Int.add x y)))) e)
    (fun k x k' y f e => boolK (kindEq k k') (f (.int k (wrapK k (Int.sub x y)))) e)
    (fun k x k' y f e => boolK (kindEq k k') (f (.int k (wrapK k (Int.mul x y)))) e)
    (fun k x k' y f e => boolK (kindEq k k') (boolK (ieq y 0) e (f (.int k (quoW k x y)))) e)
    (fun k x k' y f e => boolK (kindEq k k') (boolK (ieq y 0) e (f (.int k (remW x y)))) e)
    (fun k x k' y f e => boolK (kindEq k k') (optK (intOp .and k x y) f e) e)
    (fun k x k' y f e => boolK (kindEq k k') (optK (intOp .or k x y) f e) e)
    (fun k x k' y f e => boolK (kindEq k k') (optK (intOp .xor k x y) f e) e)
    (fun k x _ y f e => optK (shiftOp .shl k x y) f e)
    (fun k x _ y f e => optK (shiftOp .shr k x y) f e)
    (fun k x k' y f e => boolK (kindEq k k') (optK (intOp .andNot k x y) f e) e)
    (fun k x k' y f e => boolK (kindEq k k') (f (.bool (ieq x y))) e)
    (fun k x k' y f e => boolK (kindEq k k') (f (.bool (!ieq x y))) e)
    (fun k x k' y f e => boolK (kindEq k k') (f (.bool (ilt x y))) e)
    (fun k x k' y f e => boolK (kindEq k k') (f (.bool (!ilt y x))) e)
    (fun k x k' y f e => boolK (kindEq k k') (f (.bool (ilt y x))) e)
    (fun k x k' y f e => boolK (kindEq k k') (f (.bool (!ilt x y))) e)
theorem intF_eq (P : Program) (op : BinOp) (t : TypeId) (u v : Operand) (k : IntKind) (x : Int) (k' : IntKind) (y : Int) (f : AV → β) (e : β) :
    intF op k x k' y f e = optK (binV P op t u v (.int k x) (.int k' y)) f e := by
  by_cases h : k = k'
  · have hk : kindEq k k' = true := by rw [kindEq_eq]; simpa using h
    cases op <;> simp only [binV, if_pos h] <;> first
      | rfl
      | (show boolK (kindEq k k') _ _ = _; rw [hk]; exact quo_eq k x y f e)
      | (show boolK (kindEq k k') _ _ = _; rw [hk]; exact rem_eq k x y f e)
      | (show boolK (kindEq k k') _ _ = _; rw [hk]; rfl)
  · have hk : kindEq k k' = false := by rw [kindEq_eq]; simpa using h
    cases op <;> simp only [binV, if_neg h] <;> first
      | rfl
      | (show boolK (kindEq k k') _ _ = _; rw [hk]; rfl)

/-! ### Tables -/
def fOff (P : Program) (t : TypeId) (i : Nat) : Option Nat :=
  match P.underlying t with
  | some (.struct fs) => match fs[i]? with
    | some fd => match sizeT P fd.type with
      | some (_ + 1) => some fd.offset
      | _ => none
    | none => none
  | _ => none
def slSize (P : Program) (t : TypeId) : Option Nat := match P.underlying t with | some (.slice e) => sizeT P e | _ => none
def arLen (P : Program) (t : TypeId) : Option Nat := match P.underlying t with | some (.array n _) => some n | _ => none
def arSize (P : Program) (t : TypeId) : Option Nat := match P.underlying t with | some (.array _ e) => sizeT P e | _ => none
def cvKind (P : Program) (s d : TypeId) : Option IntKind :=
  match P.underlying s with
  | some _ => match P.underlying d with | some (.int k) => some k | _ => none
  | none => none
/-- '==': true; '!=': false. -/
noncomputable def eqOp : BinOp → Option Bool := @BinOp.rec (fun _ => Option Bool) none none none none none none none none none none none (some true) (some false) none none none none
/-- An array of so many integers, of which '==' asks nothing. -/
def arInts (P : Program) (t : TypeId) : Option Nat :=
  match P.underlying t with
  | some (.array n e) => match P.underlying e, sizeT P e with
    | some (.int _), some 1 => if P.eqGuardType P.depth t then none else some n
    | _, _ => none
  | _ => none
theorem equalV_arr {P : Program} {t e : TypeId} {n : Nat} (hu : P.underlying t = some (.array n e)) (hs : sizeT P e = some 1) (d : Nat) (xs ys : List AV) : equalV P (d + 1) t (.agg xs) (.agg ys) = eqElemsV (equalV P d) P e 1 xs ys n 0 := by
  simp only [equalV, hu, hs]
theorem arInts_eq {P : Program} {t : TypeId} {n : Nat} (h : arInts P t = some n) (op : BinOp) (r : Bool) (hop : eqOp op = some r) (x y : Operand) (xs ys : List AV) :
    binV P op t x y (.agg xs) (.agg ys) = (match cmpN n xs ys with | some q => some (.bool (boolK r q (!q))) | none => none) := by
  unfold arInts at h
  split at h
  · rename_i n' e hu
    split at h
    · rename_i ik he hs
      split at h
      · cases h
      · rename_i hg
        simp only [Option.some.injEq] at h; subst h
        have heq : equalV P 10000 t (.agg xs) (.agg ys) = cmpN n' xs ys := by
          have h1 := cmpN_eq (P := P) he 9998 n' 0 xs ys
          rw [List.drop_zero, List.drop_zero] at h1
          exact (equalV_arr hu hs 9999 xs ys).trans h1
        have hgf : guardFree P t x y (.agg xs) (.agg ys) = true := by simp [guardFree, hg]
        cases op <;> simp [eqOp] at hop <;> subst hop <;> simp only [binV, hgf, if_true, heq] <;> cases cmpN n' xs ys <;> rfl
    · cases h
  · cases h
/-- A struct of so many integers, of which '==' asks nothing. -/
def stInts (P : Program) (t : TypeId) : Option Nat :=
  match P.underlying t with
  | some (.struct fs) => if P.stoodInHeld t || (P.eqGuardType P.depth t || !stFlat P fs.toList 0) then none else some fs.toList.length
  | _ => none
theorem equalV_st {P : Program} {t : TypeId} {fs : Array Field} (hu : P.underlying t = some (.struct fs)) (h1 : P.stoodInHeld t = false) (d : Nat) (xs ys : List AV) : equalV P (d + 1) t (.agg xs) (.agg ys) = eqFieldsV (equalV P d) P xs ys fs.toList := by
  simp only [equalV, hu, h1, Bool.false_eq_true, if_false]
theorem stInts_eq {P : Program} {t : TypeId} {n : Nat} (h : stInts P t = some n) (op : BinOp) (r : Bool) (hop : eqOp op = some r) (x y : Operand) (xs ys : List AV) :
    binV P op t x y (.agg xs) (.agg ys) = (match cmpN n xs ys with | some q => some (.bool (boolK r q (!q))) | none => none) := by
  unfold stInts at h
  split at h
  · rename_i fs hu
    split at h
    · cases h
    · rename_i hc
      simp only [Option.some.injEq] at h; subst h
      have hc' : (P.stoodInHeld t || (P.eqGuardType P.depth t || !stFlat P fs.toList 0)) = false := by
        cases hx : (P.stoodInHeld t || (P.eqGuardType P.depth t || !stFlat P fs.toList 0)) with
        | false => rfl
        | true => exact absurd hx hc
      simp only [Bool.or_eq_false_iff, Bool.not_eq_false'] at hc'
      obtain ⟨h1, h2, h3⟩ := hc'
      have heq : equalV P 10000 t (.agg xs) (.agg ys) = cmpN fs.toList.length xs ys := by
        have e := fields_eq (P := P) 9998 fs.toList 0 xs ys h3
        rw [List.drop_zero, List.drop_zero] at e
        exact (equalV_st hu h1 9999 xs ys).trans e
      have hgf : guardFree P t x y (.agg xs) (.agg ys) = true := by simp [guardFree, h2]
      cases op <;> simp [eqOp] at hop <;> subst hop <;> simp only [binV, hgf, if_true, heq] <;> cases cmpN fs.toList.length xs ys <;> rfl
  · cases h
/-- A type whose variables are one cell. -/
def scalT (P : Program) (t : TypeId) : Bool := match P.underlying t with | some (.struct _) | some (.array _ _) => false | some _ => true | none => false

/-! ### Operations that touch no memory -/
noncomputable def pMove (x : Operand) (_ : Program) (tm : Tm) (f : AV → β) (e : β) : β := evK x tm f e
noncomputable def pPick (c a b : Operand) (_ : Program) (tm : Tm) (f : AV → β) (e : β) : β := evK c tm (fun v => eBool v (fun q => boolK q (evK a tm f e) (evK b tm f e)) e) e
noncomputable def pBin (op : BinOp) (t : TypeId) (x y : Operand) (_ : TypeId) (P : Program) (tm : Tm) (f : AV → β) (e : β) : β :=
  evK x tm (fun a => evK y tm (fun b => eInt a (fun k m => eInt b (fun k' n => intF op k m k' n f e) (optK (binV P op t x y a b) f e))
    (eAgg a (fun xs => eAgg b (fun ys => optK (eqOp op) (fun r => optK (arInts P t) (fun n => optK (cmpN n xs ys) (fun q => f (.bool (boolK r q (!q)))) (optK (binV P op t x y a b) f e)) (optK (stInts P t) (fun n => optK (cmpN n xs ys) (fun q => f (.bool (boolK r q (!q)))) e) (optK (binV P op t x y a b) f e))) (optK (binV P op t x y a b) f e)) (optK (binV P op t x y a b) f e)) (optK (binV P op t x y a b) f e))) e) e
noncomputable def pUn (op : UnOp) (_ : TypeId) (x : Operand) (_ : Program) (tm : Tm) (f : AV → β) (e : β) : β := evK x tm (fun a => optK (unV op a) f e) e
noncomputable def pConv (s d : TypeId) (x : Operand) (P : Program) (tm : Tm) (f : AV → β) (e : β) : β :=
  evK x tm (fun a => optK (cvKind P s d) (fun k => eInt a (fun _ n => f (.int k (wrapK k n))) (optK (convV P s d a) f e)) (optK (convV P s d a) f e)) e
noncomputable def pNil (x : Operand) (_ : Program) (tm : Tm) (f : AV → β) (e : β) : β :=
  evK x tm (fun a => ePtr a (fun p off => f (.ptr p off)) (match a with | .fp c off => f (.fp c off) | .func g a b => f (.func g a b) | .iface t v => f (.iface t v) | .yield l => f (.yield l) | _ => e)) e
noncomputable def pFieldAddr (t : TypeId) (x : Operand) (i : Nat) (P : Program) (tm : Tm) (f : AV → β) (e : β) : β :=
  evK x tm (fun a => ePtr a (fun p off => optK (fOff P t i) (fun o => f (.ptr p (Nat.add off o))) e) (eFp a (fun p off => optK (fOff P t i) (fun o => f (.fp p (Nat.add off o))) e) (optK (fieldAddrV P t a i) f e))) e
noncomputable def pIndexAddr (t : TypeId) (x i : Operand) (P : Program) (tm : Tm) (f : AV → β) (e : β) : β :=
  evK x tm (fun a => evK i tm (fun j => eInt j (fun _ n => natOf n (fun m =>
    eSlice a (fun p off len _ _ => optK (slSize P t) (fun s => boolK (Nat.blt m len) (f (.ptr p (Nat.add off (Nat.mul m s)))) e) e)
      (ePtr a (fun p off => optK (arLen P t) (fun len => optK (arSize P t) (fun s => boolK (Nat.blt m len) (f (.ptr p (Nat.add off (Nat.mul m s)))) e) e) e)
      (eFz a (fun l len => optK (slSize P t) (fun s => boolK (Nat.blt m len) (f (.fp l (Nat.mul m s))) e) e) (optK (indexAddrV P t a j) f e))))
    e) e) e) e
theorem indexAddr_none {P : Program} {t : TypeId} {a j : AV} (h : ∀ n, below j n = none) : indexAddrV P t a j = none := by
  unfold indexAddrV
  split <;> (try simp only [h]) <;> first | rfl | (split <;> first | rfl | contradiction)
noncomputable def pExtract (t : Operand) (i : Nat) (_ : Program) (tm : Tm) (f : AV → β) (e : β) : β := evK t tm (fun a => eTup a (fun l => nthK l i f e) e) e
noncomputable def pField (t : TypeId) (x : Operand) (i : Nat) (P : Program) (tm : Tm) (f : AV → β) (e : β) : β := optK (match P.underlying t, ev tm x with
    | some (.struct fs), some (.agg cs) => match fs[i]? with | some fd => partV P fd.type cs fd.offset | none => none
    | _, _ => none) f e
noncomputable def pIndex (t : TypeId) (x i : Operand) (P : Program) (tm : Tm) (f : AV → β) (e : β) : β := evK x tm (fun a => evK i tm (fun j => optK (indexV P t a j) f e) e) e
noncomputable def pAssert (x : Operand) (_ a : TypeId) (ok : Bool) (P : Program) (tm : Tm) (f : AV → β) (e : β) : β := evK x tm (fun v => optK (assertV P v a ok) f e) e
noncomputable def pIface (t : TypeId) (x : Operand) (P : Program) (tm : Tm) (f : AV → β) (e : β) : β := optK (match P.underlying t, ev tm x with
    | some (.interface _), _ => none
    | some _, some v => some (.iface t v)
    | _, _ => none) f e
noncomputable def pFunc (g : Fn) (first captured : Array Operand) (_ : Program) (tm : Tm) (f : AV → β) (e : β) : β :=
  optK (match g with | .func h => (match evs tm first.toList, evs tm captured.toList with | some a, some b => some (.func (Pos.ofNat h) a b) | _, _ => none) | _ => none) f e
/-- What a build needs to know of its type: where parts lie; is all known? -/
def bldPlace (P : Program) (t : TypeId) : Option (Nat → Option (Nat × Nat)) :=
  match P.underlying t with
  | some (.struct fs) => if fs.all (fun f => (sizeT P f.type).isSome) then some (fun i => match fs[i]? with | some f => (match sizeT P f.type with | some n => some (f.offset, n) | none => none) | none => none) else none
  | some (.array _ e) => match sizeT P e with
    | some n => some (fun i => some (i * n, n))
    | none => none
  | _ => none
noncomputable def pBuild (t : TypeId) (ps : Array (Nat × Operand)) (P : Program) (tm : Tm) (f : AV → β) (e : β) : β :=
  partsK ps.toList tm (fun l => optK (zeroT P t) (fun z => optK (bldPlace P t) (fun place => cellsK z fun zs => fillF place l zs (fun cs => f (.agg cs)) e) e) e) e
theorem pBuild_eq (t : TypeId) (ps : Array (Nat × Operand)) (P : Program) (tm : Tm) (f : AV → β) (e : β) : pBuild t ps P tm f e = optK (match evParts tm ps.toList with | some l => buildV P t l | none => none) f e := by
  unfold pBuild
  rw [partsK_eq]
  cases evParts tm ps.toList with
  | none => rfl
  | some l =>
    show optK (zeroT P t) _ e = optK (buildV P t l) f e
    unfold buildV
    cases zeroT P t with
    | none => rfl
    | some z =>
      show optK (bldPlace P t) (fun place => cellsK z fun zs => fillF place l zs (fun cs => f (.agg cs)) e) e = _
      unfold bldPlace
      simp only [cellsK_eq, fillF_eq]
      cases P.underlying t with
      | none => rfl
      | some d =>
        cases d <;> first | rfl | skip
        · rename_i n el
          simp only
          cases sizeT P el with
          | none => rfl
          | some s =>
            show optK (fillV _ z.cells l) (fun cs => f (.agg cs)) e = _
            simp only
            cases fillV (fun i => some (i * s, s)) z.cells l <;> rfl
        · rename_i fs
          simp only
          by_cases hall : fs.all (fun f => (sizeT P f.type).isSome) = true
          · rw [if_pos hall]
            show optK (fillV _ z.cells l) (fun cs => f (.agg cs)) e = _
            simp only [if_pos hall]
            cases fillV (fun i => match fs[i]? with | some f => (match sizeT P f.type with | some n => some (f.offset, n) | none => none) | none => none) z.cells l <;> rfl
          · rw [if_neg hall]
            simp only [if_neg hall]
            cases fillV (fun i => match fs[i]? with | some f => (match sizeT P f.type with | some n => some (f.offset, n) | none => none) | none => none) z.cells l <;> rfl

noncomputable def pSlice0 (t : TypeId) (x : Operand) (lo hi mx : Option Operand) (P : Program) (tm : Tm) (f : AV → β) (e : β) : β := optK (match ev tm x, optEv tm lo, optEv tm hi, optEv tm mx with
    | some v, some a, some b, some c => sliceV P t v a b c
    | _, _, _, _ => none) f e
noncomputable def upK (v : AV) (n : Nat) (f : Nat → β) (e : β) : β := eInt v (fun _ x => natOf x (fun m => boolK (Nat.ble m n) (f m) e) e) e
theorem upK_eq (v : AV) (n : Nat) (f : Nat → β) (e : β) : upK v n f e = optK (upTo v n) f e := by
  cases v <;> first | rfl | skip
  rename_i k x
  cases x with
  | ofNat m =>
    show boolK (Nat.ble m n) (f m) e = optK (if Nat.ble m n then some m else none) f e
    cases Nat.ble m n <;> rfl
  | negSucc m => rfl
theorem bounds_000 (len cap : Nat) : bounds len cap none none none = some (0, len, cap) := rfl
theorem bounds_100 (len cap : Nat) (u : AV) : bounds len cap (some u) none none = match upTo u len with | none => none | some l => some (l, len, cap) := rfl
theorem bounds_010 (len cap : Nat) (v : AV) : bounds len cap none (some v) none = match upTo v cap with | none => none | some h => some (0, h, cap) := rfl
theorem bounds_110 (len cap : Nat) (u v : AV) : bounds len cap (some u) (some v) none = match upTo v cap with | none => none | some h => match upTo u h with | none => none | some l => some (l, h, cap) := rfl
theorem bounds_x01 (len cap : Nat) (a : Option AV) (w : AV) : bounds len cap a none (some w) = none := by delta bounds; show (match upTo w cap with | none => none | some _ => none) = none; cases upTo w cap <;> rfl
theorem bounds_011 (len cap : Nat) (v w : AV) : bounds len cap none (some v) (some w) = match upTo w cap with | none => none | some m => match upTo v m with | none => none | some h => some (0, h, m) := rfl
theorem bounds_111 (len cap : Nat) (u v w : AV) : bounds len cap (some u) (some v) (some w) = match upTo w cap with | none => none | some m => match upTo v m with | none => none | some h => match upTo u h with | none => none | some l => some (l, h, m) := rfl
/-- The low end, the high end, the end of what may be had. -/
noncomputable def loSl : Option Operand → Tm → Nat → (Nat → β) → β → β := @Option.rec Operand (fun _ => Tm → Nat → (Nat → β) → β → β) (fun _ _ f _ => f 0) (fun x tm h f e => evK x tm (fun v => upK v h f e) e)
noncomputable def mxSl : Option Operand → Tm → Nat → (Nat → β) → β → β := @Option.rec Operand (fun _ => Tm → Nat → (Nat → β) → β → β) (fun _ c f _ => f c) (fun x tm c f e => evK x tm (fun v => upK v c f e) e)
noncomputable def hiSl : Option Operand → Option Operand → Tm → Nat → Nat → (Nat → β) → β → β := @Option.rec Operand (fun _ => Option Operand → Tm → Nat → Nat → (Nat → β) → β → β)
  (fun mx _ len _ f e => @Option.rec Operand (fun _ => β) (f len) (fun _ => e) mx) (fun x _ tm _ m f e => evK x tm (fun v => upK v m f e) e)
noncomputable def softSl (mx : Option Operand) (soft : Bool) : Bool := @Option.rec Operand (fun _ => Bool) soft (fun _ => false) mx
noncomputable def pSliceZ (t : TypeId) (c : List AV) (len : Nat) (lo hi : Option Operand) (P : Program) (tm : Tm) (f : AV → β) (e : β) : β :=
  optK (slSize P t) (fun n => hiSl hi none tm len len (fun h => loSl lo tm h (fun l => f (.fz ((c.drop (Nat.mul l n)).take (Nat.mul (Nat.sub h l) n)) (Nat.sub h l))) e) e) e
theorem pSliceZ_eq {t : TypeId} {x : Operand} {c : List AV} {len : Nat} {lo hi : Option Operand} {P : Program} {tm : Tm} (hx : ev tm x = some (.fz c len)) (f : AV → β) (e : β) : pSliceZ t c len lo hi P tm f e = pSlice0 t x lo hi none P tm f e := by
  have hlo : ∀ h g, loSl lo tm h g e = optK (match optEv tm lo with | some none => some 0 | some (some v) => upTo v h | none => none) g e := by
    intro h g
    cases lo with
    | none => rfl
    | some y =>
      show evK y tm (fun v => upK v h g e) e = _
      simp only [evK_eq, upK_eq, optEv]
      cases ev tm y <;> rfl
  have hhi : ∀ m g, hiSl hi none tm len m g e = optK (match optEv tm hi with | some none => some len | some (some v) => upTo v m | none => none) g e := by
    intro m g
    cases hi with
    | none => rfl
    | some y =>
      show evK y tm (fun v => upK v m g e) e = _
      simp only [evK_eq, upK_eq, optEv]
      cases ev tm y <;> rfl
  unfold pSliceZ pSlice0
  simp only [hlo, hhi, hx]
  have hS : ∀ a b, sliceV P t (.fz c len) a b none = (match slSize P t, bounds len len a b none with
      | some n, some (l, h, m) => some (.fz ((c.drop (l * n)).take ((h - l) * n)) (h - l))
      | _, _ => none) := by
    intro a b
    unfold sliceV slSize
    cases P.underlying t with
    | none => rfl
    | some d =>
      cases d <;> rfl
  have hE : optEv tm none = some none := rfl
  simp only [hE]
  cases hlv : optEv tm lo with
  | none =>
    cases hhv : optEv tm hi with
    | none => cases slSize P t <;> rfl
    | some b =>
      cases slSize P t with
      | none => rfl
      | some n => cases b with
        | none => rfl
        | some b => show optK (upTo b len) _ e = _; cases upTo b len <;> rfl
  | some a =>
    cases hhv : optEv tm hi with
    | none => cases slSize P t <;> rfl
    | some b =>
      simp only [hS]
      cases slSize P t with
      | none => cases bounds len len a b none <;> rfl
      | some n =>
        cases b with
        | none => cases a with
          | none => rfl
          | some a => rw [bounds_100]; show optK (upTo a len) _ e = _; cases upTo a len <;> rfl
        | some b => cases a with
          | none => rw [bounds_010]; show optK (upTo b len) _ e = _; cases upTo b len <;> rfl
          | some a =>
            rw [bounds_110]
            show optK (upTo b len) _ e = _
            cases upTo b len with
            | none => rfl
            | some h =>
              show optK (upTo a h) _ e = _
              cases hq : upTo a h with
              | none => simp only [hq]; rfl
              | some l => simp only [hq]; rfl
noncomputable def pSlice (t : TypeId) (x : Operand) (lo hi mx : Option Operand) (P : Program) (tm : Tm) (f : AV → β) (e : β) : β :=
  evK x tm (fun v => eSlice v (fun p off len cap soft => optK (slSize P t) (fun n => mxSl mx tm cap (fun m => hiSl hi mx tm len m (fun h => loSl lo tm h (fun l =>
    f (.slice p (Nat.add off (Nat.mul l n)) (Nat.sub h l) (Nat.sub m l) (softSl mx soft))) e) e) e) e) (eFz v (fun c len => @Option.rec Operand (fun _ => β) (pSliceZ t c len lo hi P tm f e) (fun _ => pSlice0 t x lo hi mx P tm f e) mx) (pSlice0 t x lo hi mx P tm f e))) e
theorem pSlice_eq (t : TypeId) (x : Operand) (lo hi mx : Option Operand) (P : Program) (tm : Tm) (f : AV → β) (e : β) : pSlice t x lo hi mx P tm f e = pSlice0 t x lo hi mx P tm f e := by
  unfold pSlice
  rw [evK_eq]
  cases hx : ev tm x with
  | none => simp [pSlice0, hx, optK]
  | some v =>
    cases v <;> first | rfl | skip
    case fz c len =>
      show @Option.rec Operand (fun _ => β) (pSliceZ t c len lo hi P tm f e) (fun _ => pSlice0 t x lo hi mx P tm f e) mx = _
      cases mx with
      | none => exact pSliceZ_eq hx f e
      | some _ => rfl
    rename_i p off len cap soft
    show optK (slSize P t) (fun n => mxSl mx tm cap (fun m => hiSl hi mx tm len m (fun h => loSl lo tm h (fun l => f (.slice p (Nat.add off (Nat.mul l n)) (Nat.sub h l) (Nat.sub m l) (softSl mx soft))) e) e) e) e = _
    unfold pSlice0
    simp only [hx]
    have hM : (match some (AV.slice p off len cap soft), optEv tm lo, optEv tm hi, optEv tm mx with | some v, some a, some b, some c => sliceV P t v a b c | _, _, _, _ => none) =
        (match optEv tm lo, optEv tm hi, optEv tm mx with | some a, some b, some c => sliceV P t (.slice p off len cap soft) a b c | _, _, _ => none) := by
      cases optEv tm lo <;> cases optEv tm hi <;> cases optEv tm mx <;> rfl
    rw [hM]
    have hlo : ∀ h g, loSl lo tm h g e = optK (match optEv tm lo with | some none => some 0 | some (some v) => upTo v h | none => none) g e := by
      intro h g
      cases lo with
      | none => rfl
      | some y =>
        show evK y tm (fun v => upK v h g e) e = _
        simp only [evK_eq, upK_eq, optEv]
        cases ev tm y <;> rfl
    have hmx : ∀ g, mxSl mx tm cap g e = optK (match optEv tm mx with | some none => some cap | some (some v) => upTo v cap | none => none) g e := by
      intro g
      cases mx with
      | none => rfl
      | some y =>
        show evK y tm (fun v => upK v cap g e) e = _
        simp only [evK_eq, upK_eq, optEv]
        cases ev tm y <;> rfl
    have hhi : ∀ m g, hiSl hi mx tm len m g e = optK (match optEv tm hi, mx with | some none, none => some len | some none, some _ => none | some (some v), _ => upTo v m | none, _ => none) g e := by
      intro m g
      cases hi with
      | none => cases mx <;> rfl
      | some y =>
        show evK y tm (fun v => upK v m g e) e = _
        simp only [evK_eq, upK_eq, optEv]
        cases ev tm y <;> rfl
    simp only [hlo, hmx, hhi]
    have hmn : optEv tm mx = some none → mx = none := fun h => by
      cases mx with
      | none => rfl
      | some y => simp only [optEv] at h; split at h <;> cases h
    have hms : ∀ u, optEv tm mx = some (some u) → ∃ y, mx = some y := fun u h => by
      cases mx with
      | none => simp [optEv] at h
      | some y => exact ⟨y, rfl⟩
    cases hu : P.underlying t with
    | none =>
      have hz : slSize P t = none := by simp [slSize, hu]
      have hS : ∀ a b c, sliceV P t (.slice p off len cap soft) a b c = none := fun a b c => by simp [sliceV, hu]
      simp only [hz, hS]
      cases optEv tm lo <;> cases optEv tm hi <;> cases optEv tm mx <;> rfl
    | some d =>
      have other : slSize P t = none → (∀ a b c, sliceV P t (.slice p off len cap soft) a b c = none) → optK (slSize P t) (fun n => optK (match optEv tm mx with | some none => some cap | some (some v) => upTo v cap | none => none) (fun m => optK (match optEv tm hi, mx with | some none, none => some len | some none, some _ => none | some (some v), _ => upTo v m | none, _ => none) (fun h => optK (match optEv tm lo with | some none => some 0 | some (some v) => upTo v h | none => none) (fun l => f (.slice p (Nat.add off (Nat.mul l n)) (Nat.sub h l) (Nat.sub m l) (softSl mx soft))) e) e) e) e = optK (match optEv tm lo, optEv tm hi, optEv tm mx with | some a, some b, some c => sliceV P t (.slice p off len cap soft) a b c | _, _, _ => none) f e := by
        intro hz hS
        simp only [hz, hS]
        cases optEv tm lo <;> cases optEv tm hi <;> cases optEv tm mx <;> rfl
      cases d <;> first | (refine other ?_ (fun a b c => ?_) <;> first | (simp [slSize, hu]; done) | (simp [sliceV, hu]; done)) | skip
      rename_i el
      have hz : slSize P t = sizeT P el := by simp [slSize, hu]
      have hS : ∀ a b c, sliceV P t (.slice p off len cap soft) a b c = match sizeT P el, bounds len cap a b c with
          | some n, some (l, h, m) => some (.slice p (off + l * n) (h - l) (m - l) (match c with | some _ => false | none => soft))
          | _, _ => none := fun a b c => by
            unfold sliceV; rw [hu]
            simp only
            cases sizeT P el with
            | none => rfl
            | some n => cases bounds len cap a b c <;> rfl
      simp only [hz, hS]
      cases hse : sizeT P el with
      | none => cases optEv tm lo <;> cases optEv tm hi <;> cases optEv tm mx <;> rfl
      | some n =>
        show optK (match optEv tm mx with | some none => some cap | some (some v) => upTo v cap | none => none) _ e = _
        cases e3 : optEv tm mx with
        | none => cases optEv tm lo <;> cases optEv tm hi <;> rfl
        | some c =>
          cases c with
          | none =>
            have := hmn e3; subst this
            cases optEv tm hi with
            | none => cases optEv tm lo <;> rfl
            | some b =>
              cases b with
              | none =>
                cases optEv tm lo with
                | none => rfl
                | some a => cases a with
                  | none => rfl
                  | some u => simp only [bounds_100]; cases h1 : upTo u len <;> simp [optK, h1] <;> rfl
              | some b =>
                cases optEv tm lo with
                | none => cases h1 : upTo b cap <;> simp [optK, h1]
                | some a =>
                  cases a with
                  | none => simp only [bounds_010]; cases h1 : upTo b cap <;> simp [optK, h1] <;> rfl
                  | some u =>
                    simp only [bounds_110]
                    cases h1 : upTo b cap with
                    | none => simp [optK, h1]
                    | some h => cases h2 : upTo u h <;> simp [optK, h1, h2] <;> rfl
          | some c =>
            obtain ⟨y, rfl⟩ := hms c e3
            cases optEv tm hi with
            | none => cases h1 : upTo c cap <;> cases optEv tm lo <;> simp [optK, h1]
            | some b =>
              cases b with
              | none => cases optEv tm lo <;> cases h1 : upTo c cap <;> simp [bounds_x01, optK, h1]
              | some b =>
                cases optEv tm lo with
                | none =>
                  cases h1 : upTo c cap with
                  | none => simp [optK, h1]
                  | some m => cases h2 : upTo b m <;> simp [optK, h1, h2]
                | some a =>
                  cases a with
                  | none =>
                    simp only [bounds_011]
                    cases h1 : upTo c cap with
                    | none => simp [optK, h1]
                    | some m => cases h2 : upTo b m <;> simp [optK, h1, h2] <;> rfl
                  | some u =>
                    simp only [bounds_111]
                    cases h1 : upTo c cap with
                    | none => simp [optK, h1]
                    | some m => cases h2 : upTo b m with
                      | none => simp [optK, h1, h2]
                      | some h => cases h3 : upTo u h <;> simp [optK, h1, h2, h3] <;> rfl
noncomputable def pCall (c : Call) (P : Program) (tm : Tm) (f : AV → β) (e : β) : β := optK (match c with
  | { callee := .builtin .len, args, argTypes } => match args[0]?, argTypes[0]? with
    | some x, some t => match ev tm x, P.underlying t with
      | some (.slice _ _ n _ _), some (.slice _) => some (.int .i64 (.ofNat n))
      | some .nils, some (.slice _) => some (.int .i64 0)
      | some (.osl lo hi), some (.slice _) => some (.rng lo hi)
      | some (.fz _ n), some (.slice _) => some (.int .i64 (.ofNat n))
      | some .e0, some (.slice _) => some (.int .i64 0)
      | some (.str l), some .string => some (.int .i64 (.ofNat l.length))
      | some _, some (.array n _) => some (.int .i64 (.ofNat n))
      | _, _ => none
    | _, _ => none
  | { callee := .builtin .cap, args, argTypes } => match args[0]?, argTypes[0]? with
    | some x, some t => match ev tm x, P.underlying t with
      | some (.slice _ _ _ c false), some (.slice _) => some (.int .i64 (.ofNat c))
      | some (.slice _ _ _ c true), some (.slice _) => some (.ge c)
      | some .nils, some (.slice _) => some (.int .i64 0)
      | some (.fz _ n), some (.slice _) => some (.ge n)
      | some .e0, some (.slice _) => some (.int .i64 0)
      | some _, some (.array n _) => some (.int .i64 (.ofNat n))
      | _, _ => none
    | _, _ => none
  | { callee := .builtin .max, args, .. } => match evs tm args.toList with | some l => minMaxV true l | none => none
  | { callee := .builtin .min, args, .. } => match evs tm args.toList with | some l => minMaxV false l | none => none
  | _ => none) f e
/-- Is a call one of a function value? -/
noncomputable def callsValue (c : Call) : Bool := @Callee.rec (fun _ => Bool) (fun _ => true) (fun _ _ => true) (fun _ => false) c.callee
noncomputable def pCallF (c : Call) (P : Program) (tm : Tm) (f : AV → β) (e : β) : β := boolK (callsValue c) e (pCall c P tm f e)

noncomputable def purF : Op → Program → Tm → (AV → β) → β → β :=
  @Op.rec (fun _ => Program → Tm → (AV → β) → β → β)
    pMove pMove pPick (fun _ _ _ _ e => e) (fun _ _ _ _ _ e => e) pBuild (fun _ _ _ _ _ _ e => e) (fun _ _ _ _ _ _ _ e => e) (fun _ _ _ _ _ e => e) (fun _ _ _ _ _ _ e => e) (fun _ _ _ _ e => e) (fun _ _ _ _ e => e) pNil pBin pUn pConv (fun _ _ _ _ _ e => e) pIface pFunc (fun _ _ _ _ _ e => e) (fun _ _ _ _ _ e => e) (fun _ _ _ _ _ _ e => e) pSlice pFieldAddr pField pIndexAddr pIndex (fun _ _ _ _ _ _ _ e => e) (fun _ _ _ _ _ _ _ e => e) (fun _ _ _ _ _ _ e => e) (fun _ _ _ _ _ _ _ e => e) (fun _ _ _ _ _ e => e) (fun _ _ _ _ _ e => e) (fun _ _ _ _ e => e) pAssert pExtract pCallF (fun _ _ _ _ e => e) (fun _ _ _ _ e => e) (fun _ _ _ _ e => e) (fun _ _ _ _ _ e => e) (fun _ _ _ _ _ _ e => e) (fun _ _ _ _ _ e => e)

theorem purF_eq (op : Op) (P : Program) (tm : Tm) (f : AV → β) (e : β) : purF op P tm f e = optK (pureV P tm op) f e := by
  cases op with
  | move x => exact evK_eq _ _ _ _
  | assign x => exact evK_eq _ _ _ _
  | pick c a b =>
    show pPick c a b P tm f e = _
    simp only [pPick, evK_eq, pureV]
    cases ev tm c with
    | none => rfl
    | some v => cases v <;> first | rfl | (rename_i q; cases q <;> rfl)
  | binOp op t x y yt =>
    show pBin op t x y yt P tm f e = _
    simp only [pBin, evK_eq, pureV]
    cases ev tm x with
    | none => rfl
    | some a =>
      cases hy : ev tm y with
      | none => rfl
      | some b =>
        show eInt a (fun k m => eInt b (fun k' n => intF op k m k' n f e) (optK (binV P op t x y a b) f e))
          (eAgg a (fun xs => eAgg b (fun ys => optK (eqOp op) (fun r => optK (arInts P t) (fun n => optK (cmpN n xs ys) (fun q => f (.bool (boolK r q (!q)))) (optK (binV P op t x y a b) f e)) (optK (stInts P t) (fun n => optK (cmpN n xs ys) (fun q => f (.bool (boolK r q (!q)))) e) (optK (binV P op t x y a b) f e))) (optK (binV P op t x y a b) f e)) (optK (binV P op t x y a b) f e)) (optK (binV P op t x y a b) f e)) = optK (binV P op t x y a b) f e
        cases a <;> first | rfl | skip
        · cases b <;> first | rfl | skip
          exact intF_eq P op t x y _ _ _ _ f e
        · rename_i xs
          cases b <;> first | rfl | skip
          rename_i ys
          show optK (eqOp op) (fun r => optK (arInts P t) (fun n => optK (cmpN n xs ys) (fun q => f (.bool (boolK r q (!q)))) (optK (binV P op t x y (.agg xs) (.agg ys)) f e)) (optK (stInts P t) (fun n => optK (cmpN n xs ys) (fun q => f (.bool (boolK r q (!q)))) e) (optK (binV P op t x y (.agg xs) (.agg ys)) f e))) (optK (binV P op t x y (.agg xs) (.agg ys)) f e) = _
          cases hop : eqOp op with
          | none => rfl
          | some r =>
            cases har : arInts P t with
            | none =>
              cases hst : stInts P t with
              | none => rfl
              | some n =>
                show optK (cmpN n xs ys) (fun q => f (.bool (boolK r q (!q)))) e = _
                rw [stInts_eq hst op r hop]
                cases cmpN n xs ys <;> rfl
            | some n =>
              show optK (cmpN n xs ys) (fun q => f (.bool (boolK r q (!q)))) (optK (binV P op t x y (.agg xs) (.agg ys)) f e) = _
              rw [arInts_eq har op r hop]
              cases cmpN n xs ys <;> rfl
  | unOp op t x =>
    show pUn op t x P tm f e = _
    simp only [pUn, evK_eq, pureV]
    cases ev tm x <;> rfl
  | convert s d x =>
    show pConv s d x P tm f e = _
    simp only [pConv, evK_eq, pureV]
    cases ev tm x with
    | none => rfl
    | some a =>
      show optK (cvKind P s d) (fun k => eInt a (fun _ n => f (.int k (wrapK k n))) (optK (convV P s d a) f e)) (optK (convV P s d a) f e) = optK (convV P s d a) f e
      cases hc : cvKind P s d with
      | none => rfl
      | some k =>
        cases a <;> first | rfl | skip
        rename_i j n
        show f _ = _
        unfold cvKind at hc
        split at hc
        · rename_i ds hs
          split at hc
          · rename_i hd; cases hc; simp only [convV, hs, hd]; rfl
          · cases hc
        · cases hc
  | nilCheck x =>
    show pNil x P tm f e = _
    simp only [pNil, evK_eq, pureV]
    cases ev tm x with
    | none => rfl
    | some a => cases a <;> rfl
  | fieldAddr t x i =>
    show pFieldAddr t x i P tm f e = _
    simp only [pFieldAddr, evK_eq, pureV]
    cases ev tm x with
    | none => rfl
    | some a =>
      show ePtr a _ (eFp a _ (optK (fieldAddrV P t a i) f e)) = optK (fieldAddrV P t a i) f e
      cases a <;> first | rfl | skip
      · rename_i p off
        show optK (fOff P t i) (fun o => f (.ptr p (Nat.add off o))) e = _
        unfold fOff fieldAddrV
        cases P.underlying t with
        | none => rfl
        | some d =>
          cases d <;> first | rfl | skip
          rename_i fs
          simp only
          cases fs[i]? with
          | none => rfl
          | some fd =>
            simp only
            cases sizeT P fd.type with
            | none => rfl
            | some n => cases n <;> rfl
      · rename_i p off
        show optK (fOff P t i) (fun o => f (.fp p (Nat.add off o))) e = _
        unfold fOff fieldAddrV
        cases P.underlying t with
        | none => rfl
        | some d =>
          cases d <;> first | rfl | skip
          rename_i fs
          simp only
          cases fs[i]? with
          | none => rfl
          | some fd =>
            simp only
            cases sizeT P fd.type with
            | none => rfl
            | some n => cases n <;> rfl
  | indexAddr t x i =>
    show pIndexAddr t x i P tm f e = _
    simp only [pIndexAddr, evK_eq, pureV]
    cases ev tm x with
    | none => rfl
    | some a =>
      cases ev tm i with
      | none => rfl
      | some j =>
        show eInt j _ e = optK (indexAddrV P t a j) f e
        cases j <;> first | (rw [indexAddr_none fun _ => rfl]; rfl) | skip
        rename_i k n
        cases n with
        | negSucc m => rw [indexAddr_none fun _ => rfl]; rfl
        | ofNat m =>
          show eSlice a (fun p off len _ _ => optK (slSize P t) (fun s => boolK (Nat.blt m len) (f (.ptr p (Nat.add off (Nat.mul m s)))) e) e)
            (ePtr a (fun p off => optK (arLen P t) (fun len => optK (arSize P t) (fun s => boolK (Nat.blt m len) (f (.ptr p (Nat.add off (Nat.mul m s)))) e) e) e) (eFz a (fun l len => optK (slSize P t) (fun s => boolK (Nat.blt m len) (f (.fp l (Nat.mul m s))) e) e) (optK (indexAddrV P t a (.int k (.ofNat m))) f e))) = _
          cases a <;> first | rfl | skip
          · rename_i p off
            show optK (arLen P t) (fun len => optK (arSize P t) (fun s => boolK (Nat.blt m len) (f (.ptr p (Nat.add off (Nat.mul m s)))) e) e) e = _
            unfold arLen arSize indexAddrV
            cases P.underlying t with
            | none => rfl
            | some d =>
              cases d <;> first | rfl | skip
              rename_i len el
              simp only [below]
              cases sizeT P el with
              | none => rfl
              | some s => cases hb : Nat.blt m len <;> simp [optK, boolK, hb]
          · rename_i p off len cap soft
            show optK (slSize P t) (fun s => boolK (Nat.blt m len) (f (.ptr p (Nat.add off (Nat.mul m s)))) e) e = _
            unfold slSize indexAddrV
            cases P.underlying t with
            | none => rfl
            | some d =>
              cases d <;> first | rfl | skip
              rename_i el
              simp only [below]
              cases sizeT P el with
              | none => rfl
              | some s => cases hb : Nat.blt m len <;> simp [optK, boolK]
          · rename_i l len
            show optK (slSize P t) (fun s => boolK (Nat.blt m len) (f (.fp l (Nat.mul m s))) e) e = _
            unfold slSize indexAddrV
            cases P.underlying t with
            | none => rfl
            | some d =>
              cases d <;> first | rfl | skip
              rename_i el
              simp only [below]
              cases sizeT P el with
              | none => rfl
              | some s => cases hb : Nat.blt m len <;> simp [optK, boolK]
  | extract t i =>
    show pExtract t i P tm f e = _
    simp only [pExtract, evK_eq, pureV]
    cases ev tm t with
    | none => rfl
    | some a => cases a <;> first | rfl | exact nthK_eq _ _ _ _
  | index t x i =>
    show pIndex t x i P tm f e = _
    simp only [pIndex, evK_eq, pureV]
    cases ev tm x with
    | none => rfl
    | some a => cases ev tm i <;> rfl
  | typeAssert x t a ok =>
    show pAssert x t a ok P tm f e = _
    simp only [pAssert, evK_eq, pureV]
    cases ev tm x <;> rfl
  | makeFunc g first captured => cases g <;> rfl
  | build t ps => exact pBuild_eq t ps P tm f e
  | slice t x lo hi mx => exact pSlice_eq t x lo hi mx P tm f e
  | call c =>
    obtain ⟨callee, args, ats⟩ := c
    cases callee with
    | value g => rfl
    | invoke r m => rfl
    | builtin b => cases b <;> rfl
  | _ => rfl

end
end Go.AM
