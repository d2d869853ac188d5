/-
  THE MACHINE 'AM', QUICK: looks at values with closed arms; what is handed on is the same. Written by wip/tools/fastgen.py.
-/
import Derived.Test.YtcjilddpkekcgaaAmExec
namespace Go.AM
section
variable {β : Type}

noncomputable def eBool : AV → (Bool → β) → β → β :=
  @AV.rec (fun _ => (Bool → β) → β → β) (fun _ => PUnit)
    (fun b f _ => f b)
    (fun _ _ _ e => e)
    (fun _ _ e => e)
    (fun _ e => e)
    (fun _ _ _ e => e)
    (fun _ e => e)
    (fun _ _ _ _ _ _ e => e)
    (fun _ e => e)
    (fun _ _ e => e)
    (fun _ e => e)
    (fun _ _ _ _ _ _ e => e)
    (fun _ _ e => e)
    (fun _ e => e)
    (fun _ _ _ _ e => e)
    (fun _ _ _ e => e)
    (fun _ _ _ e => e)
    (fun _ _ e => e)
    (fun _ _ _ e => e)
    (fun _ _ e => e)
    (fun _ _ _ e => e)
    (fun _ _ _ e => e)
    (fun _ e => e)
    (fun _ _ _ _ e => e)
    (fun _ _ _ _ e => e)
    (fun _ e => e)
    (fun _ e => e)
    PUnit.unit (fun _ _ _ _ => PUnit.unit)
theorem eBool_eq (v : AV) (f : Bool → β) (e : β) : eBool v f e = (match v with | .bool b => f b | _ => e) := by cases v <;> rfl

noncomputable def eInt : AV → (IntKind → Int → β) → β → β :=
  @AV.rec (fun _ => (IntKind → Int → β) → β → β) (fun _ => PUnit)
    (fun _ _ e => e)
    (fun k n f _ => f k n)
    (fun _ _ e => e)
    (fun _ e => e)
    (fun _ _ _ e => e)
    (fun _ e => e)
    (fun _ _ _ _ _ _ e => e)
    (fun _ e => e)
    (fun _ _ e => e)
    (fun _ e => e)
    (fun _ _ _ _ _ _ e => e)
    (fun _ _ e => e)
    (fun _ e => e)
    (fun _ _ _ _ e => e)
    (fun _ _ _ e => e)
    (fun _ _ _ e => e)
    (fun _ _ e => e)
    (fun _ _ _ e => e)
    (fun _ _ e => e)
    (fun _ _ _ e => e)
    (fun _ _ _ e => e)
    (fun _ e => e)
    (fun _ _ _ _ e => e)
    (fun _ _ _ _ e => e)
    (fun _ e => e)
    (fun _ e => e)
    PUnit.unit (fun _ _ _ _ => PUnit.unit)
theorem eInt_eq (v : AV) (f : IntKind → Int → β) (e : β) : eInt v f e = (match v with | .int k n => f k n | _ => e) := by cases v <;> rfl

noncomputable def ePtr : AV → (Pos → Nat → β) → β → β :=
  @AV.rec (fun _ => (Pos → Nat → β) → β → β) (fun _ => PUnit)
    (fun _ _ e => e)
    (fun _ _ _ e => e)
    (fun _ _ e => e)
    (fun _ e => e)
    (fun p off f _ => f p off)
    (fun _ e => e)
    (fun _ _ _ _ _ _ e => e)
    (fun _ e => e)
    (fun _ _ e => e)
    (fun _ e => e)
    (fun _ _ _ _ _ _ e => e)
    (fun _ _ e => e)
    (fun _ e => e)
    (fun _ _ _ _ e => e)
    (fun _ _ _ e => e)
    (fun _ _ _ e => e)
    (fun _ _ e => e)
    (fun _ _ _ e => e)
    (fun _ _ e => e)
    (fun _ _ _ e => e)
    (fun _ _ _ e => e)
    (fun _ e => e)
    (fun _ _ _ _ e => e)
    (fun _ _ _ _ e => e)
    (fun _ e => e)
    (fun _ e => e)
    PUnit.unit (fun _ _ _ _ => PUnit.unit)
theorem ePtr_eq (v : AV) (f : Pos → Nat → β) (e : β) : ePtr v f e = (match v with | .ptr p off => f p off | _ => e) := by cases v <;> rfl

noncomputable def eSlice : AV → (Pos → Nat → Nat → Nat → Bool → β) → β → β :=
  @AV.rec (fun _ => (Pos → Nat → Nat → Nat → Bool → β) → β → β) (fun _ => PUnit)
    (fun _ _ e => e)
    (fun _ _ _ e => e)
    (fun _ _ e => e)
    (fun _ e => e)
    (fun _ _ _ e => e)
    (fun _ e => e)
    (fun p off len cap soft f _ => f p off len cap soft)
    (fun _ e => e)
    (fun _ _ e => e)
    (fun _ e => e)
    (fun _ _ _ _ _ _ e => e)
    (fun _ _ e => e)
    (fun _ e => e)
    (fun _ _ _ _ e => e)
    (fun _ _ _ e => e)
    (fun _ _ _ e => e)
    (fun _ _ e => e)
    (fun _ _ _ e => e)
    (fun _ _ e => e)
    (fun _ _ _ e => e)
    (fun _ _ _ e => e)
    (fun _ e => e)
    (fun _ _ _ _ e => e)
    (fun _ _ _ _ e => e)
    (fun _ e => e)
    (fun _ e => e)
    PUnit.unit (fun _ _ _ _ => PUnit.unit)
theorem eSlice_eq (v : AV) (f : Pos → Nat → Nat → Nat → Bool → β) (e : β) : eSlice v f e = (match v with | .slice p off len cap soft => f p off len cap soft | _ => e) := by cases v <;> rfl

noncomputable def eFunc : AV → (Pos → List AV → List AV → β) → β → β :=
  @AV.rec (fun _ => (Pos → List AV → List AV → β) → β → β) (fun _ => PUnit)
    (fun _ _ e => e)
    (fun _ _ _ e => e)
    (fun _ _ e => e)
    (fun _ e => e)
    (fun _ _ _ e => e)
    (fun _ e => e)
    (fun _ _ _ _ _ _ e => e)
    (fun _ e => e)
    (fun _ _ e => e)
    (fun _ e => e)
    (fun g a c _ _ f _ => f g a c)
    (fun _ _ e => e)
    (fun _ e => e)
    (fun _ _ _ _ e => e)
    (fun _ _ _ e => e)
    (fun _ _ _ e => e)
    (fun _ _ e => e)
    (fun _ _ _ e => e)
    (fun _ _ e => e)
    (fun _ _ _ e => e)
    (fun _ _ _ e => e)
    (fun _ e => e)
    (fun _ _ _ _ e => e)
    (fun _ _ _ _ e => e)
    (fun _ e => e)
    (fun _ e => e)
    PUnit.unit (fun _ _ _ _ => PUnit.unit)
theorem eFunc_eq (v : AV) (f : Pos → List AV → List AV → β) (e : β) : eFunc v f e = (match v with | .func g a c => f g a c | _ => e) := by cases v <;> rfl

noncomputable def eAgg : AV → (List AV → β) → β → β :=
  @AV.rec (fun _ => (List AV → β) → β → β) (fun _ => PUnit)
    (fun _ _ e => e)
    (fun _ _ _ e => e)
    (fun _ _ e => e)
    (fun _ e => e)
    (fun _ _ _ e => e)
    (fun _ e => e)
    (fun _ _ _ _ _ _ e => e)
    (fun _ e => e)
    (fun _ _ e => e)
    (fun _ e => e)
    (fun _ _ _ _ _ _ e => e)
    (fun _ _ e => e)
    (fun _ e => e)
    (fun _ _ _ _ e => e)
    (fun l _ f _ => f l)
    (fun _ _ _ e => e)
    (fun _ _ e => e)
    (fun _ _ _ e => e)
    (fun _ _ e => e)
    (fun _ _ _ e => e)
    (fun _ _ _ e => e)
    (fun _ e => e)
    (fun _ _ _ _ e => e)
    (fun _ _ _ _ e => e)
    (fun _ e => e)
    (fun _ e => e)
    PUnit.unit (fun _ _ _ _ => PUnit.unit)
theorem eAgg_eq (v : AV) (f : List AV → β) (e : β) : eAgg v f e = (match v with | .agg l => f l | _ => e) := by cases v <;> rfl

noncomputable def eTup : AV → (List AV → β) → β → β :=
  @AV.rec (fun _ => (List AV → β) → β → β) (fun _ => PUnit)
    (fun _ _ e => e)
    (fun _ _ _ e => e)
    (fun _ _ e => e)
    (fun _ e => e)
    (fun _ _ _ e => e)
    (fun _ e => e)
    (fun _ _ _ _ _ _ e => e)
    (fun _ e => e)
    (fun _ _ e => e)
    (fun _ e => e)
    (fun _ _ _ _ _ _ e => e)
    (fun _ _ e => e)
    (fun _ e => e)
    (fun _ _ _ _ e => e)
    (fun _ _ _ e => e)
    (fun l _ f _ => f l)
    (fun _ _ e => e)
    (fun _ _ _ e => e)
    (fun _ _ e => e)
    (fun _ _ _ e => e)
    (fun _ _ _ e => e)
    (fun _ e => e)
    (fun _ _ _ _ e => e)
    (fun _ _ _ _ e => e)
    (fun _ e => e)
    (fun _ e => e)
    PUnit.unit (fun _ _ _ _ => PUnit.unit)
theorem eTup_eq (v : AV) (f : List AV → β) (e : β) : eTup v f e = (match v with | .tup l => f l | _ => e) := by cases v <;> rfl

noncomputable def eStr : AV → (List Nat → β) → β → β :=
  @AV.rec (fun _ => (List Nat → β) → β → β) (fun _ => PUnit)
    (fun _ _ e => e)
    (fun _ _ _ e => e)
    (fun l f _ => f l)
    (fun _ e => e)
    (fun _ _ _ e => e)
    (fun _ e => e)
    (fun _ _ _ _ _ _ e => e)
    (fun _ e => e)
    (fun _ _ e => e)
    (fun _ e => e)
    (fun _ _ _ _ _ _ e => e)
    (fun _ _ e => e)
    (fun _ e => e)
    (fun _ _ _ _ e => e)
    (fun _ _ _ e => e)
    (fun _ _ _ e => e)
    (fun _ _ e => e)
    (fun _ _ _ e => e)
    (fun _ _ e => e)
    (fun _ _ _ e => e)
    (fun _ _ _ e => e)
    (fun _ e => e)
    (fun _ _ _ _ e => e)
    (fun _ _ _ _ e => e)
    (fun _ e => e)
    (fun _ e => e)
    PUnit.unit (fun _ _ _ _ => PUnit.unit)
theorem eStr_eq (v : AV) (f : List Nat → β) (e : β) : eStr v f e = (match v with | .str l => f l | _ => e) := by cases v <;> rfl

noncomputable def eIface : AV → (TypeId → AV → β) → β → β :=
  @AV.rec (fun _ => (TypeId → AV → β) → β → β) (fun _ => PUnit)
    (fun _ _ e => e)
    (fun _ _ _ e => e)
    (fun _ _ e => e)
    (fun _ e => e)
    (fun _ _ _ e => e)
    (fun _ e => e)
    (fun _ _ _ _ _ _ e => e)
    (fun _ e => e)
    (fun _ _ e => e)
    (fun _ e => e)
    (fun _ _ _ _ _ _ e => e)
    (fun _ _ e => e)
    (fun _ e => e)
    (fun t v _ f _ => f t v)
    (fun _ _ _ e => e)
    (fun _ _ _ e => e)
    (fun _ _ e => e)
    (fun _ _ _ e => e)
    (fun _ _ e => e)
    (fun _ _ _ e => e)
    (fun _ _ _ e => e)
    (fun _ e => e)
    (fun _ _ _ _ e => e)
    (fun _ _ _ _ e => e)
    (fun _ e => e)
    (fun _ e => e)
    PUnit.unit (fun _ _ _ _ => PUnit.unit)
theorem eIface_eq (v : AV) (f : TypeId → AV → β) (e : β) : eIface v f e = (match v with | .iface t v => f t v | _ => e) := by cases v <;> rfl

noncomputable def eFz : AV → (List AV → Nat → β) → β → β :=
  @AV.rec (fun _ => (List AV → Nat → β) → β → β) (fun _ => PUnit)
    (fun _ _ e => e)
    (fun _ _ _ e => e)
    (fun _ _ e => e)
    (fun _ e => e)
    (fun _ _ _ e => e)
    (fun _ e => e)
    (fun _ _ _ _ _ _ e => e)
    (fun _ e => e)
    (fun _ _ e => e)
    (fun _ e => e)
    (fun _ _ _ _ _ _ e => e)
    (fun _ _ e => e)
    (fun _ e => e)
    (fun _ _ _ _ e => e)
    (fun _ _ _ e => e)
    (fun _ _ _ e => e)
    (fun _ _ e => e)
    (fun _ _ _ e => e)
    (fun _ _ e => e)
    (fun _ _ _ e => e)
    (fun _ _ _ e => e)
    (fun _ e => e)
    (fun l n _ f _ => f l n)
    (fun _ _ _ _ e => e)
    (fun _ e => e)
    (fun _ e => e)
    PUnit.unit (fun _ _ _ _ => PUnit.unit)
theorem eFz_eq (v : AV) (f : List AV → Nat → β) (e : β) : eFz v f e = (match v with | .fz l n => f l n | _ => e) := by cases v <;> rfl

noncomputable def eFp : AV → (List AV → Nat → β) → β → β :=
  @AV.rec (fun _ => (List AV → Nat → β) → β → β) (fun _ => PUnit)
    (fun _ _ e => e)
    (fun _ _ _ e => e)
    (fun _ _ e => e)
    (fun _ e => e)
    (fun _ _ _ e => e)
    (fun _ e => e)
    (fun _ _ _ _ _ _ e => e)
    (fun _ e => e)
    (fun _ _ e => e)
    (fun _ e => e)
    (fun _ _ _ _ _ _ e => e)
    (fun _ _ e => e)
    (fun _ e => e)
    (fun _ _ _ _ e => e)
    (fun _ _ _ e => e)
    (fun _ _ _ e => e)
    (fun _ _ e => e)
    (fun _ _ _ e => e)
    (fun _ _ e => e)
    (fun _ _ _ e => e)
    (fun _ _ _ e => e)
    (fun _ e => e)
    (fun _ _ _ _ e => e)
    (fun l off _ f _ => f l off)
    (fun _ e => e)
    (fun _ e => e)
    PUnit.unit (fun _ _ _ _ => PUnit.unit)
theorem eFp_eq (v : AV) (f : List AV → Nat → β) (e : β) : eFp v f e = (match v with | .fp l off => f l off | _ => e) := by cases v <;> rfl

noncomputable def eCells : HObj → (List AV → Nat → Bool → β) → β → β :=
  @HObj.rec (fun _ => (List AV → Nat → Bool → β) → β → β) (fun c esz ro f _ => f c esz ro) (fun _ _ _ e => e) (fun _ _ _ _ _ _ _ _ _ _ e => e) (fun _ _ e => e) (fun _ _ _ e => e) (fun _ _ _ _ _ e => e)
theorem eCells_eq (o : HObj) (f : List AV → Nat → Bool → β) (e : β) : eCells o f e = (match o with | .cells c esz ro => f c esz ro | _ => e) := by cases o <;> rfl

/-- A value is forced and handed on. -/
noncomputable def fAVF : AV → (AV → β) → β :=
  @AV.rec (fun _ => (AV → β) → β) (fun _ => PUnit)
    (fun b k => fBool b fun b => k (.bool b))
    (fun k0 n k => fInt n fun n => k (.int k0 n))
    (fun l k => fNats l fun l => k (.str l))
    (fun k => k .nilp)
    (fun p off k => fNat off fun off => k (.ptr p off))
    (fun k => k .nils)
    (fun p off len cap soft k => fNat off fun off => fNat len fun len => fNat cap fun cap => k (.slice p off len cap soft))
    (fun k => k .nilm)
    (fun p k => k (.map p))
    (fun k => k .nilf)
    (fun g a c _ _ k => k (.func g a c))
    (fun l k => k (.yield l))
    (fun k => k .nili)
    (fun t v _ k => k (.iface t v))
    (fun l _ k => fList l fun l => k (.agg l))
    (fun l _ k => fList l fun l => k (.tup l))
    (fun i k => k (.opq i))
    (fun g off k => k (.gptr g off))
    (fun n k => k (.ge n))
    (fun lo hi k => k (.rng lo hi))
    (fun lo hi k => k (.osl lo hi))
    (fun k => k .any)
    (fun l n _ k => k (.fz l n))
    (fun l off _ k => k (.fp l off))
    (fun k => k .e0)
    (fun k => k .z1)
    PUnit.unit (fun _ _ _ _ => PUnit.unit)
theorem fAVF_eq (v : AV) (k : AV → β) : fAVF v k = fAV v k := by cases v <;> rfl

noncomputable def optK {α : Type} : Option α → (α → β) → β → β := @Option.rec α (fun _ => (α → β) → β → β) (fun _ e => e) (fun a f _ => f a)
theorem optK_eq {α : Type} (o : Option α) (f : α → β) (e : β) : optK o f e = (match o with | some a => f a | none => e) := by cases o <;> rfl
noncomputable def boolK : Bool → β → β → β := @Bool.rec (fun _ => β → β → β) (fun _ b => b) (fun a _ => a)
theorem boolK_eq (c : Bool) (a b : β) : boolK c a b = (match c with | true => a | false => b) := by cases c <;> rfl

/-- What stands at a place of a tree. -/
noncomputable def getK {α : Type} : Pos → PT α → (α → β) → β → β :=
  @Pos.rec (fun _ => PT α → (α → β) → β → β)
    (fun t f e => @PT.rec α (fun _ => (α → β) → β → β) (fun _ e => e) (fun _ x _ _ _ f e => optK x f e) t f e)
    (fun _ ih t f e => @PT.rec α (fun _ => (PT α → (α → β) → β → β) → (α → β) → β → β) (fun _ _ e => e) (fun l _ _ _ _ ih f e => ih l f e) t ih f e)
    (fun _ ih t f e => @PT.rec α (fun _ => (PT α → (α → β) → β → β) → (α → β) → β → β) (fun _ _ e => e) (fun _ _ r _ _ ih f e => ih r f e) t ih f e)
theorem getK_eq {α : Type} : ∀ (p : Pos) (t : PT α) (f : α → β) (e : β), getK p t f e = optK (t.get p) f e
  | .z, .leaf, _, _ => rfl
  | .z, .node _ _ _, _, _ => rfl
  | .l _, .leaf, _, _ => rfl
  | .l p, .node l _ _, f, e => getK_eq p l f e
  | .r _, .leaf, _, _ => rfl
  | .r p, .node _ _ r, f, e => getK_eq p r f e

noncomputable def nthK {α : Type} : List α → Nat → (α → β) → β → β :=
  @List.rec α (fun _ => Nat → (α → β) → β → β) (fun _ _ e => e) (fun a _ ih i f e => @Nat.rec (fun _ => (Nat → (α → β) → β → β) → α → (α → β) → β → β) (fun _ a f _ => f a) (fun i _ ih _ f e => ih i f e) i ih a f e)
theorem nthK_eq {α : Type} : ∀ (l : List α) (i : Nat) (f : α → β) (e : β), nthK l i f e = optK l[i]? f e
  | [], _, _, _ => rfl
  | _ :: _, 0, _, _ => rfl
  | _ :: l, i + 1, f, e => by
    show nthK l i f e = _
    rw [nthK_eq l i f e, List.getElem?_cons_succ]

/-- n values from the front. -/
noncomputable def frontK {α : Type} : Nat → List α → (List α → β) → β → β :=
  @Nat.rec (fun _ => List α → (List α → β) → β → β) (fun _ f _ => f []) (fun _ ih l f e => @List.rec α (fun _ => (List α → (List α → β) → β → β) → (List α → β) → β → β) (fun _ _ e => e) (fun a l _ ih f e => ih l (fun r => f (a :: r)) e) l ih f e)
theorem frontK_eq {α : Type} : ∀ (n : Nat) (l : List α) (f : List α → β) (e : β), frontK n l f e = if n ≤ l.length then f (l.take n) else e
  | 0, l, f, e => by show f [] = _; simp
  | n + 1, [], f, e => by show e = _; simp
  | n + 1, a :: l, f, e => by
    show frontK n l (fun r => f (a :: r)) e = _
    rw [frontK_eq n l]
    simp
/-- n values from a place on. -/
noncomputable def segK {α : Type} : Nat → List α → Nat → (List α → β) → β → β :=
  @Nat.rec (fun _ => List α → Nat → (List α → β) → β → β) (fun l n f e => frontK n l f e) (fun _ ih l n f e => @List.rec α (fun _ => (List α → Nat → (List α → β) → β → β) → Nat → (List α → β) → β → β) (fun _ n f e => @Nat.rec (fun _ => (List α → β) → β → β) (fun _ e => e) (fun _ _ _ e => e) n f e) (fun _ l _ ih n f e => ih l n f e) l ih n f e)
theorem segK_eq {α : Type} : ∀ (off : Nat) (l : List α) (n : Nat) (f : List α → β) (e : β), segK off l n f e = if off + n ≤ l.length then f ((l.drop off).take n) else e
  | 0, l, n, f, e => by show frontK n l f e = _; rw [frontK_eq]; simp
  | off + 1, [], n, f, e => by cases n <;> (show e = _; simp)
  | off + 1, a :: l, n, f, e => by
    show segK off l n f e = _
    rw [segK_eq off l]
    simp [Nat.add_right_comm]

noncomputable def evK : Operand → Tm → (AV → β) → β → β :=
  @Operand.rec (fun _ => Tm → (AV → β) → β → β) (fun t tm f e => getK (Pos.ofNat t) tm f e) (fun v _ f e => optK (ofConst v) f e) (fun g _ f _ => f (.gptr g 0)) (fun g _ f _ => f (.func (Pos.ofNat g) [] []))
theorem evK_eq (x : Operand) (tm : Tm) (f : AV → β) (e : β) : evK x tm f e = optK (ev tm x) f e := by
  cases x with
  | tmp t => exact getK_eq _ _ _ _
  | const v => rfl
  | global g => rfl
  | func g => rfl

noncomputable def evsK : List Operand → Tm → (List AV → β) → β → β :=
  @List.rec Operand (fun _ => Tm → (List AV → β) → β → β) (fun _ f _ => f []) (fun x _ ih tm f e => evK x tm (fun v => ih tm (fun l => f (v :: l)) e) e)
theorem evsK_eq : ∀ (l : List Operand) (tm : Tm) (f : List AV → β) (e : β), evsK l tm f e = optK (evs tm l) f e
  | [], _, _, _ => rfl
  | x :: l, tm, f, e => by
    show evK x tm (fun v => evsK l tm (fun l => f (v :: l)) e) e = _
    rw [evK_eq]
    simp only [evs]
    cases ev tm x with
    | none => rfl
    | some v =>
      show evsK l tm (fun l => f (v :: l)) e = _
      rw [evsK_eq l]
      simp only
      cases evs tm l <;> rfl

end
end Go.AM
