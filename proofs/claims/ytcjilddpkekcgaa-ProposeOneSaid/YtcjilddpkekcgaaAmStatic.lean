/-
  THE MACHINE 'AM': WHAT A REGION THAT DRAWS ITS ORDER IS ASKED AHEAD: an order in which to run it, and that no other order can tell.
-/
import Derived.Test.YtcjilddpkekcgaaAmOps
namespace Go.AM

/-- 0: it touches no memory · 1: it reads · 2: it makes a block · 3: it may do more. -/
def clsOp (P : Program) : Op → Nat
  | .move _ | .assign _ | .pick .. | .binOp .. | .unOp .. | .makeInterface .. | .makeFunc .. | .nilCheck _ | .build .. | .slice .. | .fieldAddr .. | .field .. | .indexAddr .. | .index .. | .typeAssert .. | .extract .. => 0
  | .convert s d _ => match P.underlying s, P.underlying d with
    | some (.slice _), _ => 1
    | _, some (.slice _) => 3
    | some (.pointer _), some .unsafePointer => 1
    | _, _ => 0
  | .call { callee := .builtin .len, argTypes, .. } => match argTypes[0]? with
    | some t => match P.underlying t with | some (.map ..) => 1 | _ => 0
    | none => 0
  | .call { callee := .builtin .cap, .. } | .call { callee := .builtin .max, .. } | .call { callee := .builtin .min, .. } => 0
  | .load .. | .lookup .. => 1
  | .alloc _ | .box .. | .buildSlice .. | .makeSlice .. => 2
  | _ => 3

noncomputable def maskOf (t : PT Nat) (l : List Edge) : Nat :=
  List.rec (motive := fun _ => Nat) 0 (fun e _ ih => match Region.binds .any e with
    | true => Nat.lor (Nat.lor ih (Nat.shiftLeft 1 e.on)) (match t.get (Pos.ofNat e.on) with | some m => m | none => 0)
    | false => ih) l

/-- Who stands ahead of whom: a mask an operation. -/
noncomputable def ancs (l : List Oper) : Nat → PT Nat → PT Nat :=
  List.rec (motive := fun _ => Nat → PT Nat → PT Nat) (fun _ t => t)
    (fun o _ ih j t => Nat.rec (motive := fun _ => PT Nat) (PT.putK (some 0) (Pos.ofNat j) t fun t => ih (Nat.succ j) t)
      (fun m _ => PT.putK (some (Nat.succ m)) (Pos.ofNat j) t fun t => ih (Nat.succ j) t) (maskOf t o.after.toList)) l

structure ROp where
  i : Nat
  o : Oper
  cls : Nat
  anc : Nat

noncomputable def rops (P : Program) (t : PT Nat) : List Oper → Nat → List ROp
  | [], _ => []
  | o :: l, i => ⟨i, o, clsOp P o.op, match t.get (Pos.ofNat i) with | some m => m | none => 0⟩ :: rops P t l (i + 1)

def effMask : List ROp → Nat
  | [] => 0
  | x :: l => if Nat.beq x.cls 3 then Nat.lor (effMask l) (Nat.shiftLeft 1 x.i) else effMask l

/-- Those that wait for no effect of 'rem', and the others. -/
def parted (rem : Nat) : List ROp → List ROp × List ROp
  | [] => ([], [])
  | x :: l => let (a, b) := parted rem l
    if Nat.beq (Nat.land x.anc rem) 0 then (x :: a, b) else (a, x :: b)

def ordered : List ROp → Nat → List ROp → List ROp
  | [], _, rest => rest
  | e :: es, rem, rest => let (a, b) := parted rem rest
    a ++ e :: ordered es (Nat.xor rem (Nat.shiftLeft 1 e.i)) b

def maskIn (l : List Edge) (done : Nat) : Bool :=
  l.all fun e => !Region.binds .any e || Nat.testBit done e.on

/-- What binds stands ahead in the text. -/
def backIn (l : List Edge) (i : Nat) : Bool := l.all fun e => !Region.binds .any e || Nat.blt e.on i

/-- The order: each one behind all that it waits for, and behind all effects that stand ahead of it in the order. -/
def ordOk (ops : Array Oper) : List ROp → (done eff : Nat) → Bool
  | [], done, _ => Nat.beq done (Nat.sub (Nat.shiftLeft 1 ops.size) 1)
  | x :: l, done, eff =>
    Nat.blt x.i ops.size && !Nat.testBit done x.i && maskIn x.o.after.toList done && backIn x.o.after.toList x.i && Nat.beq (Nat.land eff x.anc) eff &&
      ordOk ops l (Nat.lor done (Nat.shiftLeft 1 x.i)) (if Nat.beq x.cls 3 then Nat.lor eff (Nat.shiftLeft 1 x.i) else eff)

def tmpsOf : List Operand → List Tmp
  | [] => []
  | .tmp t :: l => t :: tmpsOf l
  | _ :: l => tmpsOf l

/-- Which temporaries an operation looks at: its operands, and its guard's. -/
def readsOf (ops : Array Oper) (o : Oper) : List Tmp :=
  tmpsOf o.op.operands.toList ++ (match o.guard with
    | some (j, _) => match (ops[j]?).bind (·.dst) with | some d => [d] | none => []
    | none => [])

/-- Who writes which temporary; none: two write one. -/
noncomputable def writers : List ROp → PT Nat → Option (PT Nat)
  | [], t => some t
  | x :: l, t => match x.o.dst with
    | none => writers l t
    | some d => match t.get (Pos.ofNat d) with
      | some _ => none
      | none => writers l (PT.put (some x.i) (Pos.ofNat d) t)

noncomputable def namesOk (ops : Array Oper) (anc wr : PT Nat) : List ROp → Bool
  | [] => true
  | x :: l => ((readsOf ops x.o).all fun t => match wr.get (Pos.ofNat t) with
      | none => true
      | some i => Nat.beq i x.i || Nat.testBit x.anc i || (match anc.get (Pos.ofNat i) with | some m => Nat.testBit m x.i | none => false)) && namesOk ops anc wr l

/-- The order in which a region is run; none: it is not served. -/
noncomputable def regOrd (P : Program) (ops : Array Oper) : Option (List ROp) :=
  let t := ancs ops.toList 0 .leaf
  let l := rops P t ops.toList 0
  let es := l.filter fun x => Nat.beq x.cls 3
  let ord := ordered es (effMask l) (l.filter fun x => !Nat.beq x.cls 3)
  match writers l .leaf with
  | some wr => if ordOk ops ord 0 0 && namesOk ops t wr l then some ord else none
  | none => none

end Go.AM
