/-
  THE MACHINE 'AM': what its operations give. Each is a plain function of values; 'none': not served (or Go would panic).
-/
import Derived.Test.YtcjilddpkekcgaaAmData
namespace Go.AM

inductive HObj where
  /-- a row of cells; how many cells an element has; may it be written? -/
  | cells (c : List AV) (esz : Nat) (ro : Bool)
  | map (es : List (AV × AV × Nat)) (clock : Nat)
  | loop (st : LoopState) (pend : Option Code) (tm : PT AV) (fn : FuncId) (nt : Nat) (params : Array Tmp) (assign body : Code) (dfr : Pos)
  | dfr (isOpen : Bool)
  | siter (l : List Nat) (pos : Nat)
  | miter (m : Option Pos) (since : Nat) (seen : List Nat) (stepped : Nat)

structure H where
  next : Pos
  t : PT HObj
  /-- so many package variables stand at the first places -/
  ng : Nat
  /-- strict: what is read must look as its type says -/
  st : Bool

abbrev Tm := PT AV

/-! ### Small functions that the kernel reckons quickly -/
def ieq (x y : Int) : Bool :=
  match x, y with
  | .ofNat a, .ofNat b => Nat.beq a b
  | .negSucc a, .negSucc b => Nat.beq a b
  | _, _ => false
def ilt (x y : Int) : Bool :=
  match x, y with
  | .ofNat a, .ofNat b => Nat.blt a b
  | .negSucc _, .ofNat _ => true
  | .ofNat _, .negSucc _ => false
  | .negSucc a, .negSucc b => Nat.blt b a

theorem ieq_iff (x y : Int) : ieq x y = (x == y) := by
  cases x <;> cases y <;> simp only [ieq] <;> rw [Bool.eq_iff_iff] <;> simp <;> omega
theorem ilt_iff (x y : Int) : ilt x y = decide (x < y) := by
  cases x <;> cases y <;> simp only [ilt, Nat.blt] <;> rw [Bool.eq_iff_iff] <;> simp <;> omega

def IntKind.hi : IntKind → Nat
  | .i8 => 128 | .i16 => 32768 | .i32 => 2147483648 | .i64 => 9223372036854775808
  | .u8 => 256 | .u16 => 65536 | .u32 => 4294967296 | .u64 => 18446744073709551616
def IntKind.lo : IntKind → Nat
  | .i8 => 128 | .i16 => 32768 | .i32 => 2147483648 | .i64 => 9223372036854775808
  | .u8 | .u16 | .u32 | .u64 => 0
def inK (k : IntKind) (n : Int) : Bool :=
  match n with
  | .ofNat m => Nat.blt m (IntKind.hi k)
  | .negSucc m => Nat.blt m (IntKind.lo k)
def wrapK (k : IntKind) (n : Int) : Int :=
  match inK k n with
  | true => n
  | false =>
    match n, k with
    | .ofNat m, .u8 | .ofNat m, .u16 | .ofNat m, .u32 | .ofNat m, .u64 => .ofNat (Nat.mod m (IntKind.hi k))
    | _, _ => k.wrap n

def natPart (x : Int) : Option Nat := match x with | .ofNat n => some n | .negSucc _ => none

/-- A list of numbers against another. -/
noncomputable def lbeq (x y : List Nat) : Bool :=
  List.rec (motive := fun _ => List Nat → Bool) (fun y => List.rec (motive := fun _ => Bool) true (fun _ _ _ => false) y)
    (fun a _ ih y => List.rec (motive := fun _ => Bool) false (fun b y _ => Bool.rec (motive := fun _ => Bool) false (ih y) (Nat.beq a b)) y) x y
theorem lbeq_iff : ∀ (x y : List Nat), lbeq x y = (x == y)
  | [], [] => rfl
  | [], _ :: _ => rfl
  | _ :: _, [] => rfl
  | a :: x, b :: y => by
    show Bool.rec (motive := fun _ => Bool) false (lbeq x y) (Nat.beq a b) = ((a :: x) == (b :: y))
    rw [lbeq_iff x y]
    cases h : Nat.beq a b with
    | false => have : a ≠ b := fun e => by subst e; simp at h
               simp [this]
    | true => have : a = b := Nat.eq_of_beq_eq_true h
              simp [this]
def lless : List Nat → List Nat → Bool
  | _, [] => false
  | [], _ :: _ => true
  | a :: x, b :: y => Nat.blt a b || (Nat.beq a b && lless x y)

/-! ### Constants -/
def ofConst1 : Value → Option AV
  | .bool b => some (.bool b)
  | .int k n => some (.int k n)
  | .string s => some (.str (bytesOf s))
  | .pointer none => some .nilp
  | .slice none 0 0 => some .nils
  | .map none => some .nilm
  | .nilFunc => some .nilf
  | .nilIface => some .nili
  | _ => none
def ofConsts : List Value → Option (List AV)
  | [] => some []
  | v :: l => match ofConst1 v with
    | some a => match ofConsts l with | some r => some (a :: r) | none => none
    | none => none
def ofConst : Value → Option AV
  | .agg cs => match ofConsts cs.toList with | some l => some (.agg l) | none => none
  | .iface t (.agg cs) => match ofConsts cs.toList with | some l => some (.iface t (.agg l)) | none => none
  | .iface t v => match ofConst1 v with | some a => some (.iface t a) | none => none
  | v => ofConst1 v

noncomputable def ev (tm : Tm) : Operand → Option AV
  | .tmp t => tm.get (Pos.ofNat t)
  | .const v => ofConst v
  | .global g => some (.gptr g 0)
  | .func f => some (.func (Pos.ofNat f) [] [])

noncomputable def evs (tm : Tm) : List Operand → Option (List AV)
  | [] => some []
  | x :: l => match ev tm x with
    | some v => match evs tm l with | some r => some (v :: r) | none => none
    | none => none

/-! ### Types -/
def isAggT (P : Program) (t : TypeId) : Bool :=
  match P.underlying t with
  | some (.struct _) | some (.array _ _) => true
  | _ => false
def sizeT (P : Program) (t : TypeId) : Option Nat := (P.info? t).map (·.size)
def bytesT (P : Program) (t : TypeId) : Option Nat := (P.info? t).map (·.bytes)
def zeroT (P : Program) (t : TypeId) : Option AV :=
  match P.info? t with
  | some i => match i.zero with | some v => ofConst v | none => none
  | none => none

/-- The part of a list of cells that is a value of type t. -/
def partV (P : Program) (t : TypeId) (cs : List AV) (off : Nat) : Option AV :=
  match P.underlying t with
  | some d => match d with
    | .struct _ | .array _ _ => match sizeT P t with | some n => some (.agg ((cs.drop off).take n)) | none => none
    | _ => cs[off]?
  | none => none

/-! ### Equality -/
noncomputable def eqFieldsV (eq : TypeId → AV → AV → Option Bool) (P : Program) (xs ys : List AV) : List Field → Option Bool
  | [] => some true
  | f :: fs =>
    if f.name ≠ "_" then
      match partV P f.type xs f.offset, partV P f.type ys f.offset with
      | some a, some b => match eq f.type a b with
        | some true => eqFieldsV eq P xs ys fs
        | some false => some false
        | none => none
      | _, _ => none
    else eqFieldsV eq P xs ys fs
noncomputable def eqElemsV (eq : TypeId → AV → AV → Option Bool) (P : Program) (elem : TypeId) (n : Nat) (xs ys : List AV) : (left i : Nat) → Option Bool
  | 0, _ => some true
  | left + 1, i =>
    match partV P elem xs (i * n), partV P elem ys (i * n) with
    | some a, some b => match eq elem a b with
      | some true => eqElemsV eq P elem n xs ys left (i + 1)
      | some false => some false
      | none => none
    | _, _ => none

noncomputable def equalV (P : Program) : (d : Nat) → TypeId → AV → AV → Option Bool
  | 0, _, _, _ => none
  | d + 1, t, x, y =>
    match P.underlying t, x, y with
    | some .bool, .bool a, .bool b => some (a == b)
    | some (.int _), .int k a, .int k' b => if k = k' then some (ieq a b) else none
    | some .string, .str a, .str b => some (lbeq a b)
    | some (.pointer _), .nilp, .nilp => some true
    | some (.pointer _), .nilp, .ptr _ _ => some false
    | some (.pointer _), .ptr _ _, .nilp => some false
    | some (.pointer e), .ptr p i, .ptr q j => match sizeT P e with
      | some (_ + 1) => if Pos.beq p q then some (Nat.beq i j) else none
      | _ => none
    | some (.interface _), .nili, .nili => some true
    | some (.interface _), .nili, .iface _ _ => some false
    | some (.interface _), .iface _ _, .nili => some false
    | some (.struct fs), .agg xs, .agg ys => if P.stoodInHeld t then none else eqFieldsV (equalV P d) P xs ys fs.toList
    | some (.array n e), .agg xs, .agg ys => match sizeT P e with
      | some s => eqElemsV (equalV P d) P e s xs ys n 0
      | none => none
    | some (.slice _), .nils, .nils => some true
    | some (.slice _), .nils, .slice .. => some false
    | some (.slice _), .slice .., .nils => some false
    | some (.slice _), .nils, .fz _ (_ + 1) => some false
    | some (.slice _), .fz _ (_ + 1), .nils => some false
    | some (.slice _), .nils, .z1 => some false
    | some (.slice _), .z1, .nils => some false
    | some (.map _ _), .nilm, .nilm => some true
    | some (.map _ _), .nilm, .map _ => some false
    | some (.map _ _), .map _, .nilm => some false
    | some (.func ..), .nilf, .nilf => some true
    | some (.func ..), .nilf, .func .. => some false
    | some (.func ..), .func .., .nilf => some false
    | _, _, _ => none

/-! ### Operators -/
/-- Bit by bit, where a number is below 0: in the model's own words. -/
def bitsSlow (op : BinOp) (k : IntKind) (x y : Int) : Option AV :=
  match op with
  | .and => some (.int k (k.wrap ((BitVec.ofInt k.bits x &&& BitVec.ofInt k.bits y).toNat : Nat)))
  | .or => some (.int k (k.wrap ((BitVec.ofInt k.bits x ||| BitVec.ofInt k.bits y).toNat : Nat)))
  | .xor => some (.int k (k.wrap ((BitVec.ofInt k.bits x ^^^ BitVec.ofInt k.bits y).toNat : Nat)))
  | .andNot => some (.int k (k.wrap ((BitVec.ofInt k.bits x &&& ~~~BitVec.ofInt k.bits y).toNat : Nat)))
  | _ => none

noncomputable def intOp (op : BinOp) (k : IntKind) (x y : Int) : Option AV :=
  match op with
  | .add => some (.int k (wrapK k (Int.add x y)))
  | .sub => some (.int k (wrapK k (Int.sub x y)))
  | .mul => some (.int k (wrapK k (Int.mul x y)))
  | .quo => if ieq y 0 then none else
    match x, y with
    | .ofNat a, .ofNat b => some (.int k (wrapK k (.ofNat (Nat.div a b))))
    | _, _ => some (.int k (k.wrap (x.tdiv y)))
  | .rem => if ieq y 0 then none else
    match x, y with
    | .ofNat a, .ofNat b => some (.int k (.ofNat (Nat.mod a b)))
    | _, _ => some (.int k (x.tmod y))
  | .eql => some (.bool (ieq x y))
  | .neq => some (.bool (!ieq x y))
  | .lss => some (.bool (ilt x y))
  | .leq => some (.bool (!ilt y x))
  | .gtr => some (.bool (ilt y x))
  | .geq => some (.bool (!ilt x y))
  | .and | .or | .xor | .andNot =>
    match x, y with
    | .ofNat a, .ofNat b =>
      if inK k x && inK k y then
        match op with
        | .and => some (.int k (.ofNat (Nat.land a b)))
        | .or => some (.int k (.ofNat (Nat.lor a b)))
        | .xor => some (.int k (.ofNat (Nat.xor a b)))
        | _ => some (.int k (.ofNat (Nat.xor a (Nat.land a b))))
      else none
    | x, y => bitsSlow op k x y
  | _ => none

noncomputable def shiftOp (op : BinOp) (k : IntKind) (x y : Int) : Option AV :=
  match y with
  | .negSucc _ => none
  | .ofNat m =>
    let n := if Nat.blt m k.bits then m else k.bits
    match op, x with
    | .shl, .ofNat a => some (.int k (wrapK k (.ofNat (Nat.shiftLeft a n))))
    | .shr, .ofNat a => some (.int k (.ofNat (Nat.shiftRight a n)))
    | _, _ => none

noncomputable def strOp (op : BinOp) (a b : List Nat) : Option AV :=
  match op with
  | .add => if Nat.blt (a.length + b.length) 9223372036854775808 then some (.str (a ++ b)) else none
  | .eql => some (.bool (lbeq a b))
  | .neq => some (.bool (!lbeq a b))
  | .lss => some (.bool (lless a b))
  | .leq => some (.bool (lless a b || lbeq a b))
  | .gtr => some (.bool (!(lless a b || lbeq a b)))
  | .geq => some (.bool (!lless a b))
  | _ => none

def isConstO : Operand → Bool
  | .const _ => true
  | _ => false

/-- A value of which the machine knows no form. -/
def AV.blind : AV → Bool
  | .opq _ | .any | .ge _ | .rng _ _ | .osl _ _ => true
  | _ => false

/-- Does '==' at this type ask the model's guard nothing? -/
def guardFree (P : Program) (t : TypeId) (x y : Operand) (a b : AV) : Bool :=
  match a, b with
  | .nili, .nili => isConstO x || isConstO y
  | .agg _, .agg _ => !P.eqGuardType P.depth t
  | a, b => !(a.blind || b.blind)

noncomputable def binV (P : Program) (op : BinOp) (t : TypeId) (x y : Operand) (a b : AV) : Option AV :=
  match a, b with
  | .int k m, .int k' n =>
    match op with
    | .shl | .shr => shiftOp op k m n
    | _ => if k = k' then intOp op k m n else none
  | .str m, .str n => strOp op m n
  | .int .i64 (.ofNat m), .ge n =>
    match op with
    | .gtr => if Nat.ble m n then some (.bool false) else none
    | _ => none
  | .rng lo hi, .int .i64 (.ofNat c) =>
    match op with
    | .gtr => if Nat.blt c lo then some (.bool true) else (match hi with
      | some h => if Nat.ble h c then some (.bool false) else none
      | none => none)
    | _ => none
  | _, _ =>
    match op with
    | .eql => if guardFree P t x y a b then (match equalV P 10000 t a b with | some r => some (.bool r) | none => none) else none
    | .neq => if guardFree P t x y a b then (match equalV P 10000 t a b with | some r => some (.bool (!r)) | none => none) else none
    | _ => none

def unV (op : UnOp) (a : AV) : Option AV :=
  match op, a with
  | .not, .bool b => some (.bool (!b))
  | .neg, .int k n => some (.int k (wrapK k (Int.sub 0 n)))
  | .xor, .int k (.ofNat n) => match k.signed with
    | false => if inK k (.ofNat n) then some (.int k (.ofNat (Nat.xor (Nat.sub (IntKind.hi k) 1) n))) else none
    | true => bitsSlow .xor k (.negSucc 0) (.ofNat n)
  | .xor, .int k (.negSucc n) => match k.signed with
    | true => bitsSlow .xor k (.negSucc 0) (.negSucc n)
    | false => none
  | _, _ => none

noncomputable def convV (P : Program) (src dst : TypeId) (a : AV) : Option AV :=
  match P.underlying src with
  | none => none
  | some _ =>
    match P.underlying dst, a with
    | some (.int k), .int _ n => some (.int k (wrapK k n))
    | some .string, .str l => some (.str l)
    | _, _ => none

/-- An int's number, if it is from 0 to a bound. -/
def upTo (v : AV) (n : Nat) : Option Nat :=
  match v with
  | .int _ (.ofNat m) => if Nat.ble m n then some m else none
  | _ => none
def below (v : AV) (n : Nat) : Option Nat :=
  match v with
  | .int _ (.ofNat m) => if Nat.blt m n then some m else none
  | _ => none

/-- The bounds of a slice expression: low, high, max; 'full': what max is where it is not given. -/
def bounds (len cap : Nat) (lo hi mx : Option AV) : Option (Nat × Nat × Nat) :=
  match (match mx with | none => some cap | some v => upTo v cap) with
  | none => none
  | some m =>
    match (match hi, mx with | none, none => some len | none, some _ => none | some v, _ => upTo v m) with
    | none => none
    | some h =>
      match (match lo with | none => some 0 | some v => upTo v h) with
      | none => none
      | some l => some (l, h, m)

noncomputable def sliceV (P : Program) (t : TypeId) (x : AV) (lo hi mx : Option AV) : Option AV :=
  match P.underlying t, x with
  | some .string, .str l =>
    match mx with
    | some _ => none
    | none => match bounds l.length l.length lo hi none with
      | some (a, b, _) => some (.str ((l.drop a).take (b - a)))
      | none => none
  | some (.slice e), .slice p off len cap soft =>
    match sizeT P e, bounds len cap lo hi mx with
    | some n, some (l, h, m) =>
      -- where the end is given, the spare places behind it are known: none
      some (.slice p (off + l * n) (h - l) (m - l) (match mx with | some _ => false | none => soft))
    | _, _ => none
  | some (.slice e), .nils =>
    match sizeT P e, bounds 0 0 lo hi mx with
    | some _, some _ => some .nils
    | _, _ => none
  | some (.slice e), .e0 =>
    match sizeT P e, bounds 0 0 lo hi mx with
    | some _, some _ => some .e0
    | _, _ => none
  | some (.slice e), .fz c len =>
    match sizeT P e, bounds len len lo hi mx with
    | some n, some (l, h, m) => some (match mx, Nat.sub m l with | some _, 0 => .e0 | _, _ => .fz ((c.drop (l * n)).take ((h - l) * n)) (h - l))
    | _, _ => none
  | some (.array k e), .ptr p off =>
    match sizeT P e, bounds k k lo hi mx with
    | some n, some (l, h, m) => some (.slice p (off + l * n) (h - l) (m - l) false)
    | _, _ => none
  | _, _ => none

/-- The cells with a part laid in at a place. -/
def layIn (cs : List AV) (off : Nat) (v : List AV) : List AV := cs.take off ++ v ++ cs.drop (off + v.length)

def fillV (place : Nat → Option (Nat × Nat)) (cs : List AV) : List (Nat × AV) → Option (List AV)
  | [] => some cs
  | (i, v) :: rest =>
    match place i with
    | none => none
    | some (off, size) =>
      if v.isAny = false ∧ v.cells.length = size ∧ off + v.cells.length ≤ cs.length then fillV place (layIn cs off v.cells) rest else none

noncomputable def evParts (tm : Tm) : List (Nat × Operand) → Option (List (Nat × AV))
  | [] => some []
  | (i, x) :: l => match ev tm x with
    | some v => match evParts tm l with | some r => some ((i, v) :: r) | none => none
    | none => none

noncomputable def buildV (P : Program) (t : TypeId) (parts : List (Nat × AV)) : Option AV :=
  match zeroT P t with
  | none => none
  | some z =>
    match P.underlying t with
    | some (.struct fs) =>
      match fillV (fun i => match fs[i]? with | some f => (match sizeT P f.type with | some n => some (f.offset, n) | none => none) | none => none) z.cells parts with
      | some cs => if fs.all (fun f => (sizeT P f.type).isSome) then some (.agg cs) else none
      | none => none
    | some (.array _ e) =>
      match sizeT P e with
      | some n => match fillV (fun i => some (i * n, n)) z.cells parts with
        | some cs => some (.agg cs)
        | none => none
      | none => none
    | _ => none

noncomputable def fieldAddrV (P : Program) (s : TypeId) (x : AV) (f : Nat) : Option AV :=
  match P.underlying s, x with
  | some (.struct fs), .ptr p off =>
    match fs[f]? with
    | some fd => match sizeT P fd.type with
      | some (_ + 1) => some (.ptr p (off + fd.offset))
      | _ => none
    | none => none
  | some (.struct fs), .gptr g off =>
    match fs[f]? with
    | some fd => match sizeT P fd.type with
      | some (_ + 1) => some (.gptr g (off + fd.offset))
      | _ => none
    | none => none
  | some (.struct fs), .fp c off =>
    match fs[f]? with
    | some fd => match sizeT P fd.type with
      | some (_ + 1) => some (.fp c (off + fd.offset))
      | _ => none
    | none => none
  | _, _ => none

noncomputable def indexAddrV (P : Program) (t : TypeId) (x i : AV) : Option AV :=
  match P.underlying t, x with
  | some (.array n e), .ptr p off =>
    match sizeT P e, below i n with
    | some s, some m => some (.ptr p (off + m * s))
    | _, _ => none
  | some (.array n e), .gptr g off =>
    match sizeT P e, below i n with
    | some s, some m => some (.gptr g (off + m * s))
    | _, _ => none
  | some (.slice e), .slice p off len _ _ =>
    match sizeT P e, below i len with
    | some s, some m => some (.ptr p (off + m * s))
    | _, _ => none
  | some (.slice e), .fz c len =>
    match sizeT P e, below i len with
    | some s, some m => some (.fp c (m * s))
    | _, _ => none
  | some (.array n e), .fp c off =>
    match sizeT P e, below i n with
    | some s, some m => some (.fp c (off + m * s))
    | _, _ => none
  | _, _ => none

noncomputable def indexV (P : Program) (t : TypeId) (x i : AV) : Option AV :=
  match P.underlying t, x with
  | some (.array n e), .agg cs =>
    match sizeT P e, below i n with
    | some s, some m => partV P e cs (m * s)
    | _, _ => none
  | some .string, .str l =>
    match below i l.length with
    | some m => match l[m]? with | some b => some (.int .u8 (.ofNat b)) | none => none
    | none => none
  | _, _ => none

noncomputable def assertV (P : Program) (x : AV) (asserted : TypeId) (commaOk : Bool) : Option AV :=
  match P.underlying asserted, x with
  | some (.interface want), .iface t v =>
    match P.info? t with
    | some i => match Instr.missingMethod want i.methods with
      | none => some (if commaOk then .tup [.iface t v, .bool true] else .iface t v)
      | some _ => if commaOk then (match zeroT P asserted with | some z => some (.tup [z, .bool false]) | none => none) else none
    | none => none
  | some _, .nili => if commaOk then (match zeroT P asserted with | some z => some (.tup [z, .bool false]) | none => none) else none
  | some _, .iface t v =>
    if t = asserted then some (if commaOk then .tup [v, .bool true] else v)
    else if commaOk then (match zeroT P asserted with | some z => some (.tup [z, .bool false]) | none => none) else none
  | _, _ => none

noncomputable def minMaxGo (isMax : Bool) (k : IntKind) (x : Int) : List AV → Option AV
  | [] => some (.int k x)
  | .int _ y :: rest => minMaxGo isMax k (if (if isMax then ilt x y else ilt y x) then y else x) rest
  | _ => none
noncomputable def minMaxV (isMax : Bool) : List AV → Option AV
  | .int k x :: rest => minMaxGo isMax k x rest
  | _ => none

noncomputable def optEv (tm : Tm) : Option Operand → Option (Option AV)
  | none => some none
  | some x => match ev tm x with | some v => some (some v) | none => none

/-- An operation that touches no memory. -/
noncomputable def pureV (P : Program) (tm : Tm) : Op → Option AV
  | .move x | .assign x => ev tm x
  | .pick c a b => match ev tm c with
    | some (.bool true) => ev tm a
    | some (.bool false) => ev tm b
    | _ => none
  | .binOp op t x y _ => match ev tm x, ev tm y with
    | some a, some b => binV P op t x y a b
    | _, _ => none
  | .unOp op _ x => match ev tm x with | some a => unV op a | none => none
  | .convert s d x => match ev tm x with | some a => convV P s d a | none => none
  | .makeInterface t x => match P.underlying t, ev tm x with
    | some (.interface _), _ => none
    | some _, some v => some (.iface t v)
    | _, _ => none
  | .makeFunc (.func f) first captured => match evs tm first.toList, evs tm captured.toList with
    | some a, some b => some (.func (Pos.ofNat f) a b)
    | _, _ => none
  | .nilCheck x => match ev tm x with
    | some (.ptr p off) => some (.ptr p off)
    | some (.fp c off) => some (.fp c off)
    | some (.func f a b) => some (.func f a b)
    | some (.iface t v) => some (.iface t v)
    | some (.yield l) => some (.yield l)
    | _ => none
  | .build t ps => match evParts tm ps.toList with | some l => buildV P t l | none => none
  | .slice t x lo hi mx => match ev tm x, optEv tm lo, optEv tm hi, optEv tm mx with
    | some v, some a, some b, some c => sliceV P t v a b c
    | _, _, _, _ => none
  | .fieldAddr t x f => match ev tm x with | some v => fieldAddrV P t v f | none => none
  | .field t x f => match P.underlying t, ev tm x with
    | some (.struct fs), some (.agg cs) => match fs[f]? with | some fd => partV P fd.type cs fd.offset | none => none
    | _, _ => none
  | .indexAddr t x i => match ev tm x, ev tm i with | some v, some j => indexAddrV P t v j | _, _ => none
  | .index t x i => match ev tm x, ev tm i with | some v, some j => indexV P t v j | _, _ => none
  | .typeAssert x _ a ok => match ev tm x with | some v => assertV P v a ok | none => none
  | .extract t i => match ev tm t with | some (.tup l) => l[i]? | _ => none
  | .call { callee := .builtin .len, args, argTypes } => match args[0]?, argTypes[0]? with
    | some x, some t => match ev tm x, P.underlying t with
      | some (.slice _ _ n _ _), some (.slice _) => some (.int .i64 (.ofNat n))
      | some .nils, some (.slice _) => some (.int .i64 0)
      | some (.osl lo hi), some (.slice _) => some (.rng lo hi)
      | some (.fz _ n), some (.slice _) => some (.int .i64 (.ofNat n))
      | some .e0, some (.slice _) => some (.int .i64 0)
      | some (.str l), some .string => some (.int .i64 (.ofNat l.length))
      | some _, some (.array n _) => some (.int .i64 (.ofNat n))
      | _, _ => none
    | _, _ => none
  | .call { callee := .builtin .cap, args, argTypes } => match args[0]?, argTypes[0]? with
    | some x, some t => match ev tm x, P.underlying t with
      | some (.slice _ _ _ c false), some (.slice _) => some (.int .i64 (.ofNat c))
      | some (.slice _ _ _ c true), some (.slice _) => some (.ge c)
      | some .nils, some (.slice _) => some (.int .i64 0)
      | some (.fz _ n), some (.slice _) => some (.ge n)
      | some .e0, some (.slice _) => some (.int .i64 0)
      | some _, some (.array n _) => some (.int .i64 (.ofNat n))
      | _, _ => none
    | _, _ => none
  | .call { callee := .builtin .max, args, .. } => match evs tm args.toList with | some l => minMaxV true l | none => none
  | .call { callee := .builtin .min, args, .. } => match evs tm args.toList with | some l => minMaxV false l | none => none
  | _ => none

/-! ### Reading -/
/-- n cells from a place on, if all are there. -/
noncomputable def readN (cs : List AV) (off n : Nat) : Option (List AV) :=
  if Nat.ble (off + n) cs.length then some ((cs.drop off).take n) else none

/-- Where a pointer leads. -/
noncomputable def ptrOf (A : H) (x : AV) : Option (Pos × Nat) :=
  match x with
  | .ptr p off => some (p, off)
  | .gptr g off => match Nat.blt g A.ng with
    | true => some (Pos.ofNat g, off)
    | false => none
  | _ => none
/-- Does a value that is read look as its type says? (Asked where that is wanted.) -/
def fitS (st : Bool) (d : TypeDesc) (v : AV) : Bool := match st with
  | false => true
  | true => match d with
    | .string => (match v with | .str _ => true | _ => false)
    | .int _ => (match v with | .int _ _ => true | _ => false)
    | .bool => (match v with | .bool _ => true | _ => false)
    | _ => true
/-- .. in a row that stays as it is (slices there stay as they are, too). -/
def fitL (st : Bool) (d : TypeDesc) (v : AV) : Bool := match st with
  | false => true
  | true => match d with
    | .string => (match v with | .str _ => true | _ => false)
    | .int _ => (match v with | .int _ _ => true | _ => false)
    | .bool => (match v with | .bool _ => true | _ => false)
    | .slice _ => (match v with | .fz _ _ => true | _ => false)
    | _ => true
/-- What stands at a place of a row. -/
noncomputable def loadG (fit : TypeDesc → AV → Bool) (P : Program) (t : TypeId) (cs : List AV) (off : Nat) : Option AV :=
  match P.underlying t with
  | some d => match d with
    | .struct _ | .array _ _ => match sizeT P t with
      | some n => match readN cs off n with | some l => some (.agg l) | none => none
      | none => none
    | _ => match cs[off]? with
      | some v => match fit d v with | true => some v | false => none
      | none => none
  | none => none
noncomputable def loadL (P : Program) (st : Bool) (t : TypeId) (cs : List AV) (off : Nat) : Option AV := loadG (fitL st) P t cs off
noncomputable def loadH (P : Program) (A : H) (t : TypeId) (x : AV) : Option AV :=
  match ptrOf A x with
  | some (p, off) =>
    match A.t.get p with
    | some (.cells cs _ _) =>
      match P.underlying t with
      | some d => match d with
        | .struct _ | .array _ _ => match sizeT P t with
          | some n => match readN cs off n with | some l => some (.agg l) | none => none
          | none => none
        | _ => match cs[off]? with
          | some v => match fitS A.st d v with | true => some v | false => none
          | none => none
      | none => none
    | _ => none
  | none => none

noncomputable def loadV (P : Program) (A : H) (t : TypeId) (x : AV) : Option AV :=
  match x with
  | .fp cs off => loadL P A.st t cs off
  | x => loadH P A t x

/-- Cells that are bytes. -/
noncomputable def toBytes (l : List AV) : Option (List Nat) :=
  List.rec (motive := fun _ => Option (List Nat)) (some [])
    (fun a _ ih => match a with
      | .int .u8 (.ofNat b) => match Nat.blt b 256 with
        | true => match ih with | some r => some (b :: r) | none => none
        | false => none
      | _ => none) l

noncomputable def bytesV (P : Program) (A : H) (s d : TypeId) (x : AV) : Option AV :=
  match P.underlying s, P.underlying d with
  | some (.slice e), some .string =>
    match P.underlying e, x with
    | some (.int .u8), .nils => some (.str [])
    | some (.int .u8), .e0 => some (.str [])
    | some (.int .u8), .fz cs len => match readN cs 0 len with
      | some l => match toBytes l with | some r => some (.str r) | none => none
      | none => none
    | some (.int .u8), .slice p off len _ _ =>
      match A.t.get p with
      | some (.cells cs _ _) => match readN cs off len with
        | some l => match toBytes l with | some r => some (.str r) | none => none
        | none => none
      | _ => none
    | _, _ => none
  | some (.slice _), some (.slice e) =>
    -- the bytes of a row are marked as a string's: nothing that the machine knows is turned
    match x with
    | .slice p off len cap soft => match Nat.beq s d, P.underlying e, A.t.get p with
      | true, some (.int .u8), some (.cells _ (.succ .zero) false) => some (.slice p off len cap soft)
      | _, _, _ => none
    | _ => none
  | some (.pointer t), some .unsafePointer =>
    match x with
    | .ptr p off => match A.t.get p, sizeT P t with
      | some (.cells cs _ _), some (_ + 1) => match cs[off]? with | some _ => some (.ptr p off) | none => none
      | _, _ => none
    | _ => none
  | _, _ => none

/-! ### Maps -/
noncomputable def keyElemsV (ok : AV → Bool) (P : Program) (e : TypeId) (n : Nat) (cs : List AV) : (left i : Nat) → Bool
  | 0, _ => true
  | left + 1, i => match partV P e cs (i * n) with
    | some a => ok a && keyElemsV ok P e n cs left (i + 1)
    | none => false
noncomputable def keyFieldsV (ok : TypeId → AV → Bool) (P : Program) (cs : List AV) : List Field → Bool
  | [] => true
  | f :: fs => (if f.name ≠ "_" then (match partV P f.type cs f.offset with | some a => ok f.type a | none => false) else true) && keyFieldsV ok P cs fs
/-- Is a value a key that a map can be asked for? -/
noncomputable def keyOkV (P : Program) : (d : Nat) → TypeId → AV → Bool
  | 0, _, _ => false
  | d + 1, t, v =>
    match P.underlying t, v with
    | some (.array n e), .agg cs => match sizeT P e with
      | some s => keyElemsV (keyOkV P d e) P e s cs n 0
      | none => false
    | some (.struct fs), .agg cs => keyFieldsV (keyOkV P d) P cs fs.toList
    | some .bool, _ | some (.int _), _ | some .string, _ => true
    | _, _ => false
def keyKind (P : Program) (t : TypeId) : Bool :=
  match P.underlying t with
  | some .bool | some (.int _) | some .string | some (.array _ _) | some (.struct _) => true
  | _ => false
/-- Where a key stands; some none: nowhere. -/
noncomputable def findV (P : Program) (kt : TypeId) (k : AV) : List (AV × AV × Nat) → Nat → Option (Option (Nat × AV))
  | [], _ => some none
  | (key, v, _) :: es, i => match equalV P 10000 kt k key with
    | some true => some (some (i, v))
    | some false => findV P kt k es (i + 1)
    | none => none
/-- A value without addresses: of such a one the world's value is one. -/
def litV : AV → Bool
  | .bool _ | .int _ _ | .str _ => true
  | _ => false
def litKey : AV → Bool
  | .agg l => l.all litV
  | v => litV v

/-- The one entry that a range over a map must come to next; some none: none is left. -/
def mnextV (es : List (AV × AV × Nat)) (since : Nat) (seen : List Nat) (last : Nat) : Option (Option (AV × AV × Nat)) :=
  if !seen.isEmpty && (!es.isEmpty && es.all fun e => Nat.ble last e.2.2) then none else
  match es.filter fun e => !seen.any (Nat.beq e.2.2) with
  | [] => some none
  | [e] => if Nat.blt e.2.2 since then some (some e) else none
  | _ => none
def mfindV : List (AV × AV × Nat) → Nat → Option (AV × AV)
  | [], _ => none
  | (k, v, b) :: es, n => if Nat.beq b n then some (k, v) else mfindV es n

noncomputable def mapOf (A : H) : AV → Option (List (AV × AV × Nat))
  | .nilm => some []
  | .map p => match A.t.get p with
    | some (.map es _) => some es
    | _ => none
  | _ => none
noncomputable def lookupV (P : Program) (A : H) (t : TypeId) (x k : AV) (ok : Bool) : Option AV :=
  match P.underlying t with
  | some (.map kt e) =>
    match mapOf A x with
    | some es =>
      if keyKind P kt && keyOkV P 10000 kt k then
        match findV P kt k es 0 with
        | some (some (_, v)) => some (if ok then .tup [v, .bool true] else v)
        | some none => match zeroT P e with
          | some z => some (if ok then .tup [z, .bool false] else z)
          | none => none
        | none => none
      else none
    | none => none
  | _ => none

noncomputable def readV (P : Program) (tm : Tm) (A : H) : Op → Option AV
  | .load t x => match ev tm x with | some v => loadV P A t v | none => none
  | .convert s d x => match ev tm x with | some v => bytesV P A s d v | none => none
  | .lookup t x k ok => match ev tm x, ev tm k with | some v, some j => lookupV P A t v j ok | _, _ => none
  | .call { callee := .builtin .len, args, argTypes } => match args[0]?, argTypes[0]? with
    | some x, some t => match ev tm x, P.underlying t with
      | some m, some (.map ..) => match mapOf A m with | some es => some (.int .i64 (.ofNat es.length)) | none => none
      | _, _ => none
    | _, _ => none
  | _ => none

/-- Whose body a method's call is, where the receiver is handed on as it is. -/
noncomputable def methV (P : Program) (A : H) (t : TypeId) (name : String) (v : AV) : Option (FuncId × AV) :=
  match P.info? t with
  | some i => match i.methods.find? (fun m => m.name == name) with
    | some m => match m.path.toList, m.func with
      | [], some (f, b) => match b, P.underlying t with
        | true, some (.pointer _) => some (f, v)
        | false, some (.pointer e) => match v with
          | .ptr p off => match loadV P A e (.ptr p off) with
            | some u => some (f, u)
            | none => none
          | _ => none
        | false, some _ => some (f, v)
        | _, _ => none
      -- a method of a part that lies behind the pointer
      | [s], some (f, true) => match s.deref, P.underlying s.struct with
        | true, some (.struct fs) => match fs[s.index]? with
          | some fd => match P.underlying fd.type with
            | some (.pointer _) => none
            | some _ => match fieldAddrV P s.struct v s.index with
              | some u => some (f, u)
              | none => none
            | none => none
          | none => none
        | _, _ => none
      | _, _ => none
    | none => none
  | none => none

/-! ### Making memory -/
/-- What is laid, and what value leads there. -/
noncomputable def allocV (P : Program) (tm : Tm) : Op → Option (List AV × Nat × (Pos → AV))
  | .alloc e => match zeroT P e, sizeT P e with
    | some z, some n => some (z.cells, n, fun p => .ptr p 0)
    | _, _ => none
  | .box e x => match ev tm x, sizeT P e with
    | some v, some n => if v.isAny then none else some (v.cells, n, fun p => .ptr p 0)
    | _, _ => none
  | .buildSlice t len ps => match P.underlying t with
    | some (.slice e) => match sizeT P e, zeroT P e, evParts tm ps.toList with
      | some n, some z, some l =>
        if z.cells.length = n ∧ len * n ≤ 16777216 ∧ 0 < n then
          match fillV (fun i => some (i * n, n)) ((List.replicate len z.cells).flatten) l with
          | some cs => some (cs, n, fun p => .slice p 0 len len false)
          | none => none
        else none
      | _, _, _ => none
    | _ => none
  | .makeSlice t l c => match P.underlying t, ev tm l, ev tm c with
    | some (.slice e), some l, some c => match sizeT P e, bytesT P e, zeroT P e, upTo c 281474976710656 with
      | some n, some b, some z, some c =>
        match upTo l c with
        | some l =>
          if z.cells.length = n ∧ b * c ≤ 281474976710656 ∧ 0 < n then some ((List.replicate c z.cells).flatten, n, fun p => .slice p 0 l c false) else none
        | none => none
      | _, _, _, _ => none
    | _, _, _ => none
  | _ => none

end Go.AM
