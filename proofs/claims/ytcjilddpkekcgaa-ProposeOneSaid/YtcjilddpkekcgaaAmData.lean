/-
  THE DATA OF A DETERMINISTIC MACHINE ('AM') THAT RUNS A PROGRAM OF THE MODEL ON A HEAP OF ITS OWN: positions, trees, values. Plain Lean: no program in sight.
-/
import Derived.CallsIn
namespace Go.AM

/-! ### Positions -/
inductive Pos where
  | z
  | l (p : Pos)
  | r (p : Pos)
  deriving DecidableEq, Inhabited

namespace Pos
def idx : Pos → Nat
  | .z => 0
  | .l p => 2 * p.idx + 1
  | .r p => 2 * p.idx + 2

theorem idx_inj : ∀ {p q : Pos}, p.idx = q.idx → p = q
  | .z, .z, _ => rfl
  | .z, .l _, h => by simp [idx] at h
  | .z, .r _, h => by simp [idx] at h
  | .l _, .z, h => by simp [idx] at h
  | .l p, .l q, h => by rw [idx_inj (p := p) (q := q) (by simp only [idx] at h; omega)]
  | .l p, .r q, h => by simp only [idx] at h; omega
  | .r _, .z, h => by simp [idx] at h
  | .r p, .l q, h => by simp only [idx] at h; omega
  | .r p, .r q, h => by rw [idx_inj (p := p) (q := q) (by simp only [idx] at h; omega)]

/-- The next one, handed on. -/
noncomputable def succK {β : Type} (p : Pos) : (Pos → β) → β :=
  Pos.rec (motive := fun _ => (Pos → β) → β) (fun k => k (.l .z)) (fun p _ k => k (.r p)) (fun _ ih k => ih fun q => k (.l q)) p
def succ : Pos → Pos
  | .z => .l .z
  | .l p => .r p
  | .r p => .l p.succ
theorem succK_eq {β : Type} : ∀ (p : Pos) (k : Pos → β), succK p k = k p.succ
  | .z, _ => rfl
  | .l _, _ => rfl
  | .r p, k => succK_eq p fun q => k (.l q)
theorem idx_succ : ∀ p : Pos, p.succ.idx = p.idx + 1
  | .z => rfl
  | .l p => by simp [succ, idx]
  | .r p => by simp [succ, idx, idx_succ p]; omega

noncomputable def ofNat (n : Nat) : Pos := Nat.rec .z (fun _ p => p.succ) n
theorem idx_ofNat : ∀ n, (ofNat n).idx = n
  | 0 => rfl
  | n + 1 => by show (ofNat n).succ.idx = n + 1; rw [idx_succ, idx_ofNat n]
theorem ofNat_inj {m n : Nat} (h : ofNat m = ofNat n) : m = n := by rw [← idx_ofNat m, h, idx_ofNat]

noncomputable def beq (p q : Pos) : Bool :=
  Pos.rec (motive := fun _ => Pos → Bool) (fun q => Pos.rec (motive := fun _ => Bool) true (fun _ _ => false) (fun _ _ => false) q)
    (fun _ ih q => Pos.rec (motive := fun _ => Bool) false (fun q _ => ih q) (fun _ _ => false) q)
    (fun _ ih q => Pos.rec (motive := fun _ => Bool) false (fun _ _ => false) (fun q _ => ih q) q) p q
theorem beq_eq : ∀ {p q : Pos}, beq p q = true → p = q
  | .z, .z, _ => rfl
  | .z, .l _, h => by cases h
  | .z, .r _, h => by cases h
  | .l _, .z, h => by cases h
  | .l p, .l q, h => by rw [beq_eq (p := p) (q := q) h]
  | .l _, .r _, h => by cases h
  | .r _, .z, h => by cases h
  | .r _, .l _, h => by cases h
  | .r p, .r q, h => by rw [beq_eq (p := p) (q := q) h]
theorem beq_ne : ∀ {p q : Pos}, beq p q = false → p ≠ q
  | .z, .z, h => by cases h
  | .z, .l _, _ => by simp
  | .z, .r _, _ => by simp
  | .l _, .z, _ => by simp
  | .l p, .l q, h => by have := beq_ne (p := p) (q := q) h; simpa using this
  | .l _, .r _, _ => by simp
  | .r _, .z, _ => by simp
  | .r _, .l _, _ => by simp
  | .r p, .r q, h => by have := beq_ne (p := p) (q := q) h; simpa using this
end Pos

/-! ### Trees by positions -/
inductive PT (α : Type) where
  | leaf
  | node (l : PT α) (x : Option α) (r : PT α)

namespace PT
variable {α : Type}
noncomputable def get (t : PT α) (p : Pos) : Option α :=
  Pos.rec (motive := fun _ => PT α → Option α) (fun t => PT.rec (motive := fun _ => Option α) none (fun _ x _ _ _ => x) t)
    (fun _ ih t => PT.rec (motive := fun _ => Option α) none (fun l _ _ _ _ => ih l) t)
    (fun _ ih t => PT.rec (motive := fun _ => Option α) none (fun _ _ r _ _ => ih r) t) p t
/-- What stands at a place is turned, and the tree is handed on. -/
noncomputable def putK {β : Type} (x : Option α) (p : Pos) (t : PT α) (k : PT α → β) : β :=
  Pos.rec (motive := fun _ => PT α → (PT α → β) → β)
    (fun t k => PT.rec (motive := fun _ => β) (k (node leaf x leaf)) (fun l _ r _ _ => k (node l x r)) t)
    (fun _ ih t k => PT.rec (motive := fun _ => β) (ih leaf (fun l => k (node l none leaf))) (fun l y r _ _ => ih l (fun l => k (node l y r))) t)
    (fun _ ih t k => PT.rec (motive := fun _ => β) (ih leaf (fun r => k (node leaf none r))) (fun l y r _ _ => ih r (fun r => k (node l y r))) t) p t k
def put (x : Option α) : Pos → PT α → PT α
  | .z, leaf => node leaf x leaf
  | .z, node l _ r => node l x r
  | .l p, leaf => node (put x p leaf) none leaf
  | .l p, node l y r => node (put x p l) y r
  | .r p, leaf => node leaf none (put x p leaf)
  | .r p, node l y r => node l y (put x p r)
theorem putK_eq {β : Type} (x : Option α) : ∀ (p : Pos) (t : PT α) (k : PT α → β), putK x p t k = k (put x p t)
  | .z, leaf, _ => rfl
  | .z, node .., _ => rfl
  | .l p, leaf, k => putK_eq x p leaf fun l => k (node l none leaf)
  | .l p, node l y r, k => putK_eq x p l fun l => k (node l y r)
  | .r p, leaf, k => putK_eq x p leaf fun r => k (node leaf none r)
  | .r p, node l y r, k => putK_eq x p r fun r => k (node l y r)
theorem get_leaf (p : Pos) : get (leaf : PT α) p = none := by cases p <;> rfl
theorem get_put_self (x : Option α) : ∀ (p : Pos) (t : PT α), get (put x p t) p = x
  | .z, leaf => rfl
  | .z, node .. => rfl
  | .l p, leaf => get_put_self x p leaf
  | .l p, node l _ _ => get_put_self x p l
  | .r p, leaf => get_put_self x p leaf
  | .r p, node _ _ r => get_put_self x p r
theorem get_put_ne (x : Option α) : ∀ (p q : Pos) (t : PT α), q ≠ p → get (put x p t) q = get t q
  | .z, .z, _, h => absurd rfl h
  | .z, .l q, leaf, _ => get_leaf q
  | .z, .l _, node .., _ => rfl
  | .z, .r q, leaf, _ => get_leaf q
  | .z, .r _, node .., _ => rfl
  | .l _, .z, leaf, _ => rfl
  | .l _, .z, node .., _ => rfl
  | .l p, .l q, leaf, h => (get_put_ne x p q leaf (fun e => h (by rw [e]))).trans (get_leaf q)
  | .l p, .l q, node l _ _, h => get_put_ne x p q l (fun e => h (by rw [e]))
  | .l _, .r q, leaf, _ => get_leaf q
  | .l _, .r _, node .., _ => rfl
  | .r _, .z, leaf, _ => rfl
  | .r _, .z, node .., _ => rfl
  | .r _, .l q, leaf, _ => get_leaf q
  | .r _, .l _, node .., _ => rfl
  | .r p, .r q, leaf, h => (get_put_ne x p q leaf (fun e => h (by rw [e]))).trans (get_leaf q)
  | .r p, .r q, node _ _ r, h => get_put_ne x p q r (fun e => h (by rw [e]))
theorem get_put (x : Option α) (p q : Pos) (t : PT α) : get (put x p t) q = if q = p then x else get t q := by
  by_cases h : q = p
  · subst h; simp [get_put_self]
  · simp [h, get_put_ne x p q t h]
end PT

/-! ### Values -/
inductive AV where
  | bool (b : Bool)
  | int (k : IntKind) (n : Int)
  | str (l : List Nat)
  | nilp
  | ptr (p : Pos) (off : Nat)
  | nils
  | slice (p : Pos) (off len cap : Nat) (soft : Bool)
  | nilm
  | map (p : Pos)
  | nilf
  | func (f : Pos) (first captured : List AV)
  | yield (l : Pos)
  | nili
  | iface (t : TypeId) (v : AV)
  | agg (l : List AV)
  | tup (l : List AV)
  | opq (i : Nat)
  /-- a place in a package's variable -/
  | gptr (g off : Nat)
  /-- some int, not below that -/
  | ge (n : Nat)
  /-- some int from there to there -/
  | rng (lo : Nat) (hi : Option Nat)
  /-- some slice that is so long -/
  | osl (lo : Nat) (hi : Option Nat)
  /-- whatever stands in a spare cell -/
  | any
  /-- some things one behind the other that stay as they are: their cells; how many -/
  | fz (l : List AV) (n : Nat)
  /-- a place in such cells -/
  | fp (l : List AV) (off : Nat)
  /-- no things, and no room for any: nil, or not -/
  | e0
  /-- no things, and not nil -/
  | z1
  deriving Inhabited

def AV.cells : AV → List AV
  | .agg l => l
  | v => [v]

/-- The value of one cell? -/
def AV.one : AV → Bool
  | .agg _ | .tup _ | .any => false
  | _ => true

/-- Where a block of the machine's lies in the world: the block; its first cell's place there; how many elements more than the machine knows. -/
structure RB where
  blk : Nat
  shift : Nat
  extra : Nat

/-! ### Values that name no place -/
mutual
def AV.pf : AV → Bool
  | .ptr _ _ | .slice _ _ _ _ _ | .map _ | .yield _ => false
  | .func _ a b => AV.pfs a && AV.pfs b
  | .iface _ v => AV.pf v
  | .agg l | .tup l => AV.pfs l
  | _ => true
def AV.pfs : List AV → Bool
  | [] => true
  | v :: l => AV.pf v && AV.pfs l
end
theorem AV.pfs_all : ∀ l : List AV, AV.pfs l = l.all AV.pf
  | [] => rfl
  | v :: l => by simp [AV.pfs, AV.pfs_all l]

structure RM where
  m : Pos → Option RB
  env : Nat → Value
  envOk : ∀ i, (env i).cells = #[env i] ∧ (∀ cs, env i ≠ .tuple cs)
  /-- blocks that stay as they are -/
  fr : Nat → Option (List Value) := fun _ => none

def bytesOf (s : ByteArray) : List Nat := s.data.toList.map (·.toNat)

/-- Nothing is asked of where an empty slice stands. -/
def okA (_ : Option Addr) : Prop := True
theorem okA.none : okA none := trivial
theorem okA.some (b o : Nat) : okA (some ⟨b, o, .none⟩) := trivial

mutual
/-- A value of the machine's, and the world's value that it stands for. -/
inductive VR (ρ : RM) : AV → Value → Prop
  | bool (b : Bool) : VR ρ (.bool b) (.bool b)
  | int (k : IntKind) (n : Int) : VR ρ (.int k n) (.int k n)
  | str (s : ByteArray) : VR ρ (.str (bytesOf s)) (.string s)
  | nilp : VR ρ .nilp (.pointer none)
  | ptr {p : Pos} {off : Nat} {rb : RB} : ρ.m p = some rb → VR ρ (.ptr p off) (.pointer (some ⟨rb.blk, rb.shift + off, none⟩))
  | nils : VR ρ .nils (.slice none 0 0)
  | slice {p : Pos} {off len cap : Nat} {soft : Bool} {rb : RB} {off' cap' : Nat} : ρ.m p = some rb → cap' = cap + (if soft then rb.extra else 0) →
      (cap' = 0 ∨ off' = rb.shift + off) → len ≤ cap → VR ρ (.slice p off len cap soft) (.slice (some ⟨rb.blk, off', none⟩) len cap')
  | nilm : VR ρ .nilm (.map none)
  | map {p : Pos} {rb : RB} : ρ.m p = some rb → VR ρ (.map p) (.map (some rb.blk))
  | nilf : VR ρ .nilf .nilFunc
  | func {f : Pos} {fs cs : List AV} {fs' cs' : Array Value} : VRs ρ fs fs'.toList → VRs ρ cs cs'.toList → VR ρ (.func f fs cs) (.func (.func f.idx) fs' cs')
  | yield {l : Pos} {rb : RB} : ρ.m l = some rb → VR ρ (.yield l) (.func (.yield rb.blk) #[] #[])
  | nili : VR ρ .nili .nilIface
  | iface {t : TypeId} {v : AV} {v' : Value} : VR ρ v v' → VR ρ (.iface t v) (.iface t v')
  | agg {l : List AV} {cs : Array Value} : VRs ρ l cs.toList → VR ρ (.agg l) (.agg cs)
  | tup {l : List AV} {cs : Array Value} : VRs ρ l cs.toList → VR ρ (.tup l) (.tuple cs)
  | opq (i : Nat) : VR ρ (.opq i) (ρ.env i)
  | gptr (g off : Nat) : VR ρ (.gptr g off) (.pointer (some ⟨g, off, none⟩))
  | ge {n : Nat} {m : Nat} : n ≤ m → VR ρ (.ge n) (.int .i64 m)
  | any (v : Value) : VR ρ .any v
  | rng {lo : Nat} {hi : Option Nat} {m : Nat} : lo ≤ m → (∀ h, hi = some h → m ≤ h) → VR ρ (.rng lo hi) (.int .i64 m)
  | osl {lo : Nat} {hi : Option Nat} {a : Option Addr} {n c : Nat} : lo ≤ n → (∀ h, hi = some h → n ≤ h) → VR ρ (.osl lo hi) (.slice a n c)
  | fz {l : List AV} {n : Nat} {b off cap : Nat} {c d : List Value} : ρ.fr b = some c → c.drop off = d → VRs ρ l (d.take l.length) → n ≤ cap → AV.pfs l = true → VR ρ (.fz l n) (.slice (some ⟨b, off, none⟩) n cap)
  | fz0 {a : Option Addr} {cap : Nat} : okA a → (a = none → cap = 0) → VR ρ (.fz [] 0) (.slice a 0 cap)
  | fp {l : List AV} {b sh off : Nat} {c d : List Value} : ρ.fr b = some c → c.drop sh = d → VRs ρ l (d.take l.length) → AV.pfs l = true → VR ρ (.fp l off) (.pointer (some ⟨b, sh + off, none⟩))
  | e0 {a : Option Addr} : okA a → VR ρ .e0 (.slice a 0 0)
  | z1 {a : Addr} {cap : Nat} : okA (some a) → VR ρ .z1 (.slice (some a) 0 cap)
inductive VRs (ρ : RM) : List AV → List Value → Prop
  | nil : VRs ρ [] []
  | cons {v : AV} {v' : Value} {l : List AV} {l' : List Value} : VR ρ v v' → VRs ρ l l' → VRs ρ (v :: l) (v' :: l')
end

def RM.le (ρ ρ' : RM) : Prop := (ρ'.env = ρ.env ∧ ∀ b c, ρ.fr b = some c → ρ'.fr b = some c) ∧ ∀ p rb, ρ.m p = some rb → ρ'.m p = some rb
theorem RM.le.refl (ρ : RM) : ρ.le ρ := ⟨⟨rfl, fun _ _ h => h⟩, fun _ _ h => h⟩
theorem RM.le.trans {a b c : RM} (h : a.le b) (h' : b.le c) : a.le c := ⟨⟨h'.1.1.trans h.1.1, fun b c e => h'.1.2 b c (h.1.2 b c e)⟩, fun p rb e => h'.2 p rb (h.2 p rb e)⟩

mutual
theorem VR.mono {ρ ρ' : RM} (hl : ρ.le ρ') : ∀ {v : AV} {v' : Value}, VR ρ v v' → VR ρ' v v'
  | _, _, .bool b => .bool b
  | _, _, .int k n => .int k n
  | _, _, .str s => .str s
  | _, _, .nilp => .nilp
  | _, _, .ptr h => .ptr (hl.2 _ _ h)
  | _, _, .nils => .nils
  | _, _, .slice h a b c => .slice (hl.2 _ _ h) a b c
  | _, _, .nilm => .nilm
  | _, _, .map h => .map (hl.2 _ _ h)
  | _, _, .nilf => .nilf
  | _, _, .func a b => .func (VRs.mono hl a) (VRs.mono hl b)
  | _, _, .yield h => .yield (hl.2 _ _ h)
  | _, _, .nili => .nili
  | _, _, .iface h => .iface (VR.mono hl h)
  | _, _, .agg h => .agg (VRs.mono hl h)
  | _, _, .tup h => .tup (VRs.mono hl h)
  | _, _, .opq i => by rw [← hl.1.1]; exact .opq i
  | _, _, .gptr g off => .gptr g off
  | _, _, .ge h => .ge h
  | _, _, .any v => .any v
  | _, _, .rng a b => .rng a b
  | _, _, .osl a b => .osl a b
  | _, _, .fz a b c d e => .fz (hl.1.2 _ _ a) b (VRs.mono hl c) d e
  | _, _, .fz0 h h' => .fz0 h h'
  | _, _, .fp a b c d => .fp (hl.1.2 _ _ a) b (VRs.mono hl c) d
  | _, _, .e0 h => .e0 h
  | _, _, .z1 h => .z1 h
theorem VRs.mono {ρ ρ' : RM} (hl : ρ.le ρ') : ∀ {l : List AV} {l' : List Value}, VRs ρ l l' → VRs ρ' l l'
  | _, _, .nil => .nil
  | _, _, .cons a b => .cons (VR.mono hl a) (VRs.mono hl b)
end

/- What names no place does not ask where places are. -/
mutual
theorem VR.still {ρ ρ' : RM} (he : ρ'.env = ρ.env) (hf : ρ'.fr = ρ.fr) : ∀ {v : AV} {v' : Value}, AV.pf v = true → VR ρ v v' → VR ρ' v v'
  | _, _, _, .bool b => .bool b
  | _, _, _, .int k n => .int k n
  | _, _, _, .str s => .str s
  | _, _, _, .nilp => .nilp
  | _, _, h, .ptr _ => by cases h
  | _, _, _, .nils => .nils
  | _, _, h, .slice _ _ _ _ => by cases h
  | _, _, _, .nilm => .nilm
  | _, _, h, .map _ => by cases h
  | _, _, _, .nilf => .nilf
  | _, _, h, .func a b => by
    simp only [AV.pf, Bool.and_eq_true] at h
    exact .func (VRs.still he hf h.1 a) (VRs.still he hf h.2 b)
  | _, _, h, .yield _ => by cases h
  | _, _, _, .nili => .nili
  | _, _, h, .iface a => .iface (VR.still he hf (by simpa [AV.pf] using h) a)
  | _, _, h, .agg a => .agg (VRs.still he hf (by simpa [AV.pf] using h) a)
  | _, _, h, .tup a => .tup (VRs.still he hf (by simpa [AV.pf] using h) a)
  | _, _, _, .opq i => by rw [← he]; exact .opq i
  | _, _, _, .gptr g off => .gptr g off
  | _, _, _, .ge h => .ge h
  | _, _, _, .any v => .any v
  | _, _, _, .rng a b => .rng a b
  | _, _, _, .osl a b => .osl a b
  | _, _, _, .fz a b c d e => .fz (by rw [hf]; exact a) b (VRs.still he hf e c) d e
  | _, _, _, .fz0 h h' => .fz0 h h'
  | _, _, _, .fp a b c d => .fp (by rw [hf]; exact a) b (VRs.still he hf d c) d
  | _, _, _, .e0 h => .e0 h
  | _, _, _, .z1 h => .z1 h
theorem VRs.still {ρ ρ' : RM} (he : ρ'.env = ρ.env) (hf : ρ'.fr = ρ.fr) : ∀ {l : List AV} {l' : List Value}, AV.pfs l = true → VRs ρ l l' → VRs ρ' l l'
  | _, _, _, .nil => .nil
  | _, _, h, .cons a b => by
    simp only [AV.pfs, Bool.and_eq_true] at h
    exact .cons (VR.still he hf h.1 a) (VRs.still he hf h.2 b)
end

namespace VRs
variable {ρ : RM}
theorem length : ∀ {l : List AV} {l' : List Value}, VRs ρ l l' → l.length = l'.length
  | _, _, .nil => rfl
  | _, _, .cons _ h => by simp [h.length]
theorem append : ∀ {l m : List AV} {l' m' : List Value}, VRs ρ l l' → VRs ρ m m' → VRs ρ (l ++ m) (l' ++ m')
  | _, _, _, _, .nil, h => h
  | _, _, _, _, .cons a b, h => .cons a (b.append h)
theorem get : ∀ {l : List AV} {l' : List Value}, VRs ρ l l' → ∀ (i : Nat) (v : AV), l[i]? = some v → ∃ v', l'[i]? = some v' ∧ VR ρ v v'
  | _, _, .nil, i, v, h => by simp at h
  | _, _, .cons a _, 0, v, h => by simp at h; subst h; exact ⟨_, rfl, a⟩
  | _, _, .cons _ b, i + 1, v, h => by simpa using b.get i v (by simpa using h)
theorem take : ∀ {l : List AV} {l' : List Value}, VRs ρ l l' → ∀ n, VRs ρ (l.take n) (l'.take n)
  | _, _, .nil, n => by simpa using VRs.nil
  | _, _, .cons _ _, 0 => .nil
  | _, _, .cons a b, n + 1 => .cons a (b.take n)
theorem drop : ∀ {l : List AV} {l' : List Value}, VRs ρ l l' → ∀ n, VRs ρ (l.drop n) (l'.drop n)
  | _, _, .nil, n => by simpa using VRs.nil
  | _, _, .cons a b, 0 => .cons a b
  | _, _, .cons _ b, n + 1 => b.drop n
theorem set : ∀ {l : List AV} {l' : List Value}, VRs ρ l l' → ∀ (i : Nat) {v : AV} {v' : Value}, VR ρ v v' → VRs ρ (l.set i v) (l'.set i v')
  | _, _, .nil, i, _, _, _ => by simpa using VRs.nil
  | _, _, .cons _ b, 0, _, _, h => .cons h b
  | _, _, .cons a b, i + 1, _, _, h => .cons a (b.set i h)
theorem replicate (n : Nat) {v : AV} {v' : Value} (h : VR ρ v v') : VRs ρ (List.replicate n v) (List.replicate n v') := by
  induction n with
  | zero => exact .nil
  | succ n ih => exact .cons h ih
end VRs

def AV.isAny : AV → Bool
  | .any => true
  | _ => false
theorem AV.isAny_of_one {v : AV} (h : v.cells.all AV.one = true) : v.isAny = false := by
  cases v <;> first | rfl | (simp [AV.cells, AV.one] at h)

theorem VR.cells {ρ : RM} {v : AV} {v' : Value} (h : VR ρ v v') (ha : v.isAny = false) : VRs ρ v.cells v'.cells.toList := by
  cases h <;> first | (cases ha; done) | exact .cons (by constructor <;> assumption) .nil | (rename_i h; exact h) | skip
  rename_i i
  rw [(ρ.envOk i).1]
  exact .cons (.opq i) .nil

theorem VR.one {ρ : RM} {v : AV} {v' : Value} (h : VR ρ v v') (h1 : v.one = true) : (∀ cs, v' ≠ .agg cs) ∧ (∀ cs, v' ≠ .tuple cs) := by
  cases h <;> simp [AV.one] at h1 ⊢
  rename_i i
  refine ⟨fun cs e => ?_, fun cs e => (ρ.envOk i).2 cs e⟩
  have := (ρ.envOk i).1
  rw [e] at this
  simp only [Value.cells] at this
  have h2 := congrArg (fun a : Array Value => SizeOf.sizeOf a) this
  simp at h2
  omega

end Go.AM
