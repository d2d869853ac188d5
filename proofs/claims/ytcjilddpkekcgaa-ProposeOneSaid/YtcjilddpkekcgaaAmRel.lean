/-
  THE MACHINE 'AM' AGAINST THE MODEL'S WORLD: the relation of its heap with a world, and what a step may do to both.
-/
import Derived.Test.YtcjilddpkekcgaaAmRun
import Derived.RangeFuncLeaves
import Derived.OrdersIn
import Derived.Laws.World
namespace Go.AM

def HObj.isRo : HObj → Bool
  | .cells _ _ ro => ro
  | _ => false

/-- No cell of the row is frozen. -/
def frozenFree (c : Array Value) (fz : Nat × Nat) : Prop := ∀ i, fz.1 ≤ i → i < fz.2 → c.size ≤ i

/-- What is frozen in a row: nothing but what stands behind its end, and that only where an element is one cell. -/
def fzOk (esz : Nat) (c : Array Value) (fz : Nat × Nat) : Prop := frozenFree c fz ∧ (esz ≠ 1 → fz.2 ≤ fz.1) ∧ fz.1 ≤ fz.2

theorem fzOk.zero (esz : Nat) (c : Array Value) : fzOk esz c (0, 0) := ⟨fun i _ h2 => absurd h2 (by omega), fun _ => Nat.le_refl _, Nat.le_refl _⟩
theorem fzOk.size {esz : Nat} {c c' : Array Value} {fz : Nat × Nat} (h : fzOk esz c fz) (hs : c'.size = c.size) : fzOk esz c' fz := ⟨fun i a b => by rw [hs]; exact h.1 i a b, h.2⟩

def TmRel (ρ : RM) (tm : Tm) (tmps : Array Value) : Prop := ∀ p v, tm.get p = some v → ∃ v', tmps[p.idx]? = some v' ∧ VR ρ v v'

/-- Entries of a map, one behind the other. -/
inductive MapRel (ρ : RM) : List (AV × AV × Nat) → List MapEntry → Prop
  | nil : MapRel ρ [] []
  | cons {k v : AV} {b : Nat} {k' v' : Value} {l : List (AV × AV × Nat)} {l' : List MapEntry} : VR ρ k k' → VR ρ v v' → MapRel ρ l l' → MapRel ρ ((k, v, b) :: l) ({ key := k', val := v', born := b } :: l')
theorem MapRel.mono {ρ ρ' : RM} (hl : ρ.le ρ') : ∀ {l : List (AV × AV × Nat)} {l' : List MapEntry}, MapRel ρ l l' → MapRel ρ' l l'
  | _, _, .nil => .nil
  | _, _, .cons a b h => .cons (a.mono hl) (b.mono hl) (h.mono hl)

def ORel (ρ : RM) (o : HObj) (rb : RB) (w : World) : Prop :=
  match o with
  | .cells l esz ro => ∃ c t fz, w.heap[rb.blk]? = some (.cells c t fz) ∧ rb.shift + l.length + rb.extra * esz ≤ c.size ∧
      (∀ i v, l[i]? = some v → ∃ v', c[rb.shift + i]? = some v' ∧ VR ρ v v') ∧ (ro = false → fzOk esz c fz)
  | .dfr b => w.heap[rb.blk]? = some (.deferred (if b then some [] else none))
  | .loop st pend tm _fn nt ps as bd d => ∃ tmps rd fn', nt ≤ tmps.size ∧ w.heap[rb.blk]? = some (.loop { state := st, pending := pend, fn := fn', tmps := tmps, params := ps, assign := as, body := bd, defers := rd.blk }) ∧
      TmRel ρ tm tmps ∧ ρ.m d = some rd
  | .map es clock => ∃ es', w.heap[rb.blk]? = some (.map es' clock) ∧ MapRel ρ es es'.toList
  | .miter m since seen stepped => rb.shift = 0 ∧ ∃ m', (match m with | none => m' = none | some p => ∃ r, ρ.m p = some r ∧ m' = some r.blk) ∧ w.heap[rb.blk]? = some (.mapIter m' since seen.toArray stepped)
  | .siter l pos => rb.shift = 0 ∧ ∃ s, bytesOf s = l ∧ w.heap[rb.blk]? = some (.stringIter s pos)

theorem TmRel.mono {ρ ρ' : RM} (hl : ρ.le ρ') {tm : Tm} {t : Array Value} (h : TmRel ρ tm t) : TmRel ρ' tm t := fun p v e =>
  let ⟨v', h1, h2⟩ := h p v e; ⟨v', h1, h2.mono hl⟩

theorem ORel.mono {ρ ρ' : RM} (hl : ρ.le ρ') {o : HObj} {rb : RB} {w w' : World} (hw : w'.heap[rb.blk]? = w.heap[rb.blk]?) (h : ORel ρ o rb w) : ORel ρ' o rb w' := by
  cases o with
  | cells l esz ro =>
    obtain ⟨c, t, fz, h1, h2, h3, h4⟩ := h
    exact ⟨c, t, fz, hw.trans h1, h2, fun i v e => let ⟨v', a, b⟩ := h3 i v e; ⟨v', a, b.mono hl⟩, h4⟩
  | dfr b => exact hw.trans h
  | loop st pend tm fn nt ps as bd d =>
    obtain ⟨tmps, rd, fn', h0, h1, h2, h3⟩ := h
    exact ⟨tmps, rd, fn', h0, hw.trans h1, h2.mono hl, hl.2 _ _ h3⟩
  | map es clock =>
    obtain ⟨es', h1, h2⟩ := h
    exact ⟨es', hw.trans h1, h2.mono hl⟩
  | siter l pos =>
    obtain ⟨h0, s, h1, h2⟩ := h
    exact ⟨h0, s, h1, hw.trans h2⟩
  | miter m since seen stepped =>
    obtain ⟨h0, m', h1, h2⟩ := h
    refine ⟨h0, m', ?_, hw.trans h2⟩
    cases m with
    | none => exact h1
    | some p => obtain ⟨r, h3, h4⟩ := h1; exact ⟨r, hl.2 _ _ h3, h4⟩

inductive MkRel (ρ : RM) : List Mk → List Deferred → Prop
  | nil : MkRel ρ [] []
  | col {p : Pos} {rb : RB} {l : List Mk} {ds : List Deferred} : ρ.m p = some rb → MkRel ρ l ds → MkRel ρ (.col p :: l) ({ target := .collected rb.blk, args := #[] } :: ds)
  | fn {g : Pos} {as cs : List AV} {as' cs' : Array Value} {l : List Mk} {ds : List Deferred} : VRs ρ as as'.toList → VRs ρ cs cs'.toList → MkRel ρ l ds → MkRel ρ (.fn g as cs :: l) ({ target := .fn (.func g.idx) cs', args := as' } :: ds)
theorem MkRel.mono {ρ ρ' : RM} (hl : ρ.le ρ') : ∀ {l : List Mk} {ds : List Deferred}, MkRel ρ l ds → MkRel ρ' l ds
  | _, _, .nil => .nil
  | _, _, .col h t => .col (hl.2 _ _ h) (t.mono hl)
  | _, _, .fn a b t => .fn (a.mono hl) (b.mono hl) (t.mono hl)

def RndRel (ρ : RM) : Option Pos → Option Nat → Prop
  | none, none => True
  | some l, some b => ∃ rb, ρ.m l = some rb ∧ rb.blk = b
  | _, _ => False
theorem RndRel.mono {ρ ρ' : RM} (hl : ρ.le ρ') : ∀ {x : Option Pos} {y : Option Nat}, RndRel ρ x y → RndRel ρ' x y
  | none, none, _ => trivial
  | some _, some _, ⟨rb, h, e⟩ => ⟨rb, hl.2 _ _ h, e⟩
  | none, some _, h => h.elim
  | some _, none, h => h.elim

structure Rel (ρ : RM) (A : H) (w : World) : Prop where
  obj : ∀ p o rb, A.t.get p = some o → ρ.m p = some rb → ORel ρ o rb w
  inj : ∀ p q o o' rb rb', A.t.get p = some o → A.t.get q = some o' → ρ.m p = some rb → ρ.m q = some rb' → rb.blk = rb'.blk → p = q ∨ (o.isRo = true ∧ o'.isRo = true)
  dom : ∀ p rb, ρ.m p = some rb → p.idx < A.next.idx ∧ rb.blk < w.heap.size
  ids : ∀ p o, A.t.get p = some o → p.idx < A.next.idx
  glob : ∀ g, g < A.ng → ρ.m (Pos.ofNat g) = some ⟨g, 0, 0⟩
  /-- what stays as it is is there, and nothing that may be turned is it -/
  frz : ∀ b c, ρ.fr b = some c → (∃ d t z, w.heap[b]? = some (.cells d t z) ∧ d.toList = c) ∧ ∀ p o rb, A.t.get p = some o → ρ.m p = some rb → o.isRo = false → rb.blk ≠ b

theorem Rel.frlt {ρ : RM} {A : H} {w : World} (h : Rel ρ A w) {b : Nat} {c : List Value} (e : ρ.fr b = some c) : b < w.heap.size := by
  obtain ⟨⟨d, t, z, h1, _⟩, _⟩ := h.frz b c e
  exact (Array.getElem?_eq_some_iff.1 h1).1

def Owned (ρ : RM) (A : H) (r : Nat) : Prop := ∃ p o rb, A.t.get p = some o ∧ o.isRo = false ∧ ρ.m p = some rb ∧ rb.blk = r

structure Stp (ρ : RM) (A : H) (w : World) (ρ' : RM) (A' : H) (w' : World) : Prop where
  le : ρ.le ρ'
  next : A.next.idx ≤ A'.next.idx
  size : w.heap.size ≤ w'.heap.size
  os : w'.os = w.os
  output : w'.output = w.output
  tape : w'.tape = w.tape
  keep : ∀ r, r < w.heap.size → ¬ Owned ρ A r → w'.heap[r]? = w.heap[r]?
  own : ∀ r, r < w.heap.size → Owned ρ' A' r → Owned ρ A r
  /-- a place that was there has no block that it had not -/
  fresh : ∀ p rb, ρ'.m p = some rb → p.idx < A.next.idx → ρ.m p = some rb
  /-- what stays as it is from now on was known so, or one's own, or new -/
  frz : ∀ b c, ρ'.fr b = some c → ρ.fr b = some c ∨ Owned ρ A b ∨ w.heap.size ≤ b

theorem Stp.refl {ρ : RM} {A : H} {w : World} : Stp ρ A w ρ A w :=
  ⟨.refl _, Nat.le_refl _, Nat.le_refl _, rfl, rfl, rfl, fun _ _ _ => rfl, fun _ _ h => h, fun _ _ h _ => h, fun _ _ h => .inl h⟩

theorem Stp.trans {ρ ρ1 ρ2 : RM} {A A1 A2 : H} {w w1 w2 : World} (h : Stp ρ A w ρ1 A1 w1) (h' : Stp ρ1 A1 w1 ρ2 A2 w2) : Stp ρ A w ρ2 A2 w2 where
  le := h.le.trans h'.le
  next := Nat.le_trans h.next h'.next
  size := Nat.le_trans h.size h'.size
  os := h'.os.trans h.os
  output := h'.output.trans h.output
  tape := h'.tape.trans h.tape
  keep r hr hn := (h'.keep r (Nat.lt_of_lt_of_le hr h.size) (fun ho => hn (h.own r hr ho))).trans (h.keep r hr hn)
  own r hr ho := h.own r hr (h'.own r (Nat.lt_of_lt_of_le hr h.size) ho)
  fresh p rb hr hp := h.fresh p rb (h'.fresh p rb hr (Nat.lt_of_lt_of_le hp h.next)) hp
  frz b c e := by
    rcases h'.frz b c e with h1 | h1 | h1
    · exact h.frz b c h1
    · by_cases hb : b < w.heap.size
      · exact .inr (.inl (h.own b hb h1))
      · exact .inr (.inr (by omega))
    · exact .inr (.inr (Nat.le_trans h.size h1))

theorem Rel.congr {ρ : RM} {A B : H} {w : World} (h : Rel ρ A w) (hg : ∀ q, A.t.get q = B.t.get q) (hn : A.next = B.next) (hng : A.ng = B.ng) : Rel ρ B w :=
  ⟨fun p o rb e er => h.obj p o rb ((hg p).trans e) er, fun p q o o' rb rb' e e' => h.inj p q o o' rb rb' ((hg p).trans e) ((hg q).trans e'), fun p rb e => hn ▸ h.dom p rb e, fun p o e => hn ▸ h.ids p o ((hg p).trans e), fun g hg' => h.glob g (hng ▸ hg'), fun b c e => ⟨(h.frz b c e).1, fun p o rb e1 => (h.frz b c e).2 p o rb ((hg p).trans e1)⟩⟩
theorem Stp.congr {ρ ρ' : RM} {A A' B' : H} {w w' : World} (h : Stp ρ A w ρ' A' w') (hg : ∀ q, A'.t.get q = B'.t.get q) (hn : A'.next = B'.next) : Stp ρ A w ρ' B' w' :=
  ⟨h.le, hn ▸ h.next, h.size, h.os, h.output, h.tape, h.keep, fun r hr ⟨p, o, rb, e, x⟩ => h.own r hr ⟨p, o, rb, (hg p).trans e, x⟩, h.fresh, h.frz⟩

theorem Stp.drew {ρ : RM} {A : H} {w : World} : Stp ρ A w ρ A w.drew :=
  ⟨.refl _, Nat.le_refl _, Nat.le_refl _, rfl, rfl, rfl, fun _ _ _ => rfl, fun _ _ h => h, fun _ _ h _ => h, fun _ _ h => .inl h⟩
theorem Rel.drew {ρ : RM} {A : H} {w : World} (h : Rel ρ A w) : Rel ρ A w.drew :=
  ⟨fun p o rb a b => (h.obj p o rb a b).mono (.refl _) rfl, h.inj, h.dom, h.ids, h.glob, h.frz⟩

def RM.at (ρ : RM) (p : Pos) (rb : RB) : RM := { ρ with m := fun q => if q = p then some rb else ρ.m q }
theorem RM.at_self (ρ : RM) (p : Pos) (rb : RB) : (ρ.at p rb).m p = some rb := by simp [RM.at]
theorem RM.at_ne (ρ : RM) (p q : Pos) (rb : RB) (h : q ≠ p) : (ρ.at p rb).m q = ρ.m q := by simp [RM.at, h]
theorem RM.le_at {ρ : RM} {p : Pos} {rb : RB} (h : ρ.m p = none) : ρ.le (ρ.at p rb) :=
  ⟨⟨rfl, fun _ _ e => e⟩, fun q r e => by
    by_cases hq : q = p
    · subst hq; rw [h] at e; cases e
    · rw [RM.at_ne _ _ _ _ hq]; exact e⟩

theorem Rel.fresh_none {ρ : RM} {A : H} {w : World} (h : Rel ρ A w) : ρ.m A.next = none := by
  cases e : ρ.m A.next with
  | none => rfl
  | some rb => exact absurd (h.dom _ _ e).1 (Nat.lt_irrefl _)

theorem heap_alloc_old (w : World) (O : Obj) {r : Nat} (h : r < w.heap.size) : (w.alloc O).heap[r]? = w.heap[r]? := by
  show (w.heap.push O)[r]? = _
  rw [Array.getElem?_push, if_neg (by omega)]
theorem heap_alloc_new (w : World) (O : Obj) : (w.alloc O).heap[w.heap.size]? = some O := by
  show (w.heap.push O)[w.heap.size]? = _
  simp

/-- **A new object.** The block may be one that the world had: 'B'; what was known of it is let go ahead ('Rel.kill'). -/
theorem Rel.newAt {ρ : RM} {A : H} {w : World} (h : Rel ρ A w) (o : HObj) (rb : RB) (hB : rb.blk < w.heap.size)
    (hno : ∀ p o' rb', A.t.get p = some o' → ρ.m p = some rb' → rb'.blk ≠ rb.blk)
    (ho : ORel (ρ.at A.next rb) o rb w) (hfr : o.isRo = false → ρ.fr rb.blk = none) : Rel (ρ.at A.next rb) (A.new o) w := by
  have hn := h.fresh_none
  have hle : ρ.le (ρ.at A.next rb) := RM.le_at hn
  have key : ∀ p x, (A.new o).t.get p = some x → (p = A.next ∧ x = o) ∨ (p ≠ A.next ∧ A.t.get p = some x) := by
    intro p x e
    simp only [H.new, PT.get_put] at e
    by_cases hp : p = A.next
    · simp [hp] at e; exact .inl ⟨hp, e.symm⟩
    · simp [hp] at e; exact .inr ⟨hp, e⟩
  refine ⟨fun p x r e er => ?_, fun p q x y r r' e e' er er' hb => ?_, fun p r er => ?_, fun p x e => ?_, fun g hg => hle.2 _ _ (h.glob g hg), fun b c eb => ⟨(h.frz b c eb).1, fun p x r e er hx hb => ?_⟩⟩
  · rcases key p x e with ⟨rfl, rfl⟩ | ⟨hp, e⟩
    · rw [RM.at_self] at er; cases er; exact ho
    · rw [RM.at_ne _ _ _ _ hp] at er; exact (h.obj p x r e er).mono hle rfl
  · rcases key p x e with ⟨hp, _⟩ | ⟨hp, ex⟩ <;> rcases key q y e' with ⟨hq, _⟩ | ⟨hq, ey⟩
    · exact .inl (hp.trans hq.symm)
    · subst hp; rw [RM.at_self] at er; cases er; rw [RM.at_ne _ _ _ _ hq] at er'; exact absurd hb.symm (hno q y r' ey er')
    · subst hq; rw [RM.at_self] at er'; cases er'; rw [RM.at_ne _ _ _ _ hp] at er; exact absurd hb (hno p x r ex er)
    · rw [RM.at_ne _ _ _ _ hp] at er; rw [RM.at_ne _ _ _ _ hq] at er'; exact h.inj p q x y r r' ex ey er er' hb
  · simp only [H.new, Pos.idx_succ]
    by_cases hp : p = A.next
    · subst hp; rw [RM.at_self] at er; cases er; exact ⟨Nat.lt_succ_self _, hB⟩
    · rw [RM.at_ne _ _ _ _ hp] at er; exact ⟨Nat.lt_succ_of_lt (h.dom p r er).1, (h.dom p r er).2⟩
  · simp only [H.new, Pos.idx_succ]
    rcases key p x e with ⟨rfl, _⟩ | ⟨_, e⟩
    · exact Nat.lt_succ_self _
    · exact Nat.lt_succ_of_lt (h.ids p x e)
  · rcases key p x e with ⟨rfl, rfl⟩ | ⟨hp, e⟩
    · rw [RM.at_self] at er; cases er
      have : ρ.fr b = some c := eb
      rw [← hb, hfr hx] at this; cases this
    · rw [RM.at_ne _ _ _ _ hp] at er; exact (h.frz b c eb).2 p x r e er hx hb

theorem Rel.alloc {ρ : RM} {A : H} {w : World} (h : Rel ρ A w) (O : Obj) : Rel ρ A (w.alloc O) :=
  ⟨fun p o rb a b => (h.obj p o rb a b).mono (.refl _) (heap_alloc_old w O (h.dom p rb b).2), h.inj,
    fun p rb e => ⟨(h.dom p rb e).1, by have := (h.dom p rb e).2; rw [World.size_alloc]; omega⟩, h.ids, h.glob, fun b c e => ⟨by obtain ⟨d, t, z, h1, h2⟩ := (h.frz b c e).1; exact ⟨d, t, z, (heap_alloc_old w O (h.frlt e)).trans h1, h2⟩, (h.frz b c e).2⟩⟩

theorem Stp.alloc {ρ : RM} {A : H} {w : World} (O : Obj) : Stp ρ A w ρ A (w.alloc O) :=
  ⟨.refl _, Nat.le_refl _, by rw [World.size_alloc]; omega, rfl, rfl, rfl, fun _ hr _ => heap_alloc_old w O hr, fun _ _ h => h, fun _ _ h _ => h, fun _ _ h => .inl h⟩

theorem Stp.newAt {ρ : RM} {A : H} {w : World} (h : Rel ρ A w) (o : HObj) (rb : RB) (hb : rb.blk < w.heap.size → o.isRo = false → Owned ρ A rb.blk) : Stp ρ A w (ρ.at A.next rb) (A.new o) w := by
  refine ⟨RM.le_at h.fresh_none, ?_, Nat.le_refl _, rfl, rfl, rfl, fun _ _ _ => rfl, fun r hr ho => ?_, fun p r e hp => ?_, fun _ _ h => .inl h⟩
  · simp [H.new, Pos.idx_succ]
  · obtain ⟨p, x, rb', e, hx, er, rfl⟩ := ho
    simp only [H.new, PT.get_put] at e
    by_cases hp : p = A.next
    · subst hp; rw [RM.at_self] at er; cases er; simp at e; subst e; exact hb hr hx
    · simp [hp] at e; rw [RM.at_ne _ _ _ _ hp] at er; exact ⟨p, x, rb', e, hx, er, rfl⟩
  · have hne : p ≠ A.next := fun e' => by subst e'; exact absurd hp (Nat.lt_irrefl _)
    rwa [RM.at_ne _ _ _ _ hne] at e

/-- **A new object in a new block.** -/
theorem Rel.new {ρ : RM} {A : H} {w : World} (h : Rel ρ A w) (o : HObj) (O : Obj) (extra : Nat) (ho : ORel (ρ.at A.next ⟨w.heap.size, 0, extra⟩) o ⟨w.heap.size, 0, extra⟩ (w.alloc O)) :
    Rel (ρ.at A.next ⟨w.heap.size, 0, extra⟩) (A.new o) (w.alloc O) ∧ Stp ρ A w (ρ.at A.next ⟨w.heap.size, 0, extra⟩) (A.new o) (w.alloc O) := by
  have h1 := h.alloc O
  refine ⟨h1.newAt o ⟨w.heap.size, 0, extra⟩ (by show w.heap.size < (w.alloc O).heap.size; rw [World.size_alloc]; omega) (fun p o' rb' e er => ?_) ho (fun _ => ?_), ?_⟩
  · have := (h.dom p rb' er).2; show rb'.blk ≠ w.heap.size; omega
  · cases e : ρ.fr w.heap.size with
    | none => rfl
    | some c => exact absurd (h.frlt e) (Nat.lt_irrefl _)
  · refine ⟨RM.le_at h.fresh_none, by simp [H.new, Pos.idx_succ], by rw [World.size_alloc]; omega, rfl, rfl, rfl, fun r hr _ => heap_alloc_old w O hr, fun r hr ho' => ?_, fun p r e hp => ?_, fun _ _ h => .inl h⟩
    · obtain ⟨p, x, rb', e, hx, er, rfl⟩ := ho'
      simp only [H.new, PT.get_put] at e
      by_cases hp : p = A.next
      · subst hp; rw [RM.at_self] at er; cases er; exact absurd hr (Nat.lt_irrefl _)
      · simp [hp] at e; rw [RM.at_ne _ _ _ _ hp] at er; exact ⟨p, x, rb', e, hx, er, rfl⟩
    · have hne : p ≠ A.next := fun e' => by subst e'; exact absurd hp (Nat.lt_irrefl _)
      rwa [RM.at_ne _ _ _ _ hne] at e

theorem Rel.unfrozen {ρ : RM} {A : H} {w : World} (h : Rel ρ A w) {p : Pos} {o : HObj} {rb : RB} (hp : A.t.get p = some o) (hm : ρ.m p = some rb) (hro : o.isRo = false) : ρ.fr rb.blk = none := by
  cases e : ρ.fr rb.blk with
  | none => rfl
  | some c => exact absurd rfl ((h.frz _ c e).2 p o rb hp hm hro)

/-- w' is w with one block turned. -/
structure Turned (w : World) (r : Nat) (w' : World) : Prop where
  size : w'.heap.size = w.heap.size
  os : w'.os = w.os
  output : w'.output = w.output
  tape : w'.tape = w.tape
  other : ∀ k, k ≠ r → w'.heap[k]? = w.heap[k]?

/-- **An object is turned.** -/
theorem Rel.turn {ρ : RM} {A : H} {w w' : World} (h : Rel ρ A w) {p : Pos} {o o' : HObj} {rb : RB} (hp : A.t.get p = some o) (hr : ρ.m p = some rb) (hro : o.isRo = false) (hro' : o'.isRo = false)
    (ht : Turned w rb.blk w') (ho : ORel ρ o' rb w') : Rel ρ (A.set p (some o')) w' ∧ Stp ρ A w ρ (A.set p (some o')) w' := by
  have key : ∀ q x, (A.set p (some o')).t.get q = some x → (q = p ∧ x = o') ∨ (q ≠ p ∧ A.t.get q = some x) := by
    intro q x e
    simp only [H.set, PT.get_put] at e
    by_cases hq : q = p
    · simp [hq] at e; exact .inl ⟨hq, e.symm⟩
    · simp [hq] at e; exact .inr ⟨hq, e⟩
  have apart : ∀ q x r, q ≠ p → A.t.get q = some x → ρ.m q = some r → r.blk ≠ rb.blk := by
    intro q x r hq hx er hb
    rcases h.inj q p x o r rb hx hp er hr hb with e | ⟨_, e⟩
    · exact hq e
    · rw [hro] at e; cases e
  refine ⟨⟨fun q x r e er => ?_, fun q q' x y r r' e e' er er' hb => ?_, fun q r er => ?_, fun q x e => ?_, h.glob, fun b c eb => ⟨?_, fun q x r e er hx hb => ?_⟩⟩, ?_⟩
  · rcases key q x e with ⟨rfl, rfl⟩ | ⟨hq, e⟩
    · rw [hr] at er; cases er; exact ho
    · exact (h.obj q x r e er).mono (.refl _) (ht.other _ (apart q x r hq e er))
  · rcases key q x e with ⟨hq, _⟩ | ⟨hq, ex⟩ <;> rcases key q' y e' with ⟨hq', _⟩ | ⟨hq', ey⟩
    · exact .inl (hq.trans hq'.symm)
    · subst hq; rw [hr] at er; cases er; exact absurd hb.symm (apart q' y r' hq' ey er')
    · subst hq'; rw [hr] at er'; cases er'; exact absurd hb (apart q x r hq ex er)
    · exact h.inj q q' x y r r' ex ey er er' hb
  · exact ⟨(h.dom q r er).1, by rw [ht.size]; exact (h.dom q r er).2⟩
  · rcases key q x e with ⟨rfl, rfl⟩ | ⟨_, e⟩
    · exact h.ids q o hp
    · exact h.ids q x e
  · obtain ⟨d, t, z, h1, h2⟩ := (h.frz b c eb).1
    exact ⟨d, t, z, (ht.other b fun e => (h.frz b c eb).2 p o rb hp hr hro e.symm).trans h1, h2⟩
  · rcases key q x e with ⟨rfl, rfl⟩ | ⟨_, e⟩
    · rw [hr] at er; cases er; exact (h.frz b c eb).2 q o rb hp hr hro hb
    · exact (h.frz b c eb).2 q x r e er hx hb
  · refine ⟨.refl _, Nat.le_refl _, by rw [ht.size]; exact Nat.le_refl _, ht.os, ht.output, ht.tape, fun r _ hn => ht.other r (fun e => hn ⟨p, o, rb, hp, hro, hr, e.symm⟩), fun r _ ho' => ?_, fun _ _ h _ => h, fun _ _ h => .inl h⟩
    · obtain ⟨q, x, r', e, hx, er, hb⟩ := ho'
      rcases key q x e with ⟨rfl, rfl⟩ | ⟨_, e⟩
      · exact ⟨q, o, r', hp, hro, er, hb⟩
      · exact ⟨q, x, r', e, hx, er, hb⟩

/-- **An object is let go.** -/
theorem Rel.kill {ρ : RM} {A : H} {w : World} (h : Rel ρ A w) (p : Pos) : Rel ρ (A.set p none) w ∧ Stp ρ A w ρ (A.set p none) w := by
  have key : ∀ q x, (A.set p none).t.get q = some x → q ≠ p ∧ A.t.get q = some x := by
    intro q x e
    simp only [H.set, PT.get_put] at e
    by_cases hq : q = p
    · simp [hq] at e
    · simp [hq] at e; exact ⟨hq, e⟩
  refine ⟨⟨fun q x r e er => h.obj q x r (key q x e).2 er, fun q q' x y r r' e e' => h.inj q q' x y r r' (key q x e).2 (key q' y e').2, h.dom, fun q x e => h.ids q x (key q x e).2, h.glob, fun b c e => ⟨(h.frz b c e).1, fun q x rb e1 => (h.frz b c e).2 q x rb (key q x e1).2⟩⟩, ?_⟩
  refine ⟨.refl _, Nat.le_refl _, Nat.le_refl _, rfl, rfl, rfl, fun _ _ _ => rfl, fun r _ ho => ?_, fun _ _ h _ => h, fun _ _ h => .inl h⟩
  obtain ⟨q, x, r', e, hx, er, hb⟩ := ho
  exact ⟨q, x, r', (key q x e).2, hx, er, hb⟩

/-- **An object whose block is not there yet.** -/
theorem Rel.later {ρ : RM} {A : H} {w : World} (h : Rel ρ A w) (o : HObj) : Rel ρ (A.new o) w ∧ Stp ρ A w ρ (A.new o) w := by
  have hn := h.fresh_none
  have key : ∀ p x rb, (A.new o).t.get p = some x → ρ.m p = some rb → A.t.get p = some x := by
    intro p x rb e er
    simp only [H.new, PT.get_put] at e
    by_cases hp : p = A.next
    · subst hp; rw [hn] at er; cases er
    · simpa [hp] using e
  refine ⟨⟨fun p x r e er => h.obj p x r (key p x r e er) er, fun p q x y r r' e e' er er' => h.inj p q x y r r' (key p x r e er) (key q y r' e' er') er er',
    fun p r er => ⟨?_, (h.dom p r er).2⟩, fun p x e => ?_, h.glob, fun b c e => ⟨(h.frz b c e).1, fun p x rb e1 e2 => (h.frz b c e).2 p x rb (key p x rb e1 e2) e2⟩⟩, ⟨.refl _, ?_, Nat.le_refl _, rfl, rfl, rfl, fun _ _ _ => rfl, fun r _ ho => ?_, fun _ _ h _ => h, fun _ _ h => .inl h⟩⟩
  · simp only [H.new, Pos.idx_succ]; exact Nat.lt_succ_of_lt (h.dom p r er).1
  · simp only [H.new, Pos.idx_succ, PT.get_put] at e ⊢
    by_cases hp : p = A.next
    · subst hp; exact Nat.lt_succ_self _
    · simp [hp] at e; exact Nat.lt_succ_of_lt (h.ids p x e)
  · simp [H.new, Pos.idx_succ]
  · obtain ⟨p, x, rb, e, hx, er, hb⟩ := ho
    exact ⟨p, x, rb, key p x rb e er, hx, er, hb⟩

/-- **Its block is laid.** -/
theorem Rel.laid {ρ0 ρ : RM} {A0 A : H} {w0 w : World} (h : Rel ρ A w) (hs : Stp ρ0 A0 w0 ρ A w) {p : Pos} {o : HObj} (O : Obj) (hp : A.t.get p = some o) (hn : ρ.m p = none) (hp0 : A0.next.idx ≤ p.idx) (extra : Nat)
    (ho : ORel (ρ.at p ⟨w.heap.size, 0, extra⟩) o ⟨w.heap.size, 0, extra⟩ (w.alloc O)) :
    Rel (ρ.at p ⟨w.heap.size, 0, extra⟩) A (w.alloc O) ∧ Stp ρ0 A0 w0 (ρ.at p ⟨w.heap.size, 0, extra⟩) A (w.alloc O) := by
  have hle : ρ.le (ρ.at p ⟨w.heap.size, 0, extra⟩) := RM.le_at hn
  have hsz : (w.alloc O).heap.size = w.heap.size + 1 := World.size_alloc _ _
  refine ⟨⟨fun q x r e er => ?_, fun q q' x y r r' e e' er er' hb => ?_, fun q r er => ?_, h.ids, fun g hg => hle.2 _ _ (h.glob g hg), fun b c eb => ⟨?_, fun q x r e er hx hb => ?_⟩⟩, ?_⟩
  · by_cases hq : q = p
    · subst hq; rw [RM.at_self] at er; cases er; rw [hp] at e; cases e; exact ho
    · rw [RM.at_ne _ _ _ _ hq] at er; exact (h.obj q x r e er).mono hle (heap_alloc_old w O (h.dom q r er).2)
  · by_cases hq : q = p <;> by_cases hq' : q' = p
    · exact .inl (hq.trans hq'.symm)
    · subst hq; rw [RM.at_self] at er; cases er; rw [RM.at_ne _ _ _ _ hq'] at er'
      have := (h.dom q' r' er').2
      simp only at hb; omega
    · subst hq'; rw [RM.at_self] at er'; cases er'; rw [RM.at_ne _ _ _ _ hq] at er
      have := (h.dom q r er).2
      simp only at hb; omega
    · rw [RM.at_ne _ _ _ _ hq] at er; rw [RM.at_ne _ _ _ _ hq'] at er'; exact h.inj q q' x y r r' e e' er er' hb
  · by_cases hq : q = p
    · subst hq; rw [RM.at_self] at er; cases er; exact ⟨h.ids q o hp, by rw [hsz]; exact Nat.lt_succ_self _⟩
    · rw [RM.at_ne _ _ _ _ hq] at er; exact ⟨(h.dom q r er).1, by have := (h.dom q r er).2; omega⟩
  · obtain ⟨d, t, z, h1, h2⟩ := (h.frz b c eb).1
    exact ⟨d, t, z, (heap_alloc_old w O (h.frlt eb)).trans h1, h2⟩
  · by_cases hq : q = p
    · subst hq; rw [RM.at_self] at er; cases er
      have := h.frlt eb
      simp only at hb; omega
    · rw [RM.at_ne _ _ _ _ hq] at er; exact (h.frz b c eb).2 q x r e er hx hb
  · refine ⟨hs.le.trans hle, hs.next, by have := hs.size; omega, hs.os, hs.output, hs.tape, fun r hr hno => ?_, fun r hr hown => ?_, fun q r er hq => ?_, hs.frz⟩
    · exact (heap_alloc_old w O (Nat.lt_of_lt_of_le hr hs.size)).trans (hs.keep r hr hno)
    · obtain ⟨q, x, rb, e, hx, er, hb⟩ := hown
      by_cases hq : q = p
      · subst hq; rw [RM.at_self] at er; cases er; have := hs.size; simp only at hb; omega
      · rw [RM.at_ne _ _ _ _ hq] at er; exact hs.own r hr ⟨q, x, rb, e, hx, er, hb⟩
    · have hne : q ≠ p := fun e' => by subst e'; omega
      rw [RM.at_ne _ _ _ _ hne] at er; exact hs.fresh q r er hq

/-! ### What stays as it is -/
def RM.ice (ρ : RM) (b : Nat) (c : List Value) : RM := { ρ with fr := fun x => if x = b then some c else ρ.fr x }
theorem RM.le_ice {ρ : RM} {A : H} {w : World} (h : Rel ρ A w) {b : Nat} {d : Array Value} {t : TypeId} {z : Nat × Nat} (hb : w.heap[b]? = some (.cells d t z)) : ρ.le (ρ.ice b d.toList) := by
  refine ⟨⟨rfl, fun x c e => ?_⟩, fun _ _ e => e⟩
  show (if x = b then some d.toList else ρ.fr x) = some c
  by_cases hx : x = b
  · subst hx
    obtain ⟨d', t', z', h1, h2⟩ := (h.frz x c e).1
    rw [hb] at h1; cases h1
    rw [if_pos rfl, h2]
  · rw [if_neg hx]; exact e
/-- **A row stays as it is from now on**: it is let go, and told by what stands in it. -/
theorem Rel.freeze {ρ : RM} {A : H} {w : World} (h : Rel ρ A w) {p : Pos} {o : HObj} {rb : RB} (hp : A.t.get p = some o) (hr : ρ.m p = some rb) (hro : o.isRo = false) {d : Array Value} {t : TypeId} {z : Nat × Nat} (hb : w.heap[rb.blk]? = some (.cells d t z)) :
    Rel (ρ.ice rb.blk d.toList) (A.set p none) w ∧ Stp ρ A w (ρ.ice rb.blk d.toList) (A.set p none) w := by
  have hle := RM.le_ice h hb
  have key : ∀ q x, (A.set p none).t.get q = some x → q ≠ p ∧ A.t.get q = some x := by
    intro q x e
    simp only [H.set, PT.get_put] at e
    by_cases hq : q = p
    · simp [hq] at e
    · simp [hq] at e; exact ⟨hq, e⟩
  have hcase : ∀ b c, (ρ.ice rb.blk d.toList).fr b = some c → (b = rb.blk ∧ c = d.toList) ∨ ρ.fr b = some c := by
    intro b c e
    have e' : (if b = rb.blk then some d.toList else ρ.fr b) = some c := e
    by_cases hb : b = rb.blk
    · rw [if_pos hb] at e'; exact .inl ⟨hb, (Option.some.inj e').symm⟩
    · rw [if_neg hb] at e'; exact .inr e'
  refine ⟨⟨fun q x r e er => (h.obj q x r (key q x e).2 er).mono hle rfl, fun q q' x y r r' e e' => h.inj q q' x y r r' (key q x e).2 (key q' y e').2, h.dom, fun q x e => h.ids q x (key q x e).2, h.glob, fun b c e => ?_⟩, ?_⟩
  · rcases hcase b c e with ⟨rfl, rfl⟩ | e
    · refine ⟨⟨d, t, z, hb, rfl⟩, fun q x r e1 e2 hx hbb => ?_⟩
      obtain ⟨hq, e1⟩ := key q x e1
      rcases h.inj q p x o r rb e1 hp e2 hr hbb with e3 | ⟨e3, _⟩
      · exact hq e3
      · rw [hx] at e3; cases e3
    · exact ⟨(h.frz b c e).1, fun q x r e1 => (h.frz b c e).2 q x r (key q x e1).2⟩
  · refine ⟨hle, Nat.le_refl _, Nat.le_refl _, rfl, rfl, rfl, fun _ _ _ => rfl, fun r _ ho => ?_, fun _ _ h _ => h, fun b c e => ?_⟩
    · obtain ⟨q, x, r', e, hx, er, hb⟩ := ho
      exact ⟨q, x, r', (key q x e).2, hx, er, hb⟩
    · rcases hcase b c e with ⟨rfl, _⟩ | e
      · exact .inr (.inl ⟨p, o, rb, hp, hro, hr, rfl⟩)
      · exact .inl e

end Go.AM
