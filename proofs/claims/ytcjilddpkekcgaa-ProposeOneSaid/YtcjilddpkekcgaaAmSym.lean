/-
  THE MACHINE 'AM': A SMALL HEAP INSIDE A LARGE ONE. What a call does to a small heap, at places of its own, it does to every heap that has the like at other places.
-/
import Derived.Test.YtcjilddpkekcgaaAmExec
namespace Go.AM
variable {P : Program}

/-! ### Other places -/
mutual
def AV.ren (σ : Pos → Pos) : AV → AV
  | .ptr p off => .ptr (σ p) off
  | .slice p off len cap soft => .slice (σ p) off len cap soft
  | .map p => .map (σ p)
  | .func f a b => .func f (AV.rens σ a) (AV.rens σ b)
  | .yield l => .yield (σ l)
  | .iface t v => .iface t (AV.ren σ v)
  | .agg l => .agg (AV.rens σ l)
  | .tup l => .tup (AV.rens σ l)
  | .bool b => .bool b
  | .int k n => .int k n
  | .str l => .str l
  | .nilp => .nilp
  | .nils => .nils
  | .nilm => .nilm
  | .nilf => .nilf
  | .nili => .nili
  | .opq i => .opq i
  | .gptr g off => .gptr g off
  | .ge n => .ge n
  | .rng lo hi => .rng lo hi
  | .osl lo hi => .osl lo hi
  | .any => .any
  | .fz l n => .fz l n
  | .fp l off => .fp l off
  | .e0 => .e0
  | .z1 => .z1
def AV.rens (σ : Pos → Pos) : List AV → List AV
  | [] => []
  | v :: l => AV.ren σ v :: AV.rens σ l
end
theorem AV.rens_eq (σ : Pos → Pos) : ∀ l : List AV, AV.rens σ l = l.map (AV.ren σ)
  | [] => rfl
  | v :: l => by simp [AV.rens, AV.rens_eq σ l]

def RM.pull (ρ : RM) (σ : Pos → Pos) : RM := ⟨fun p => ρ.m (σ p), ρ.env, ρ.envOk, ρ.fr⟩
theorem RM.ext' {a b : RM} (h : ∀ p, a.m p = b.m p) (e : a.env = b.env) (ef : a.fr = b.fr) : a = b := by
  obtain ⟨m, env, ok, fr⟩ := a
  obtain ⟨m', env', ok', fr'⟩ := b
  have h3 : fr = fr' := ef
  subst h3
  have h1 : m = m' := funext h
  subst h1
  have h2 : env = env' := e
  subst h2
  rfl

mutual
theorem VR.pull {ρ : RM} {σ : Pos → Pos} : ∀ {v : AV} {v' : Value}, VR (ρ.pull σ) v v' → VR ρ (v.ren σ) v'
  | _, _, .bool b => .bool b
  | _, _, .int k n => .int k n
  | _, _, .str s => .str s
  | _, _, .nilp => .nilp
  | _, _, .ptr h => .ptr h
  | _, _, .nils => .nils
  | _, _, .slice h a b c => .slice h a b c
  | _, _, .nilm => .nilm
  | _, _, .map h => .map h
  | _, _, .nilf => .nilf
  | _, _, .func a b => .func (VRs.pull a) (VRs.pull b)
  | _, _, .yield h => .yield h
  | _, _, .nili => .nili
  | _, _, .iface h => .iface (VR.pull h)
  | _, _, .agg h => .agg (VRs.pull h)
  | _, _, .tup h => .tup (VRs.pull h)
  | _, _, .opq i => VR.opq (ρ := ρ) i
  | _, _, .gptr g off => .gptr g off
  | _, _, .ge h => .ge h
  | _, _, .any v => .any v
  | _, _, .rng a b => .rng a b
  | _, _, .osl a b => .osl a b
  | _, _, .fz a b c d e => .fz (ρ := ρ) a b (VRs.still (ρ := ρ.pull σ) (ρ' := ρ) rfl rfl e c) d e
  | _, _, .fz0 h h' => .fz0 h h'
  | _, _, .fp a b c d => .fp (ρ := ρ) a b (VRs.still (ρ := ρ.pull σ) (ρ' := ρ) rfl rfl d c) d
  | _, _, .e0 h => .e0 h
  | _, _, .z1 h => .z1 h
theorem VRs.pull {ρ : RM} {σ : Pos → Pos} : ∀ {l : List AV} {l' : List Value}, VRs (ρ.pull σ) l l' → VRs ρ (AV.rens σ l) l'
  | _, _, .nil => .nil
  | _, _, .cons a b => .cons (VR.pull a) (VRs.pull b)
end

mutual
theorem VR.push {ρ : RM} {σ : Pos → Pos} : ∀ {v : AV} {v' : Value}, VR ρ (v.ren σ) v' → VR (ρ.pull σ) v v'
  | .bool b, _, h => by cases h; exact .bool b
  | .int k n, _, h => by cases h; exact .int k n
  | .str l, _, h => by
    change VR ρ (.str l) _ at h
    cases h; exact .str _
  | .nilp, _, h => by cases h; exact .nilp
  | .ptr p off, _, h => by
    change VR ρ (.ptr (σ p) off) _ at h
    cases h; rename_i h; exact .ptr h
  | .nils, _, h => by cases h; exact .nils
  | .slice p off len cap soft, _, h => by
    change VR ρ (.slice (σ p) off len cap soft) _ at h
    cases h; exact .slice (by assumption) (by assumption) (by assumption) (by assumption)
  | .nilm, _, h => by cases h; exact .nilm
  | .map p, _, h => by
    change VR ρ (.map (σ p)) _ at h
    cases h; rename_i h; exact .map h
  | .nilf, _, h => by cases h; exact .nilf
  | .func f a b, _, h => by
    change VR ρ (.func f (AV.rens σ a) (AV.rens σ b)) _ at h
    cases h; rename_i h1 h2; exact .func (VRs.push h1) (VRs.push h2)
  | .yield l, _, h => by
    change VR ρ (.yield (σ l)) _ at h
    cases h; rename_i h; exact .yield h
  | .nili, _, h => by cases h; exact .nili
  | .iface t v, _, h => by
    change VR ρ (.iface t (AV.ren σ v)) _ at h
    cases h; rename_i h; exact .iface (VR.push h)
  | .agg l, _, h => by
    change VR ρ (.agg (AV.rens σ l)) _ at h
    cases h; rename_i h; exact .agg (VRs.push h)
  | .tup l, _, h => by
    change VR ρ (.tup (AV.rens σ l)) _ at h
    cases h; rename_i h; exact .tup (VRs.push h)
  | .opq i, v', h => by
    change VR ρ (.opq i) v' at h
    cases h; exact VR.opq (ρ := ρ.pull σ) i
  | .gptr g off, _, h => by cases h; exact .gptr g off
  | .ge n, _, h => by
    change VR ρ (.ge n) _ at h
    cases h; rename_i h; exact .ge h
  | .any, v', _ => .any v'
  | .rng lo hi, _, h => by
    change VR ρ (.rng lo hi) _ at h
    cases h; rename_i a b; exact .rng a b
  | .osl lo hi, _, h => by
    change VR ρ (.osl lo hi) _ at h
    cases h; rename_i a b; exact .osl a b
  | .fz l n, v', h => VR.still (ρ := ρ) (ρ' := ρ.pull σ) rfl rfl rfl (show VR ρ (.fz l n) v' from h)
  | .fp l off, v', h => VR.still (ρ := ρ) (ρ' := ρ.pull σ) rfl rfl rfl (show VR ρ (.fp l off) v' from h)
  | .e0, v', h => VR.still (ρ := ρ) (ρ' := ρ.pull σ) rfl rfl rfl (show VR ρ .e0 v' from h)
  | .z1, v', h => VR.still (ρ := ρ) (ρ' := ρ.pull σ) rfl rfl rfl (show VR ρ .z1 v' from h)
theorem VRs.push {ρ : RM} {σ : Pos → Pos} : ∀ {l : List AV} {l' : List Value}, VRs ρ (AV.rens σ l) l' → VRs (ρ.pull σ) l l'
  | [], _, h => by cases h; exact .nil
  | v :: l, _, h => by
    change VRs ρ (AV.ren σ v :: AV.rens σ l) _ at h
    cases h; rename_i a b; exact .cons (VR.push a) (VRs.push b)
end

def PT.map {α β : Type} (f : α → β) : PT α → PT β
  | .leaf => .leaf
  | .node l x r => .node (PT.map f l) (x.map f) (PT.map f r)
theorem PT.get_map {α β : Type} (f : α → β) : ∀ (p : Pos) (t : PT α), (PT.map f t).get p = (t.get p).map f
  | .z, .leaf => rfl
  | .z, .node _ _ _ => rfl
  | .l _, .leaf => rfl
  | .l p, .node l _ _ => PT.get_map f p l
  | .r _, .leaf => rfl
  | .r p, .node _ _ r => PT.get_map f p r

def HObj.ren (σ : Pos → Pos) : HObj → HObj
  | .cells c esz ro => .cells (c.map (AV.ren σ)) esz ro
  | .map es clock => .map (es.map fun e => (e.1.ren σ, e.2.1.ren σ, e.2.2)) clock
  | .loop st pend tm fn nt ps as bd d => .loop st pend (PT.map (AV.ren σ) tm) fn nt ps as bd (σ d)
  | .dfr b => .dfr b
  | .siter l pos => .siter l pos
  | .miter m since seen stepped => .miter (m.map σ) since seen stepped
theorem HObj.isRo_ren (σ : Pos → Pos) (o : HObj) : (o.ren σ).isRo = o.isRo := by cases o <;> rfl

theorem TmRel.pull {ρ : RM} {σ : Pos → Pos} {tm : Tm} {t : Array Value} (h : TmRel (ρ.pull σ) tm t) : TmRel ρ (PT.map (AV.ren σ) tm) t := by
  intro p v e
  rw [PT.get_map] at e
  cases hv : tm.get p with
  | none => rw [hv] at e; cases e
  | some u => rw [hv] at e; cases e; obtain ⟨v', h1, h2⟩ := h p u hv; exact ⟨v', h1, h2.pull⟩
theorem TmRel.push {ρ : RM} {σ : Pos → Pos} {tm : Tm} {t : Array Value} (h : TmRel ρ (PT.map (AV.ren σ) tm) t) : TmRel (ρ.pull σ) tm t := by
  intro p v e
  obtain ⟨v', h1, h2⟩ := h p (v.ren σ) (by rw [PT.get_map, e]; rfl)
  exact ⟨v', h1, h2.push⟩
theorem MapRel.pull {ρ : RM} {σ : Pos → Pos} : ∀ {es : List (AV × AV × Nat)} {es' : List MapEntry}, MapRel (ρ.pull σ) es es' → MapRel ρ (es.map fun e => (e.1.ren σ, e.2.1.ren σ, e.2.2)) es'
  | _, _, .nil => .nil
  | _, _, .cons a b h => .cons a.pull b.pull h.pull
theorem MapRel.push {ρ : RM} {σ : Pos → Pos} : ∀ {es : List (AV × AV × Nat)} {es' : List MapEntry}, MapRel ρ (es.map fun e => (e.1.ren σ, e.2.1.ren σ, e.2.2)) es' → MapRel (ρ.pull σ) es es'
  | [], _, h => by cases h; exact .nil
  | (k, v, b) :: es, _, h => by
    change MapRel ρ ((k.ren σ, v.ren σ, b) :: es.map fun e => (e.1.ren σ, e.2.1.ren σ, e.2.2)) _ at h
    cases h; rename_i h1 h2 h3; exact .cons h1.push h2.push h3.push

theorem ORel.pull {ρ : RM} {σ : Pos → Pos} {o : HObj} {rb : RB} {w : World} (h : ORel (ρ.pull σ) o rb w) : ORel ρ (o.ren σ) rb w := by
  cases o with
  | cells l esz ro =>
    obtain ⟨c, t, fz, h1, h2, h3, h4⟩ := h
    refine ⟨c, t, fz, h1, by rw [List.length_map]; exact h2, fun i v e => ?_, h4⟩
    rw [List.getElem?_map] at e
    cases hv : l[i]? with
    | none => rw [hv] at e; cases e
    | some u => rw [hv] at e; cases e; obtain ⟨v', a, b⟩ := h3 i u hv; exact ⟨v', a, b.pull⟩
  | dfr b => exact h
  | loop st pend tm fn nt ps as bd d =>
    obtain ⟨tmps, rd, fn', h0, h1, h2, h3⟩ := h
    exact ⟨tmps, rd, fn', h0, h1, h2.pull, h3⟩
  | map es clock => obtain ⟨es', h1, h2⟩ := h; exact ⟨es', h1, h2.pull⟩
  | siter l pos => exact h
  | miter m since seen stepped =>
    obtain ⟨h0, m', h1, h2⟩ := h
    refine ⟨h0, m', ?_, h2⟩
    cases m with
    | none => exact h1
    | some p => exact h1
theorem ORel.push {ρ : RM} {σ : Pos → Pos} {o : HObj} {rb : RB} {w : World} (h : ORel ρ (o.ren σ) rb w) : ORel (ρ.pull σ) o rb w := by
  cases o with
  | cells l esz ro =>
    obtain ⟨c, t, fz, h1, h2, h3, h4⟩ := h
    refine ⟨c, t, fz, h1, by rw [List.length_map] at h2; exact h2, fun i v e => ?_, h4⟩
    obtain ⟨v', a, b⟩ := h3 i (v.ren σ) (by rw [List.getElem?_map, e]; rfl)
    exact ⟨v', a, b.push⟩
  | dfr b => exact h
  | loop st pend tm fn nt ps as bd d =>
    obtain ⟨tmps, rd, fn', h0, h1, h2, h3⟩ := h
    exact ⟨tmps, rd, fn', h0, h1, h2.push, h3⟩
  | map es clock => obtain ⟨es', h1, h2⟩ := h; exact ⟨es', h1, h2.push⟩
  | siter l pos => exact h
  | miter m since seen stepped =>
    obtain ⟨h0, m', h1, h2⟩ := h
    refine ⟨h0, m', ?_, h2⟩
    cases m with
    | none => exact h1
    | some p => exact h1

/-! ### A small heap in a large one -/
/-- The heap A0 lies in A, at σ's places. -/
structure Emb (σ : Pos → Pos) (A0 A : H) : Prop where
  at_ : ∀ p o, A0.t.get p = some o → A.t.get (σ p) = some (o.ren σ)
  inj : ∀ p q o o', A0.t.get p = some o → A0.t.get q = some o' → σ p = σ q → p = q
  ids : ∀ p o, A0.t.get p = some o → p.idx < A0.next.idx
  old : ∀ p, p.idx < A0.next.idx → (σ p).idx < A.next.idx
  new : ∀ p, A0.next.idx ≤ p.idx → σ p = Pos.ofNat (A.next.idx + (p.idx - A0.next.idx))
  ng : A0.ng = 0

theorem Pos.ofNat_idx (p : Pos) : Pos.ofNat p.idx = p := Pos.idx_inj (Pos.idx_ofNat _)

theorem Emb.rel {σ : Pos → Pos} {A0 A : H} (he : Emb σ A0 A) {ρ : RM} {w : World} (h : Rel ρ A w) : Rel (ρ.pull σ) A0 w where
  obj p o rb e er := (h.obj (σ p) (o.ren σ) rb (he.at_ p o e) er).push
  inj p q o o' rb rb' e e' er er' hb := by
    rcases h.inj (σ p) (σ q) _ _ rb rb' (he.at_ p o e) (he.at_ q o' e') er er' hb with h1 | ⟨h1, h2⟩
    · exact .inl (he.inj p q o o' e e' h1)
    · rw [HObj.isRo_ren] at h1 h2; exact .inr ⟨h1, h2⟩
  dom p rb e := by
    refine ⟨?_, (h.dom (σ p) rb e).2⟩
    rcases Nat.lt_or_ge p.idx A0.next.idx with h1 | h1
    · exact h1
    · have := (h.dom (σ p) rb e).1
      rw [he.new p h1, Pos.idx_ofNat] at this
      omega
  ids := he.ids
  glob g hg := by rw [he.ng] at hg; omega
  frz b c e := ⟨(h.frz b c e).1, fun p o rb e1 e2 hx => (h.frz b c e).2 (σ p) (o.ren σ) rb (he.at_ p o e1) e2 (by rw [HObj.isRo_ren]; exact hx)⟩

theorem Emb.owned {σ : Pos → Pos} {A0 A : H} (he : Emb σ A0 A) {ρ : RM} {r : Nat} (h : Owned (ρ.pull σ) A0 r) : Owned ρ A r := by
  obtain ⟨p, o, rb, e, hro, er, hb⟩ := h
  exact ⟨σ p, o.ren σ, rb, he.at_ p o e, by rw [HObj.isRo_ren]; exact hro, er, hb⟩

/-- A' is what A comes to when A0 in it comes to A1. -/
structure Glue (σ : Pos → Pos) (A0 A A1 A' : H) : Prop where
  obj : ∀ q o, A'.t.get q = some o → (A.t.get q = some o ∧ ∀ p o0, A0.t.get p = some o0 → q ≠ σ p) ∨
    ∃ p o1, q = σ p ∧ A1.t.get p = some o1 ∧ o = o1.ren σ ∧ ((∃ o0, A0.t.get p = some o0) ∨ (A0.next.idx ≤ p.idx ∧ o1.isRo = false))
  next : A.next.idx + (A1.next.idx - A0.next.idx) ≤ A'.next.idx
  ng : A'.ng = A.ng

theorem Emb.back {σ : Pos → Pos} {A0 A A1 A' : H} (he : Emb σ A0 A) (hg : Glue σ A0 A A1 A') {ρ ρ1 : RM} {w w1 : World} (h : Rel ρ A w) (hs : Stp (ρ.pull σ) A0 w ρ1 A1 w1) (h1 : Rel ρ1 A1 w1) :
    ∃ ρ', Stp ρ A w ρ' A' w1 ∧ Rel ρ' A' w1 ∧ ρ1 = ρ'.pull σ := by
  have h0 := he.rel h
  let ρ' : RM := ⟨fun q => if q.idx < A.next.idx then ρ.m q else ρ1.m (Pos.ofNat (q.idx - A.next.idx + A0.next.idx)), ρ.env, ρ.envOk, ρ1.fr⟩
  have hn0 := hs.next
  have hold : ∀ q, q.idx < A.next.idx → ρ'.m q = ρ.m q := fun q hq => if_pos hq
  have hσ : ∀ p, ρ'.m (σ p) = ρ1.m p := by
    intro p
    rcases Nat.lt_or_ge p.idx A0.next.idx with hp | hp
    · rw [hold _ (he.old p hp)]
      cases e1 : ρ1.m p with
      | some rb => exact hs.fresh p rb e1 hp
      | none =>
        cases e2 : ρ.m (σ p) with
        | none => rfl
        | some rb => have := hs.le.2 p rb e2; rw [e1] at this; cases this
    · have e := he.new p hp
      show (if (σ p).idx < A.next.idx then ρ.m (σ p) else ρ1.m (Pos.ofNat ((σ p).idx - A.next.idx + A0.next.idx))) = _
      rw [e, Pos.idx_ofNat, if_neg (by omega), show A.next.idx + (p.idx - A0.next.idx) - A.next.idx + A0.next.idx = p.idx by omega, Pos.ofNat_idx]
  have hpull : ρ1 = ρ'.pull σ := RM.ext' (fun p => (hσ p).symm) hs.le.1.1 rfl
  have hle : ρ.le ρ' := ⟨⟨rfl, fun b c e => hs.le.1.2 b c e⟩, fun q rb e => (hold q (h.dom q rb e).1).trans e⟩
  have himg : ∀ p, p.idx < A1.next.idx → (σ p).idx < A'.next.idx := by
    intro p hp
    rcases Nat.lt_or_ge p.idx A0.next.idx with hp0 | hp0
    · have := he.old p hp0; have := hg.next; omega
    · rw [he.new p hp0, Pos.idx_ofNat]; have := hg.next; omega
  -- what is untouched
  have hun : ∀ q o rb, A.t.get q = some o → (∀ p o0, A0.t.get p = some o0 → q ≠ σ p) → ρ.m q = some rb → w1.heap[rb.blk]? = w.heap[rb.blk]? := by
    intro q o rb e hne er
    refine hs.keep rb.blk (h.dom q rb er).2 ?_
    rintro ⟨p0, o0, rb0, e0, hro, er0, hb⟩
    rcases h.inj q (σ p0) o (o0.ren σ) rb rb0 e (he.at_ p0 o0 e0) er er0 hb.symm with h2 | ⟨_, h2⟩
    · exact hne p0 o0 e0 h2
    · rw [HObj.isRo_ren, hro] at h2; cases h2
  have hmix : ∀ q o rb p o1 rb1, A.t.get q = some o → (∀ p o0, A0.t.get p = some o0 → q ≠ σ p) → ρ.m q = some rb → A1.t.get p = some o1 → ρ1.m p = some rb1 → rb.blk = rb1.blk →
      ((∃ o0, A0.t.get p = some o0) ∨ (A0.next.idx ≤ p.idx ∧ o1.isRo = false)) → o.isRo = true ∧ o1.isRo = true := by
    intro q o rb p o1 rb1 e hne er e1 er1 hb hor
    cases hro : o1.isRo with
    | false =>
      exfalso
      obtain ⟨p0, o0, rb0, e0, hro0, er0, hb0⟩ := hs.own rb1.blk (by rw [← hb]; exact (h.dom q rb er).2) ⟨p, o1, rb1, e1, hro, er1, rfl⟩
      rcases h.inj q (σ p0) o (o0.ren σ) rb rb0 e (he.at_ p0 o0 e0) er er0 (hb.trans hb0.symm) with h2 | ⟨_, h2⟩
      · exact hne p0 o0 e0 h2
      · rw [HObj.isRo_ren, hro0] at h2; cases h2
    | true =>
      rcases hor with ⟨o0, e0⟩ | ⟨_, h2⟩
      · have her : ρ.m (σ p) = some rb1 := hs.fresh p rb1 er1 (he.ids p o0 e0)
        rcases h.inj q (σ p) o (o0.ren σ) rb rb1 e (he.at_ p o0 e0) er her hb with h2 | ⟨h2, _⟩
        · exact absurd h2 (hne p o0 e0)
        · exact ⟨h2, rfl⟩
      · rw [hro] at h2; cases h2
  refine ⟨ρ', ⟨hle, by have := hg.next; omega, hs.size, hs.os, hs.output, hs.tape, fun r hr hno => hs.keep r hr (fun ho => hno (he.owned ho)), fun r hr ho => ?_, fun p rb e hp => by rwa [hold p hp] at e, fun b c e => ?_⟩,
    ⟨fun q o rb e er => ?_, fun q q' o o' rb rb' e e' er er' hb => ?_, fun q rb er => ?_, fun q o e => ?_, fun g hgl => hle.2 _ _ (h.glob g (by rw [← hg.ng]; exact hgl)), fun b c e => ⟨(h1.frz b c e).1, fun q o rb e1 e2 hx hb => ?_⟩⟩, hpull⟩
  · obtain ⟨q, o, rb, e, hro, er, hb⟩ := ho
    rcases hg.obj q o e with ⟨e2, hne⟩ | ⟨p, o1, rfl, e1, rfl, _⟩
    · exact ⟨q, o, rb, e2, hro, by rwa [hold q (h.ids q o e2)] at er, hb⟩
    · rw [hσ] at er
      rw [HObj.isRo_ren] at hro
      exact he.owned (hs.own r hr ⟨p, o1, rb, e1, hro, er, hb⟩)
  · rcases hs.frz b c e with h2 | h2 | h2
    · exact .inl h2
    · exact .inr (.inl (he.owned h2))
    · exact .inr (.inr h2)
  · rcases hg.obj q o e with ⟨e2, hne⟩ | ⟨p, o1, rfl, e1, rfl, _⟩
    · rw [hold q (h.ids q o e2)] at er
      exact (h.obj q o rb e2 er).mono hle (hun q o rb e2 hne er)
    · rw [hσ] at er
      have := h1.obj p o1 rb e1 er
      rw [hpull] at this
      exact this.pull
  · rcases hg.obj q o e with ⟨e2, hne⟩ | ⟨p, o1, rfl, e1, rfl, hor⟩ <;> rcases hg.obj q' o' e' with ⟨e2', hne'⟩ | ⟨p', o1', rfl, e1', rfl, hor'⟩
    · rw [hold q (h.ids q o e2)] at er
      rw [hold q' (h.ids q' o' e2')] at er'
      exact h.inj q q' o o' rb rb' e2 e2' er er' hb
    · rw [hold q (h.ids q o e2)] at er
      rw [hσ] at er'
      rw [HObj.isRo_ren]
      exact .inr (hmix q o rb p' o1' rb' e2 hne er e1' er' hb hor')
    · rw [hold q' (h.ids q' o' e2')] at er'
      rw [hσ] at er
      rw [HObj.isRo_ren]
      have := hmix q' o' rb' p o1 rb e2' hne' er' e1 er hb.symm hor
      exact .inr ⟨this.2, this.1⟩
    · rw [hσ] at er er'
      rw [HObj.isRo_ren, HObj.isRo_ren]
      rcases h1.inj p p' o1 o1' rb rb' e1 e1' er er' hb with h2 | h2
      · exact .inl (by rw [h2])
      · exact .inr h2
  · by_cases hq : q.idx < A.next.idx
    · rw [hold q hq] at er
      exact ⟨by have := hg.next; omega, Nat.lt_of_lt_of_le (h.dom q rb er).2 hs.size⟩
    · have er' : ρ1.m (Pos.ofNat (q.idx - A.next.idx + A0.next.idx)) = some rb := by
        have : ρ'.m q = ρ1.m (Pos.ofNat (q.idx - A.next.idx + A0.next.idx)) := if_neg hq
        rw [← this]; exact er
      have := h1.dom _ rb er'
      rw [Pos.idx_ofNat] at this
      refine ⟨?_, this.2⟩
      have := hg.next
      omega
  · rcases hg.obj q o e with ⟨e2, _⟩ | ⟨p, o1, rfl, e1, rfl, _⟩
    · have := h.ids q o e2; have := hg.next; omega
    · exact himg p (h1.ids p o1 e1)
  · rcases hg.obj q o e1 with ⟨g2, hne⟩ | ⟨p, o1, rfl, g1, rfl, _⟩
    · rw [hold q (h.ids q o g2)] at e2
      rcases hs.frz b c e with g3 | ⟨p0, o0, rb0, g3, hro, g4, g5⟩ | g3
      · exact (h.frz b c g3).2 q o rb g2 e2 hx hb
      · rcases h.inj q (σ p0) o (o0.ren σ) rb rb0 g2 (he.at_ p0 o0 g3) e2 g4 (hb.trans g5.symm) with g6 | ⟨g6, _⟩
        · exact hne p0 o0 g3 g6
        · rw [hx] at g6; cases g6
      · have := (h.dom q rb e2).2
        omega
    · rw [hσ] at e2
      rw [HObj.isRo_ren] at hx
      exact (h1.frz b c e).2 p o1 rb g1 e2 hx hb

/-! ### A heap told anew, with less in it -/
/-- B lies in A1 at τ's places; what was below n stays where it was. -/
structure Sel (τ : Pos → Pos) (n : Nat) (B A1 : H) : Prop where
  at_ : ∀ p o, B.t.get p = some o → A1.t.get (τ p) = some (o.ren τ)
  inj : ∀ p q o o', B.t.get p = some o → B.t.get q = some o' → τ p = τ q → p = q
  ids : ∀ p o, B.t.get p = some o → p.idx < B.next.idx
  fix : ∀ p, p.idx < n → τ p = p
  top : ∀ p, B.next.idx ≤ p.idx → A1.next.idx ≤ (τ p).idx
  next : n ≤ B.next.idx
  ng : B.ng ≤ A1.ng
  ngn : B.ng ≤ n

theorem Sel.rel {τ : Pos → Pos} {n : Nat} {B A1 : H} (he : Sel τ n B A1) {ρ1 : RM} {w1 : World} (h : Rel ρ1 A1 w1) : Rel (ρ1.pull τ) B w1 where
  obj p o rb e er := (h.obj (τ p) (o.ren τ) rb (he.at_ p o e) er).push
  inj p q o o' rb rb' e e' er er' hb := by
    rcases h.inj (τ p) (τ q) _ _ rb rb' (he.at_ p o e) (he.at_ q o' e') er er' hb with h1 | ⟨h1, h2⟩
    · exact .inl (he.inj p q o o' e e' h1)
    · rw [HObj.isRo_ren] at h1 h2; exact .inr ⟨h1, h2⟩
  dom p rb e := by
    refine ⟨?_, (h.dom (τ p) rb e).2⟩
    rcases Nat.lt_or_ge p.idx B.next.idx with h1 | h1
    · exact h1
    · have := (h.dom (τ p) rb e).1
      have := he.top p h1
      omega
  ids := he.ids
  glob g hg := by
    have hgn : (Pos.ofNat g).idx < n := by rw [Pos.idx_ofNat]; have := he.ngn; omega
    show ρ1.m (τ (Pos.ofNat g)) = _
    rw [he.fix _ hgn]; exact h.glob g (Nat.lt_of_lt_of_le hg he.ng)
  frz b c e := ⟨(h.frz b c e).1, fun p o rb e1 e2 hx => (h.frz b c e).2 (τ p) (o.ren τ) rb (he.at_ p o e1) e2 (by rw [HObj.isRo_ren]; exact hx)⟩
theorem Sel.stp {τ : Pos → Pos} {A B A1 : H} (he : Sel τ A.next.idx B A1) {ρ ρ1 : RM} {w w1 : World} (h : Rel ρ A w) (hs : Stp ρ A w ρ1 A1 w1) : Stp ρ A w (ρ1.pull τ) B w1 where
  frz := hs.frz
  le := ⟨hs.le.1, fun p rb e => by
    show ρ1.m (τ p) = some rb
    rw [he.fix p (h.dom p rb e).1]; exact hs.le.2 p rb e⟩
  next := he.next
  size := hs.size
  os := hs.os
  output := hs.output
  tape := hs.tape
  keep := hs.keep
  own r hr := by
    rintro ⟨p, o, rb, e, hro, er, hb⟩
    exact hs.own r hr ⟨τ p, o.ren τ, rb, he.at_ p o e, by rw [HObj.isRo_ren]; exact hro, er, hb⟩
  fresh p rb e hp := by
    have e' : ρ1.m (τ p) = some rb := e
    rw [he.fix p hp] at e'
    exact hs.fresh p rb e' hp

end Go.AM
