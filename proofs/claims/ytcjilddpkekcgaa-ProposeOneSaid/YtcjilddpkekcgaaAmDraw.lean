/-
  THE MACHINE 'AM': a region that draws its order: whatever order the model takes, it comes to what the machine came to.
-/
import Derived.Test.YtcjilddpkekcgaaAmOrder
namespace Go.AM
variable {P : Program} {ops : Array Oper}

theorem chkAll_mem {A : H} : ∀ {l : List Pend}, chkAll A l = true → ∀ q ∈ l, q.chk A = true
  | [], _, q, h => by cases h
  | p :: l, h, q, hq => by
    have h' : (match p.chk A with | true => chkAll A l | false => false) = true := h
    split at h'
    · rename_i hp
      rcases List.mem_cons.1 hq with rfl | hq
      · exact hp
      · exact chkAll_mem h' q hq
    · cases h'
theorem dropAnc_mem {anc : Nat} : ∀ {l : List Pend} {q : Pend}, q ∈ l → Nat.testBit anc q.i = false → q ∈ dropAnc anc l
  | p :: l, q, h, hb => by
    have e : dropAnc anc (p :: l) = (match Nat.testBit anc p.i with | true => dropAnc anc l | false => p :: dropAnc anc l) := rfl
    rw [e]
    rcases List.mem_cons.1 h with rfl | h
    · rw [hb]; simp
    · split
      · exact dropAnc_mem h hb
      · exact List.mem_cons_of_mem _ (dropAnc_mem h hb)

noncomputable def rdChk (P : Program) (tm : Tm) (op : Op) (v : AV) : H → Bool := fun B => match readV P tm B op with | some u => same u v | none => false
noncomputable def alChk (p : Pos) (cs : List AV) (esz : Nat) : H → Bool := fun B => match B.t.get p with | some (.cells ds e r) => sames ds cs && (Nat.beq e esz && !r) | _ => false

/-- What must still hold of the heap. -/
structure PP where
  i : Nat
  hold : H → Prop
def rdHold (P : Program) (tm : Tm) (op : Op) (v : AV) : H → Prop := fun B => readV P tm B op = some v
def alHold (p : Pos) (cs : List AV) (esz : Nat) : H → Prop := fun B => B.t.get p = some (.cells cs esz false)
def dropP (anc : Nat) (l : List PP) : List PP := l.filter fun q => !Nat.testBit anc q.i
theorem dropP_mem {anc : Nat} {l : List PP} {q : PP} (h : q ∈ l) (hb : Nat.testBit anc q.i = false) : q ∈ dropP anc l := by
  simp [dropP, h, hb]
theorem rdChk_hold {tm : Tm} {op : Op} {v : AV} {B : H} (h : rdChk P tm op v B = true) : rdHold P tm op v B := by
  simp only [rdChk] at h
  split at h
  · rename_i u hu; unfold rdHold; rw [hu, same_eq h]
  · cases h
theorem alChk_hold {p : Pos} {cs : List AV} {esz : Nat} {B : H} (h : alChk p cs esz B = true) : alHold p cs esz B := by
  simp only [alChk] at h
  split at h
  · rename_i ds e r hg
    simp only [Bool.and_eq_true, Nat.beq_eq, Bool.not_eq_true'] at h
    unfold alHold; rw [hg, sames_eq h.1, h.2.1, h.2.2]
  · cases h

/-! ### A new block leaves what was read as it was -/
theorem get_new {A : H} {p : Pos} {x : HObj} (o : HObj) (h : A.t.get p = some x) (hn : A.t.get A.next = none) : (A.new o).t.get p = some x := by
  simp only [H.new, PT.get_put]
  rw [if_neg (fun e => by subst e; rw [hn] at h; cases h)]
  exact h
theorem loadH_new {A : H} (o : HObj) (hn : A.t.get A.next = none) {t : TypeId} {x v : AV} (h : loadH P A t x = some v) : loadH P (A.new o) t x = some v := by
  unfold loadH at h ⊢
  have e : ptrOf (A.new o) x = ptrOf A x := by cases x <;> rfl
  rw [e]
  split at h
  · rename_i p off hp
    split at h
    · rename_i cs a b hg
      simp only [get_new o hg hn]; exact h
    · cases h
  · cases h
theorem loadV_new {A : H} (o : HObj) (hn : A.t.get A.next = none) {t : TypeId} {x v : AV} (h : loadV P A t x = some v) : loadV P (A.new o) t x = some v := by
  unfold loadV at h ⊢
  split at h
  · exact h
  · exact loadH_new o hn h
theorem bytesV_new {A : H} (o : HObj) (hn : A.t.get A.next = none) {s d : TypeId} {x v : AV} (h : bytesV P A s d x = some v) : bytesV P (A.new o) s d x = some v := by
  unfold bytesV at h ⊢
  repeat' split at h
  all_goals first | (cases h; done) | skip
  all_goals first
    | (rename A.t.get _ = some _ => hg; have g := get_new o hg hn; clear hg hn; simp_all; done)
    | simp_all
theorem mapOf_new {A : H} (o : HObj) (hn : A.t.get A.next = none) {x : AV} {es : List (AV × AV × Nat)} (h : mapOf A x = some es) : mapOf (A.new o) x = some es := by
  unfold mapOf at h ⊢
  split at h
  · exact h
  · split at h
    · rename_i hg; simp only [get_new o hg hn]; exact h
    · cases h
  · cases h
theorem lookupV_new {A : H} (o : HObj) (hn : A.t.get A.next = none) {t : TypeId} {x k v : AV} {ok : Bool} (h : lookupV P A t x k ok = some v) : lookupV P (A.new o) t x k ok = some v := by
  unfold lookupV at h ⊢
  split at h
  · split at h
    · rename_i hm; simp only [mapOf_new o hn hm]; exact h
    · cases h
  · cases h
theorem rdHold_new {tm : Tm} {op : Op} {v : AV} (A : H) (o : HObj) (h : rdHold P tm op v A) (hn : A.t.get A.next = none) : rdHold P tm op v (A.new o) := by
  have h' : readV P tm A op = some v := h
  show readV P tm (A.new o) op = some v
  clear h
  cases op with
  | load t x =>
    simp only [readV] at h' ⊢
    cases e : ev tm x with
    | none => rw [e] at h'; cases h'
    | some u => rw [e] at h'; exact loadV_new o hn h'
  | convert s d x =>
    simp only [readV] at h' ⊢
    cases e : ev tm x with
    | none => rw [e] at h'; cases h'
    | some u => rw [e] at h'; exact bytesV_new o hn h'
  | lookup t x k ok =>
    simp only [readV] at h' ⊢
    cases e1 : ev tm x with
    | none => rw [e1] at h'; cases h'
    | some u => cases e2 : ev tm k with
      | none => rw [e1, e2] at h'; cases h'
      | some j => rw [e1, e2] at h'; exact lookupV_new o hn h'
  | call c =>
    obtain ⟨callee, args, argTypes⟩ := c
    cases callee with
    | builtin b =>
      cases b <;> first | (simp [readV] at h'; done) | skip
      have key : ∀ B : H, readV P tm B (.call ⟨.builtin .len, args, argTypes⟩) = (match args[0]?, argTypes[0]? with
        | some x, some t => match ev tm x, P.underlying t with
          | some m, some (.map ..) => match mapOf B m with | some es => some (.int .i64 (.ofNat es.length)) | none => none
          | _, _ => none
        | _, _ => none) := fun B => rfl
      rw [key] at h' ⊢
      split at h'
      · split at h'
        · cases hm : mapOf A _ with
          | none => rw [hm] at h'; cases h'
          | some es => rw [hm] at h'; rw [mapOf_new o hn hm]; exact h'
        · cases h'
      · cases h'
    | _ => simp [readV] at h'
  | _ => simp [readV] at h'
theorem alHold_new {p : Pos} {cs : List AV} {esz : Nat} (A : H) (o : HObj) (h : alHold p cs esz A) (hn : A.t.get A.next = none) : alHold p cs esz (A.new o) := get_new o h hn

/-- The machine's pending ones, and what they say. -/
inductive PPs : List Pend → List PP → Prop
  | nil : PPs [] []
  | cons {i : Nat} {c : H → Bool} {g : H → Prop} {l : List Pend} {l' : List PP} : (∀ B, c B = true → g B) → (∀ B o, g B → B.t.get B.next = none → g (B.new o)) → PPs l l' → PPs (⟨i, c⟩ :: l) (⟨i, g⟩ :: l')
theorem PPs.all {A : H} : ∀ {l : List Pend} {l' : List PP}, PPs l l' → chkAll A l = true → ∀ q ∈ l', q.hold A
  | _, _, .nil, _, q, hq => by cases hq
  | _, _, .cons (c := c) (l := l) h1 _ h2, h, q, hq => by
    have h' : (match c A with | true => chkAll A l | false => false) = true := h
    split at h'
    · rename_i hc
      rcases List.mem_cons.1 hq with rfl | hq
      · exact h1 A hc
      · exact h2.all h' q hq
    · cases h'
theorem PPs.drop {anc : Nat} : ∀ {l : List Pend} {l' : List PP}, PPs l l' → PPs (dropAnc anc l) (dropP anc l')
  | _, _, .nil => .nil
  | _, _, .cons (i := i) (c := c) (g := g) (l := l) (l' := l') h1 h3 h2 => by
    have e : dropAnc anc (⟨i, c⟩ :: l) = (match Nat.testBit anc i with | true => dropAnc anc l | false => ⟨i, c⟩ :: dropAnc anc l) := rfl
    rw [e]
    cases hb : Nat.testBit anc i with
    | true => simpa [dropP, hb] using h2.drop (anc := anc)
    | false => simpa [dropP, hb] using PPs.cons h1 h3 (h2.drop (anc := anc))
theorem PPs.none {A : H} {l : List Pend} {l' : List PP} (h : PPs l l') (hn : noneB l = true) : ∀ q ∈ l', q.hold A := by
  cases h with
  | nil => intro q hq; cases hq
  | cons => cases hn
theorem PPs.still {A : H} {clean : Bool} {l : List Pend} {l' : List PP} (o : HObj) (h : PPs l l') (hc : clean = true → ∀ q ∈ l', q.hold A) (hb : stillB clean A l = true) : ∀ q ∈ l', q.hold (A.new o) := by
  cases clean with
  | true =>
    have hn : A.t.get A.next = Option.none := by
      have hb' : (match A.t.get A.next with | Option.none => true | some _ => false) = true := hb
      split at hb'
      · assumption
      · cases hb'
    replace hc := hc rfl
    clear hb
    induction h with
    | nil => intro q hq; cases hq
    | cons h1 h3 _ ih =>
      intro q hq
      rcases List.mem_cons.1 hq with rfl | hq
      · exact h3 A o (hc _ List.mem_cons_self) hn
      · exact ih (fun q hq => hc q (by simp [hq])) q hq
  | false => exact h.none hb
theorem PPs.held {A : H} {clean : Bool} {l : List Pend} {l' : List PP} (h : PPs l l') (hc : clean = true → ∀ q ∈ l', q.hold A) (hb : heldB clean A l = true) : ∀ q ∈ l', q.hold A := by
  cases clean with
  | true => exact hc rfl
  | false => exact h.all hb

/-- What an operation that may act does, whatever the world. -/
def EffFact (P : Program) (op : Op) (tm : Tm) (A : H) (v : AV) (A' : H) : Prop :=
  ∀ (ρ : RM) (w : World) (o : Oper) (a : Act), o.op = op → Rel ρ A w → OpdRel ρ tm a op.operands.toList → OpOK P A v A' ρ w o a

/-- The machine's run of a region, step by step. -/
inductive Tr (P : Program) (ops : Array Oper) (nt : Nat) : List ROp → List PP → Tm → H → Tm → H → Prop
  | nil {q : List PP} {tm : Tm} {A : H} : (∀ p ∈ q, p.hold A) → Tr P ops nt [] q tm A tm A
  | skip {x : ROp} {l : List ROp} {q : List PP} {tm tm' : Tm} {A A' : H} : wantedV ops tm x.o = some false → (∀ d, x.o.dst = some d → d < nt) →
      Tr P ops nt l q (Tm.put' tm x.o.dst (.tup [])) A tm' A' → Tr P ops nt (x :: l) q tm A tm' A'
  | pure {x : ROp} {l : List ROp} {q : List PP} {tm tm' : Tm} {A A' : H} {v : AV} : wantedV ops tm x.o = some true → pureV P tm x.o.op = some v → (∀ d, x.o.dst = some d → d < nt) →
      Tr P ops nt l q (Tm.put' tm x.o.dst v) A tm' A' → Tr P ops nt (x :: l) q tm A tm' A'
  | read {x : ROp} {l : List ROp} {q : List PP} {tm tm' : Tm} {A A' : H} {v : AV} : wantedV ops tm x.o = some true → readV P tm A x.o.op = some v → (∀ d, x.o.dst = some d → d < nt) →
      Tr P ops nt l (⟨x.i, rdHold P tm x.o.op v⟩ :: q) (Tm.put' tm x.o.dst v) A tm' A' → Tr P ops nt (x :: l) q tm A tm' A'
  | alloc {x : ROp} {l : List ROp} {q : List PP} {tm tm' : Tm} {A A' : H} {cs : List AV} {esz : Nat} {mk : Pos → AV} : wantedV ops tm x.o = some true → allocV P tm x.o.op = some (cs, esz, mk) → (∀ d, x.o.dst = some d → d < nt) →
      Tr P ops nt l (⟨x.i, alHold A.next cs esz⟩ :: q) (Tm.put' tm x.o.dst (mk A.next)) (A.new (.cells cs esz false)) tm' A' → Tr P ops nt (x :: l) q tm A tm' A'
  | eff {x : ROp} {l : List ROp} {q : List PP} {tm tm' : Tm} {A A1 A' : H} {v : AV} : wantedV ops tm x.o = some true → x.cls = 3 → (∀ p ∈ q, p.hold A) → EffFact P x.o.op tm A v A1 → (∀ d, x.o.dst = some d → d < nt) →
      Tr P ops nt l (dropP x.anc q) (Tm.put' tm x.o.dst v) A1 tm' A' → Tr P ops nt (x :: l) q tm A tm' A'

theorem clsOp_le (P : Program) (op : Op) : clsOp P op ≤ 3 := by
  unfold clsOp; repeat' split
  all_goals omega

theorem execD_tr {fx : Fx} {app : AV → List AV → H → (AV → H → Ans) → Ans} (happ : AppOK P app) {k : Tm → H → Ans} : ∀ {l : List ROp} {clean : Bool} {q : List Pend} {q' : List PP} {tm : Tm} {A : H}, (∀ x ∈ l, RFact P ops x) → PPs q q' → (clean = true → ∀ p ∈ q', p.hold A) → execD P fx app ops l clean q tm A k = .ok →
    ∃ tm' A', k tm' A' = .ok ∧ Tr P ops fx.nt l q' tm A tm' A'
  | [], clean, q, q', tm, A, _, hqq, hcl, h => by
    have h' : (match heldB clean A q with | true => k tm A | false => Ans.err fx.fn 0 3000) = .ok := h
    split at h'
    · rename_i hc; exact ⟨tm, A, h', .nil (hqq.held hcl hc)⟩
    · cases h'
  | x :: l, clean, q, q', tm, A, hl, hqq, hcl, h => by
    have hl' : ∀ y ∈ l, RFact P ops y := fun y hy => hl y (by simp [hy])
    have h' : (match wantedV ops tm x.o with
      | none => Ans.err fx.fn x.i 2000
      | some false => putTm fx.nt tm x.o.dst (.tup []) fun tm => execD P fx app ops l clean q tm A k
      | some true =>
        match x.cls with
        | 0 => match pureV P tm x.o.op with
          | some v => putTm fx.nt tm x.o.dst v fun tm => execD P fx app ops l clean q tm A k
          | none => Ans.err fx.fn x.i (3001 + opCode x.o.op)
        | 1 => match readV P tm A x.o.op with
          | some v => fAV v fun v => putTm fx.nt tm x.o.dst v fun tm1 => execD P fx app ops l clean (⟨x.i, rdChk P tm x.o.op v⟩ :: q) tm1 A k
          | none => Ans.err fx.fn x.i (3001 + opCode x.o.op)
        | 2 => match allocV P tm x.o.op with
          | some (cs, esz, mk) => fList cs fun cs => A.newK (.cells cs esz false) fun p A1 =>
            putTm fx.nt tm x.o.dst (mk p) fun tm => execD P fx app ops l (stillB clean A q) (⟨x.i, alChk p cs esz⟩ :: q) tm A1 k
          | none => Ans.err fx.fn x.i (3001 + opCode x.o.op)
        | _ => match heldB clean A q with
          | true => operK P fx.fn x.i app tm A x.o.op fun v A => putTm fx.nt tm x.o.dst v fun tm => execD P fx app ops l (noneB (dropAnc x.anc q)) (dropAnc x.anc q) tm A k
          | false => Ans.err fx.fn x.i 3000) = .ok := h
    split at h'
    · cases h'
    · rename_i hw
      obtain ⟨h1, hd⟩ := putTm_ok h'
      obtain ⟨tm', A', hk, ht⟩ := execD_tr happ hl' hqq hcl h1
      exact ⟨tm', A', hk, .skip hw hd ht⟩
    · rename_i hw
      split at h'
      · split at h'
        · rename_i v hv
          obtain ⟨h1, hd⟩ := putTm_ok h'
          obtain ⟨tm', A', hk, ht⟩ := execD_tr happ hl' hqq hcl h1
          exact ⟨tm', A', hk, .pure hw hv hd ht⟩
        · cases h'
      · split at h'
        · rename_i v hv
          rw [fAV_eq] at h'
          obtain ⟨h1, hd⟩ := putTm_ok h'
          obtain ⟨tm', A', hk, ht⟩ := execD_tr happ hl' (.cons (fun B => rdChk_hold) (fun B o h hn => rdHold_new B o h hn) hqq) (fun hc p hp => by
            rcases List.mem_cons.1 hp with rfl | hp
            · exact hv
            · exact hcl hc p hp) h1
          exact ⟨tm', A', hk, .read hw hv hd ht⟩
        · cases h'
      · split at h'
        · rename_i cs esz mk hv
          rw [fList_eq, H.newK_eq] at h'
          obtain ⟨h1, hd⟩ := putTm_ok h'
          obtain ⟨tm', A', hk, ht⟩ := execD_tr happ hl' (.cons (fun B => alChk_hold) (fun B o h hn => alHold_new B o h hn) hqq) (fun hc p hp => by
            rcases List.mem_cons.1 hp with rfl | hp
            · exact PT.get_put_self ..
            · exact hqq.still _ hcl hc p hp) h1
          exact ⟨tm', A', hk, .alloc hw hv hd ht⟩
        · cases h'
      · rename_i h0 h1 h2
        have hc : x.cls = 3 := by
          have hcl := (hl x (by simp)).cls
          have := clsOp_le P x.o.op
          have k0 : x.cls ≠ 0 := h0
          have k1 : x.cls ≠ 1 := h1
          have k2 : x.cls ≠ 2 := h2
          omega
        split at h'
        · rename_i hchk
          obtain ⟨v, A1, hk1, hg⟩ := operK_sound happ h'
          obtain ⟨h1, hd⟩ := putTm_ok hk1
          obtain ⟨tm', A', hk, ht⟩ := execD_tr happ hl' hqq.drop hqq.drop.none h1
          exact ⟨tm', A', hk, .eff hw hc (hqq.held hcl hchk) hg hd ht⟩
        · cases h'

/-! ### What has been run, and what of it the model has not come to -/
/-- The machine's temporaries behind some operations. -/
def CT (ops : Array Oper) (tm0 tm : Tm) (done : List (Nat × AV)) : Prop :=
  ∀ t, (∀ j v, (j, v) ∈ done → Writes ops j t → tm.get (Pos.ofNat t) = some v) ∧ ((∀ j, Writes ops j t → ∀ v, (j, v) ∉ done) → tm.get (Pos.ofNat t) = tm0.get (Pos.ofNat t))

theorem CT.put {tm0 tm : Tm} {done : List (Nat × AV)} (h : CT ops tm0 tm done) {x : ROp} (hx : ops[x.i]? = some x.o) (hone : ∀ i j t, Writes ops i t → Writes ops j t → i = j) (hn : ∀ v, (x.i, v) ∉ done) (v : AV) :
    CT ops tm0 (Tm.put' tm x.o.dst v) ((x.i, v) :: done) := by
  intro t
  have hget : ∀ t, (Tm.put' tm x.o.dst v).get (Pos.ofNat t) = if x.o.dst = some t then some v else tm.get (Pos.ofNat t) := by
    intro t
    cases hd : x.o.dst with
    | none => simp [Tm.put']
    | some d =>
      simp only [Tm.put', PT.get_put]
      by_cases e : t = d
      · subst e; simp
      · rw [if_neg (fun e' => e (Pos.ofNat_inj e')), if_neg (by simpa using Ne.symm e)]
  rw [hget t]
  refine ⟨fun j u hj hw => ?_, fun hno => ?_⟩
  · rcases List.mem_cons.1 hj with hj | hj
    · cases hj
      obtain ⟨o, h1, h2⟩ := hw
      rw [hx] at h1; cases h1
      rw [if_pos h2]
    · rw [if_neg]
      · exact (h t).1 j u hj hw
      · intro e
        have := hone x.i j t ⟨x.o, hx, e⟩ hw
        subst this; exact hn u hj
  · rw [if_neg]
    · exact (h t).2 fun j hw u hu => hno j hw u (by simp [hu])
    · intro e; exact hno x.i ⟨x.o, hx, e⟩ v (by simp)

inductive Kind where
  | skip
  | pure
  | read
  | alloc (cs : List AV) (esz : Nat) (mk : Pos → AV) (p : Pos)

structure Ent where
  x : ROp
  tm : Tm
  done : List (Nat × AV)
  v : AV
  kind : Kind

structure EntOK (P : Program) (ops : Array Oper) (ord : List ROp) (nt : Nat) (tm0 : Tm) (q : List PP) (done : List (Nat × AV)) (e : Ent) : Prop where
  mem : e.x ∈ ord
  ct : CT ops tm0 e.tm e.done
  sub : ∀ p ∈ e.done, p ∈ done
  closed : Closed ops (fun i => ∃ v, (i, v) ∈ e.done)
  new : ∀ v, (e.x.i, v) ∉ e.done
  edges : ∀ d ∈ e.x.o.after, Region.binds .any d = true → ∃ v, (d.on, v) ∈ e.done
  isIn : (e.x.i, e.v) ∈ done
  dst : ∀ d, e.x.o.dst = some d → d < nt
  kind : match e.kind with
    | .skip => wantedV ops e.tm e.x.o = some false ∧ e.v = .tup []
    | .pure => wantedV ops e.tm e.x.o = some true ∧ pureV P e.tm e.x.o.op = some e.v
    | .read => wantedV ops e.tm e.x.o = some true ∧ (∃ B, readV P e.tm B e.x.o.op = some e.v) ∧ (⟨e.x.i, rdHold P e.tm e.x.o.op e.v⟩ : PP) ∈ q
    | .alloc cs esz mk p => wantedV ops e.tm e.x.o = some true ∧ allocV P e.tm e.x.o.op = some (cs, esz, mk) ∧ e.v = mk p ∧ (⟨e.x.i, alHold p cs esz⟩ : PP) ∈ q

def Ent.pos (e : Ent) : Option Pos := match e.kind with | .alloc _ _ _ p => some p | _ => none

/-- The machine has come to an effect, or to the end. -/
structure Halt' (P : Program) (ops : Array Oper) (nt : Nat) (rest : List ROp) (q : List PP) (tm : Tm) (A : H) (tmF : Tm) (AF : H) : Prop where
  chk : ∀ p ∈ q, p.hold A
  how : (rest = [] ∧ tm = tmF ∧ A = AF) ∨ ∃ x l v A1, rest = x :: l ∧ wantedV ops tm x.o = some true ∧ x.cls = 3 ∧ EffFact P x.o.op tm A v A1 ∧ (∀ d, x.o.dst = some d → d < nt) ∧
    Tr P ops nt l (dropP x.anc q) (Tm.put' tm x.o.dst v) A1 tmF AF

/-- What is common to all states of the machine's run. -/
structure Base (P : Program) (ops : Array Oper) (ord : List ROp) (nt : Nat) (tm0 : Tm) (rest : List ROp) (q : List PP) (tm : Tm) (A : H) (done : List (Nat × AV)) (av : List Ent) (E : Nat → Prop) : Prop where
  mem : ∀ x ∈ rest, x ∈ ord
  ordp : OrdP ops rest (fun i => ∃ v, (i, v) ∈ done) E
  closed : Closed ops (fun i => ∃ v, (i, v) ∈ done)
  ct : CT ops tm0 tm done
  avp : ∀ e ∈ av, EntOK P ops ord nt tm0 q done e
  nodup : (av.map (·.x.i)).Nodup
  pos : ∀ e ∈ av, ∀ p, e.pos = some p → p.idx < A.next.idx
  posNodup : (av.filterMap Ent.pos).Nodup
  uniq : ∀ i u v, (i, u) ∈ done → (i, v) ∈ done → u = v

theorem uniq_cons {done : List (Nat × AV)} (h : ∀ i u v, (i, u) ∈ done → (i, v) ∈ done → u = v) {i : Nat} (hn : ∀ v, (i, v) ∉ done) (v : AV) : ∀ j a b, (j, a) ∈ (i, v) :: done → (j, b) ∈ (i, v) :: done → a = b := by
  intro j a b ha hb
  rcases List.mem_cons.1 ha with ha | ha <;> rcases List.mem_cons.1 hb with hb | hb
  · cases ha; cases hb; rfl
  · cases ha; exact absurd hb (hn b)
  · cases hb; exact absurd ha (hn a)
  · exact h j a b ha hb

theorem Closed.add {D : Nat → Prop} (h : Closed ops D) {x : ROp} (hx : ops[x.i]? = some x.o) (he : ∀ e ∈ x.o.after, Region.binds .any e = true → D e.on) : Closed ops (fun i => i = x.i ∨ D i) := by
  intro y o e hy ho hm hb
  rcases hy with rfl | hy
  · rw [hx] at ho; cases ho; exact .inr (he e hm hb)
  · exact .inr (h y o e hy ho hm hb)

theorem EntOK.more {ord : List ROp} {nt : Nat} {tm0 : Tm} {q q' : List PP} {done done' : List (Nat × AV)} {e : Ent} (h : EntOK P ops ord nt tm0 q done e) (hq : ∀ p ∈ q, p.i = e.x.i → p ∈ q') (hd : ∀ p ∈ done, p ∈ done') :
    EntOK P ops ord nt tm0 q' done' e := by
  refine ⟨h.mem, h.ct, fun p hp => hd p (h.sub p hp), h.closed, h.new, h.edges, hd _ h.isIn, h.dst, ?_⟩
  have hk := h.kind
  split at hk
  · exact hk
  · exact hk
  · exact ⟨hk.1, hk.2.1, hq _ hk.2.2 rfl⟩
  · exact ⟨hk.1, hk.2.1, hk.2.2.1, hq _ hk.2.2.2 rfl⟩

theorem Base.step {ord : List ROp} (hL : Look P ops ord) {nt : Nat} {tm0 tm : Tm} {x : ROp} {l : List ROp} {q q' : List PP} {A A' : H} {done : List (Nat × AV)} {av : List Ent} {E : Nat → Prop} {v : AV} {kind : Kind}
    (hB : Base P ops ord nt tm0 (x :: l) q tm A done av E) (hd : ∀ d, x.o.dst = some d → d < nt) (hq : ∀ p ∈ q, p ∈ q') (hA : A.next.idx ≤ A'.next.idx)
    (hk : match kind with
      | .skip => wantedV ops tm x.o = some false ∧ v = .tup []
      | .pure => wantedV ops tm x.o = some true ∧ pureV P tm x.o.op = some v
      | .read => wantedV ops tm x.o = some true ∧ (∃ B, readV P tm B x.o.op = some v) ∧ (⟨x.i, rdHold P tm x.o.op v⟩ : PP) ∈ q'
      | .alloc cs esz mkv p => wantedV ops tm x.o = some true ∧ allocV P tm x.o.op = some (cs, esz, mkv) ∧ v = mkv p ∧ (⟨x.i, alHold p cs esz⟩ : PP) ∈ q')
    (hp : ∀ p, (Ent.mk x tm done v kind).pos = some p → p.idx < A'.next.idx ∧ A.next.idx ≤ p.idx) :
    Base P ops ord nt tm0 l q' (Tm.put' tm x.o.dst v) A' ((x.i, v) :: done) (⟨x, tm, done, v, kind⟩ :: av) (fun i => (i = x.i ∧ x.cls = 3) ∨ E i) := by
  cases hB.ordp with
  | cons h1 h2 h3 h4 h5 =>
    have hxo := hB.mem x (by simp)
    have hxf := (hL.fact x hxo).op
    have hnew : ∀ v, (x.i, v) ∉ done := fun v hv => h2 ⟨v, hv⟩
    refine ⟨fun y hy => hB.mem y (by simp [hy]), h5.congr (fun i => ?_) (fun _ => Iff.rfl), ?_, hB.ct.put hxf hL.one hnew _, fun f hf => ?_, ?_, fun f hf p hfp => ?_, ?_, uniq_cons hB.uniq hnew v⟩
    · simp only [List.mem_cons, Prod.mk.injEq]
      exact ⟨fun h => h.elim (fun e => ⟨_, .inl ⟨e, rfl⟩⟩) (fun ⟨v, hv⟩ => ⟨v, .inr hv⟩), fun ⟨v, h⟩ => h.elim (fun e => .inl e.1) (fun hv => .inr ⟨v, hv⟩)⟩
    · have := hB.closed.add hxf h3
      intro y o e' hy ho hm hb
      have := this y o e' (by
        obtain ⟨v, hv⟩ := hy
        rcases List.mem_cons.1 hv with h | h
        · exact .inl (by cases h; rfl)
        · exact .inr ⟨v, h⟩) ho hm hb
      rcases this with h | ⟨v, h⟩
      · exact ⟨_, by rw [h]; exact List.mem_cons_self ..⟩
      · exact ⟨v, List.mem_cons_of_mem _ h⟩
    · rcases List.mem_cons.1 hf with rfl | hf
      · exact ⟨hxo, hB.ct, fun p hp => List.mem_cons_of_mem _ hp, hB.closed, hnew, h3, List.mem_cons_self .., hd, hk⟩
      · exact (hB.avp f hf).more (fun p hp _ => hq p hp) (fun p hp => List.mem_cons_of_mem _ hp)
    · simp only [List.map_cons, List.nodup_cons]
      refine ⟨fun hm => ?_, hB.nodup⟩
      obtain ⟨f, hf, hfx⟩ := List.mem_map.1 hm
      exact hnew _ (by rw [← hfx]; exact (hB.avp f hf).isIn)
    · rcases List.mem_cons.1 hf with rfl | hf
      · exact (hp p hfp).1
      · exact Nat.lt_of_lt_of_le (hB.pos f hf p hfp) hA
    · simp only [List.filterMap_cons]
      cases hpe : (Ent.mk x tm done v kind).pos with
      | none => exact hB.posNodup
      | some p =>
        simp only [List.nodup_cons]
        refine ⟨fun hm => ?_, hB.posNodup⟩
        obtain ⟨f, hf, hfp⟩ := List.mem_filterMap.1 hm
        have h6 := hB.pos f hf p hfp
        have h7 := (hp p hpe).2
        omega

/-- What 'advance' comes to. -/
def Adv (P : Program) (ops : Array Oper) (ord : List ROp) (nt : Nat) (tm0 tmF : Tm) (AF : H) (rest : List ROp) (A : H) (done : List (Nat × AV)) (av : List Ent) : Prop :=
  ∃ rest' q' tm' A' done' av' E', Halt' P ops nt rest' q' tm' A' tmF AF ∧ Base P ops ord nt tm0 rest' q' tm' A' done' av' E' ∧ (∀ p ∈ done, p ∈ done') ∧
      (∀ i, (i ∈ rest'.map (·.i) ∨ i ∈ av'.map (·.x.i)) ↔ (i ∈ rest.map (·.i) ∨ i ∈ av.map (·.x.i))) ∧ rest'.length + av'.length = rest.length + av.length ∧
      (∀ i v, (i, v) ∈ done' → (i, v) ∈ done ∨ i ∈ rest.map (·.i)) ∧
      (∀ e ∈ av', e ∈ av ∨ ∀ p, e.pos = some p → A.next.idx ≤ p.idx) ∧
      ∀ ρ w, Rel ρ A w → Rel ρ A' w ∧ Stp ρ A w ρ A' w

theorem Adv.step {ord : List ROp} {nt : Nat} {tm0 tmF : Tm} {AF : H} {x : ROp} {l : List ROp} {A A1 : H} {done : List (Nat × AV)} {av : List Ent} {v : AV} {tm : Tm} {kind : Kind}
    (h : Adv P ops ord nt tm0 tmF AF l A1 ((x.i, v) :: done) (⟨x, tm, done, v, kind⟩ :: av)) (hA : A.next.idx ≤ A1.next.idx) (hp : ∀ p, (Ent.mk x tm done v kind).pos = some p → A.next.idx ≤ p.idx)
    (hr : ∀ ρ w, Rel ρ A w → Rel ρ A1 w ∧ Stp ρ A w ρ A1 w) : Adv P ops ord nt tm0 tmF AF (x :: l) A done av := by
  obtain ⟨rest', q', tm', A', done', av', E', g1, g2, g3, g4, g5, g6, g7, g8⟩ := h
  refine ⟨rest', q', tm', A', done', av', E', g1, g2, fun p hp => g3 p (List.mem_cons_of_mem _ hp), fun i => (g4 i).trans ?_, by simp only [List.length_cons] at g5 ⊢; omega, fun i u hu => ?_, fun e he => ?_, fun ρ w hw => ?_⟩
  · simp only [List.map_cons, List.mem_cons]
    constructor
    · rintro (h | h | h)
      · exact .inl (.inr h)
      · exact .inl (.inl h)
      · exact .inr h
    · rintro ((h | h) | h)
      · exact .inr (.inl h)
      · exact .inl h
      · exact .inr (.inr h)
  · rcases g6 i u hu with h | h
    · rcases List.mem_cons.1 h with h | h
      · cases h; exact .inr (by simp)
      · exact .inl h
    · exact .inr (by simp only [List.map_cons, List.mem_cons]; exact .inr h)
  · rcases g7 e he with h | h
    · rcases List.mem_cons.1 h with rfl | h
      · exact .inr hp
      · exact .inl h
    · exact .inr fun p hpe => Nat.le_trans hA (h p hpe)
  · obtain ⟨h1, h2⟩ := hr ρ w hw
    obtain ⟨h3, h4⟩ := g8 ρ w h1
    exact ⟨h3, h2.trans h4⟩

/-- **On to the next effect.** The machine runs what touches no memory but to read and to make. -/
theorem advance {ord : List ROp} (hL : Look P ops ord) {nt : Nat} {tm0 tmF : Tm} {AF : H} {rest : List ROp} {q : List PP} {tm : Tm} {A : H} (ht : Tr P ops nt rest q tm A tmF AF) : ∀ {done : List (Nat × AV)} {av : List Ent} {E : Nat → Prop},
    Base P ops ord nt tm0 rest q tm A done av E → Adv P ops ord nt tm0 tmF AF rest A done av := by
  induction ht with
  | @nil q tm A hc => exact fun {done av E} hB => ⟨[], q, tm, A, done, av, E, ⟨hc, .inl ⟨rfl, rfl, rfl⟩⟩, hB, fun _ h => h, fun _ => Iff.rfl, rfl, fun _ _ h => .inl h, fun e he => .inl he, fun ρ w h => ⟨h, .refl⟩⟩
  | @eff x l q tm tm' A A1 A' v hw hc hchk hg hd ht _ =>
    exact fun {done av E} hB => ⟨x :: l, q, tm, A, done, av, E, ⟨hchk, .inr ⟨x, l, v, A1, rfl, hw, hc, hg, hd, ht⟩⟩, hB, fun _ h => h, fun _ => Iff.rfl, rfl, fun _ _ h => .inl h, fun e he => .inl he, fun ρ w h => ⟨h, .refl⟩⟩
  | @skip x l q tm tm' A A' hw hd ht ih =>
    intro done av E hB
    exact (ih (hB.step hL (kind := .skip) hd (fun _ h => h) (Nat.le_refl _) ⟨hw, rfl⟩ (fun p hp => by cases hp))).step (Nat.le_refl _) (fun p hp => by cases hp) (fun ρ w h => ⟨h, .refl⟩)
  | @pure x l q tm tm' A A' v hw hv hd ht ih =>
    intro done av E hB
    exact (ih (hB.step hL (kind := .pure) hd (fun _ h => h) (Nat.le_refl _) ⟨hw, hv⟩ (fun p hp => by cases hp))).step (Nat.le_refl _) (fun p hp => by cases hp) (fun ρ w h => ⟨h, .refl⟩)
  | @read x l q tm tm' A A' v hw hv hd ht ih =>
    intro done av E hB
    exact (ih (hB.step hL (kind := .read) hd (fun _ h => List.mem_cons_of_mem _ h) (Nat.le_refl _) ⟨hw, ⟨A, hv⟩, List.mem_cons_self ..⟩ (fun p hp => by cases hp))).step (Nat.le_refl _) (fun p hp => by cases hp) (fun ρ w h => ⟨h, .refl⟩)
  | @alloc x l q tm tm' A A' cs esz mk hw hv hd ht ih =>
    intro done av E hB
    have hn : (A.new (.cells cs esz false)).next.idx = A.next.idx + 1 := by simp [H.new, Pos.idx_succ]
    exact (ih (hB.step hL (kind := .alloc cs esz mk A.next) hd (fun _ h => List.mem_cons_of_mem _ h) (by omega) ⟨hw, hv, rfl, List.mem_cons_self ..⟩ (fun p hp => by cases hp; exact ⟨by omega, Nat.le_refl _⟩))).step
      (by omega) (fun p hp => by cases hp; exact Nat.le_refl _) (fun ρ w h => h.later _)

/-! ### The model's run beside the machine's -/
def isListed (listed : Array Bool) (i : Nat) : Prop := listed.getD i true = true

structure Sim (P : Program) (ops : Array Oper) (ord : List ROp) (nt : Nat) (tm0 tmF : Tm) (AF : H) (ρ0 : RM) (A0 : H) (w0 : World) (a0 : Act) (listed : Array Bool) (a : Act) (w : World)
    (rest : List ROp) (q : List PP) (tm : Tm) (A : H) (done : List (Nat × AV)) (av : List Ent) (E : Nat → Prop) (ρ : RM) : Prop where
  halt : Halt' P ops nt rest q tm A tmF AF
  base : Base P ops ord nt tm0 rest q tm A done av E
  size : listed.size = ops.size
  list : ∀ i, i < ops.size → (listed.getD i true = false ↔ (i ∈ rest.map (·.i) ∨ i ∈ av.map (·.x.i)))
  closed : Closed ops (fun i => isListed listed i)
  rel : Rel ρ A w
  stp : Stp ρ0 A0 w0 ρ A w
  nonep : ∀ e ∈ av, ∀ p, e.pos = some p → ρ.m p = none ∧ A0.next.idx ≤ p.idx
  tmps : ∀ t, (∀ j v, (j, v) ∈ done → Writes ops j t → isListed listed j → ∃ v', a.tmps[t]? = some v' ∧ VR ρ v v') ∧
    ((∀ j, Writes ops j t → ¬ isListed listed j) → ∀ v, tm0.get (Pos.ofNat t) = some v → ∃ v', a.tmps[t]? = some v' ∧ VR ρ v v')
  tsize : a.tmps.size = a0.tmps.size
  defers : a.defers = a0.defers

theorem writes_lt {i : Nat} {t : Tmp} (h : Writes ops i t) : i < ops.size := by
  obtain ⟨o, h1, _⟩ := h; exact (Array.getElem?_eq_some_iff.1 h1).1

/-- What an operation that is ready finds in the temporaries that it looks at. -/
theorem ready_reads {ord : List ROp} (hL : Look P ops ord) {listed : Array Bool} {a : Act} {ρ : RM} {tm0 tmx : Tm} {dx done : List (Nat × AV)} {x : ROp} (hx : x ∈ ord) (hct : CT ops tm0 tmx dx) (hsub : ∀ p ∈ dx, p ∈ done)
    (hcl : Closed ops (fun i => ∃ v, (i, v) ∈ dx)) (hdx : ∀ y, Anc ops y x.i → ∃ v, (y, v) ∈ dx) (hnew : ∀ v, (x.i, v) ∉ dx) (hlc : Closed ops (fun i => isListed listed i)) (hready : ∀ y, Anc ops y x.i → isListed listed y) (hun : ¬ isListed listed x.i)
    (htm : ∀ t, (∀ j v, (j, v) ∈ done → Writes ops j t → isListed listed j → ∃ v', a.tmps[t]? = some v' ∧ VR ρ v v') ∧
      ((∀ j, Writes ops j t → ¬ isListed listed j) → ∀ v, tm0.get (Pos.ofNat t) = some v → ∃ v', a.tmps[t]? = some v' ∧ VR ρ v v')) :
    ∀ t ∈ readsOf ops x.o, ∀ v, tmx.get (Pos.ofNat t) = some v → ∃ v', a.tmps[t]? = some v' ∧ VR ρ v v' := by
  intro t ht v hv
  by_cases hw : ∃ j, Writes ops j t
  · obtain ⟨j, hj⟩ := hw
    rcases hL.name x hx t ht j hj with rfl | h | h
    · -- it writes the temporary itself: not yet
      have h0 := (hct t).2 fun k hk u hu => by have := hL.one _ _ _ hk hj; subst this; exact hnew u hu
      rw [h0] at hv
      exact (htm t).2 (fun k hk => by have := hL.one _ _ _ hk hj; subst this; exact hun) v hv
    · obtain ⟨u, hu⟩ := hdx j h
      have h1 := (hct t).1 j u hu hj
      rw [h1] at hv; cases hv
      exact (htm t).1 j _ (hsub _ hu) hj (hready j h)
    · -- the writer stands behind it
      have hnj : ∀ u, (j, u) ∉ dx := fun u hu => by
        obtain ⟨u', hu'⟩ := h.mem' hcl ⟨u, hu⟩
        exact hnew u' hu'
      have h0 := (hct t).2 fun k hk u hu => by have := hL.one _ _ _ hk hj; subst this; exact hnj u hu
      rw [h0] at hv
      exact (htm t).2 (fun k hk => by
        have := hL.one _ _ _ hk hj; subst this
        intro hl; exact hun (h.mem' hlc hl)) v hv
  · have hw' : ∀ j, ¬ Writes ops j t := fun j hj => hw ⟨j, hj⟩
    have h0 := (hct t).2 fun k hk => absurd hk (hw' k)
    rw [h0] at hv
    exact (htm t).2 (fun k hk => absurd hk (hw' k)) v hv

theorem mem_tmpsOf : ∀ {l : List Operand} {t : Tmp}, .tmp t ∈ l → t ∈ tmpsOf l
  | x :: l, t, h => by
    rcases List.mem_cons.1 h with h | h
    · subst h; simp [tmpsOf]
    · have := mem_tmpsOf h
      cases x <;> simp [tmpsOf, this]

theorem opd_of_reads {tmx : Tm} {a : Act} {ρ : RM} {o : Oper} (h : ∀ t ∈ readsOf ops o, ∀ v, tmx.get (Pos.ofNat t) = some v → ∃ v', a.tmps[t]? = some v' ∧ VR ρ v v') : OpdRel ρ tmx a o.op.operands.toList := by
  intro x hx v hv
  cases x with
  | tmp t =>
    obtain ⟨v', h1, h2⟩ := h t (by unfold readsOf; exact List.mem_append.2 (.inl (mem_tmpsOf hx))) v hv
    have : a.eval (.tmp t) = v' := by simp [Act.eval, Array.getD_eq_getD_getElem?, h1]
    rw [this]; exact h2
  | const c => exact VR.ofConst hv
  | global g =>
    simp only [ev, Option.some.injEq] at hv
    subst hv
    exact .gptr g 0
  | func f =>
    simp only [ev, Option.some.injEq] at hv
    subst hv
    have := VR.func (ρ := ρ) (f := Pos.ofNat f) (fs := []) (cs := []) (fs' := #[]) (cs' := #[]) .nil .nil
    rw [Pos.idx_ofNat] at this
    exact this

theorem guard_of_reads {tmx : Tm} {a : Act} {ρ : RM} {o : Oper} {b : Bool} (h : ∀ t ∈ readsOf ops o, ∀ v, tmx.get (Pos.ofNat t) = some v → ∃ v', a.tmps[t]? = some v' ∧ VR ρ v v') (hw : wantedV ops tmx o = some b) : Region.wanted o (yielded ops a.tmps) = b :=
  wantedV_sound' hw fun j want d hg hd v hv => h d (by unfold readsOf; rw [hg]; simp [hd]) v hv

theorem getD_set_self' (listed : Array Bool) (i : Nat) (h : i < listed.size) : (listed.setIfInBounds i true).getD i true = true := by simp [Array.getD_eq_getD_getElem?, h]
theorem getD_set_other (listed : Array Bool) (i j : Nat) (h : i ≠ j) : (listed.setIfInBounds i true).getD j true = listed.getD j true := by simp [Array.getD_eq_getD_getElem?, Array.getElem?_setIfInBounds_ne h]
theorem isListed_set {listed : Array Bool} {i j : Nat} (hi : i < listed.size) : isListed (listed.setIfInBounds i true) j ↔ j = i ∨ isListed listed j := by
  unfold isListed
  by_cases h : i = j
  · subst h; simp [getD_set_self' listed i hi]
  · rw [getD_set_other _ _ _ h]; exact ⟨.inr, fun e => e.elim (fun e => absurd e.symm h) id⟩

/-- The temporaries behind one operation more. -/
theorem tmps_put {listed : Array Bool} {a : Act} {ρ ρ' : RM} {tm0 : Tm} {done : List (Nat × AV)} {x : ROp} {v : AV} {v' : Value} {nt : Nat} (hl : ρ.le ρ') (hx : ops[x.i]? = some x.o) (hone : ∀ i j t, Writes ops i t → Writes ops j t → i = j)
    (hi : x.i < listed.size) (_hin : (x.i, v) ∈ done) (huniq : ∀ u, (x.i, u) ∈ done → u = v) (hv : VR ρ' v v') (hd : ∀ d, x.o.dst = some d → d < nt) (hn : nt ≤ a.tmps.size)
    (htm : ∀ t, (∀ j v, (j, v) ∈ done → Writes ops j t → isListed listed j → ∃ v', a.tmps[t]? = some v' ∧ VR ρ v v') ∧
      ((∀ j, Writes ops j t → ¬ isListed listed j) → ∀ v, tm0.get (Pos.ofNat t) = some v → ∃ v', a.tmps[t]? = some v' ∧ VR ρ v v')) :
    ∀ t, (∀ j v, (j, v) ∈ done → Writes ops j t → isListed (listed.setIfInBounds x.i true) j → ∃ u', (a.put x.o.dst v').tmps[t]? = some u' ∧ VR ρ' v u') ∧
      ((∀ j, Writes ops j t → ¬ isListed (listed.setIfInBounds x.i true) j) → ∀ v, tm0.get (Pos.ofNat t) = some v → ∃ u', (a.put x.o.dst v').tmps[t]? = some u' ∧ VR ρ' v u') := by
  intro t
  have hget : (a.put x.o.dst v').tmps[t]? = if x.o.dst = some t then some v' else a.tmps[t]? := by
    cases hdd : x.o.dst with
    | none => simp [Act.put]
    | some d =>
      simp only [Act.put]
      by_cases e : d = t
      · subst e; have := hd d hdd; simp only [if_true]; rw [Array.getElem?_setIfInBounds_self_of_lt (Nat.lt_of_lt_of_le this hn)]
      · rw [Array.getElem?_setIfInBounds_ne e, if_neg (by simpa using e)]
  rw [hget]
  by_cases hwx : x.o.dst = some t
  · rw [if_pos hwx]
    have hW : Writes ops x.i t := ⟨x.o, hx, hwx⟩
    refine ⟨fun j u hj hw _ => ?_, fun hno => absurd ((isListed_set hi).2 (.inl rfl)) (hno x.i hW)⟩
    have := hone _ _ _ hw hW
    subst this
    rw [huniq u hj]
    exact ⟨v', rfl, hv⟩
  · rw [if_neg hwx]
    refine ⟨fun j u hj hw hlj => ?_, fun hno u hu => ?_⟩
    · rcases (isListed_set hi).1 hlj with rfl | hlj
      · obtain ⟨o, h1, h2⟩ := hw
        rw [hx] at h1; cases h1; exact absurd h2 hwx
      · obtain ⟨u', h1, h2⟩ := (htm t).1 j u hj hw hlj
        exact ⟨u', h1, h2.mono hl⟩
    · obtain ⟨u', h1, h2⟩ := (htm t).2 (fun j hw hlj => hno j hw ((isListed_set hi).2 (.inr hlj))) u hu
      exact ⟨u', h1, h2.mono hl⟩

end Go.AM
