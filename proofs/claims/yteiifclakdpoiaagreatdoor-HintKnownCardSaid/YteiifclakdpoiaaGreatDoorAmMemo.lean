/-
  THE MACHINE 'AM': what a function without effects gave at some arguments, run once: rows of arguments by what they hold.
-/
import Derived.Test.YteiifclakdpoiaaGreatDoorAmOrc
import Derived.Test.YteiifclakdpoiaaGreatDoorAmFast4
namespace Go.AM
variable {P : Program}

/-- A value without places. -/
def AV.free0 : AV → Bool
  | .bool _ | .int _ _ | .str _ | .nilp | .nils | .nilm | .nilf | .nili => true
  | _ => false
def AV.free : AV → Bool
  | .agg l | .tup l => l.all AV.free0
  | v => v.free0

theorem VR.free0 {ρ ρ' : RM} {v : AV} {x : Value} (h : VR ρ v x) (hf : v.free0 = true) : VR ρ' v x := by
  cases h <;> first | (cases hf; done) | constructor
theorem VRs.free0 {ρ ρ' : RM} : ∀ {l : List AV} {xs : List Value}, VRs ρ l xs → l.all AV.free0 = true → VRs ρ' l xs
  | _, _, .nil, _ => .nil
  | _, _, .cons a b, h => by
    simp only [List.all_cons, Bool.and_eq_true] at h
    exact .cons (a.free0 h.1) (b.free0 h.2)
theorem VR.free {ρ ρ' : RM} {v : AV} {x : Value} (h : VR ρ v x) (hf : v.free = true) : VR ρ' v x := by
  cases v <;> first | exact h.free0 hf | skip
  · cases h; rename_i cs hcs; exact .agg (hcs.free0 hf)
  · cases h; rename_i cs hcs; exact .tup (hcs.free0 hf)

/-- An argument: a value, or a slice of so many elements of one cell each, by what it holds. -/
inductive MArg where
  | val (v : AV)
  | sl (l : List AV)

/-- The arguments as the memo's run has them; its rows stand at the places from 'i' on. -/
noncomputable def mArgs : List MArg → Nat → List AV
  | [], _ => []
  | .val v :: l, i => v :: mArgs l i
  | .sl r :: l, i => .slice (Pos.ofNat i) 0 r.length r.length true :: mArgs l (i + 1)
noncomputable def mRows : List MArg → Nat → PT HObj
  | [], _ => .leaf
  | .val _ :: l, i => mRows l i
  | .sl r :: l, i => PT.put (some (.cells r 1 true)) (Pos.ofNat i) (mRows l (i + 1))
def mCount : List MArg → Nat
  | [] => 0
  | .val _ :: l => mCount l
  | .sl _ :: l => mCount l + 1
noncomputable def mHeap (l : List MArg) : H := ⟨Pos.ofNat (mCount l), mRows l 0, 0, false⟩

/-- Are the call's arguments those? -/
noncomputable def mFits (A : H) : List MArg → List AV → Bool
  | [], [] => true
  | .val u :: l, v :: vs => same v u && (u.free && mFits A l vs)
  | .sl r :: l, .slice p off len cap _ :: vs => (match A.t.get p with
    | some (.cells cs e _) => Nat.beq e 1 && (Nat.beq len r.length && (Nat.ble (off + cap) cs.length && (match readN cs off len with | some q => sames q r | none => false)))
    | _ => false) && mFits A l vs
  | _, _ => false

structure Memo where
  args : List MArg
  val : AV

/-- The memo's run comes to its value. -/
noncomputable def Memo.run (P : Program) (O : PT Orc) (f : Pos) (m : Memo) : Ans :=
  bodyF P (execF P O 1000000) f [] [] (mArgs m.args 0) (mHeap m.args) fun v _ => boolK (same v m.val) .ok (.err 31 0 0)

/-- What stands for the memo's rows in the world. -/
inductive MRel (ρ : RM) (w : World) : List MArg → List AV → List Value → List RB → Prop
  | nil : MRel ρ w [] [] [] []
  | val {u : AV} {x : Value} {l : List MArg} {vs : List AV} {xs : List Value} {rs : List RB} : u.free = true → VR ρ u x → MRel ρ w l vs xs rs → MRel ρ w (.val u :: l) (u :: vs) (x :: xs) rs
  | sl {r : List AV} {v : AV} {b off cap extra : Nat} {sh : Nat} {l : List MArg} {vs : List AV} {xs : List Value} {rs : List RB} : ORel ρ (.cells r 1 true) ⟨b, sh, extra⟩ w → b < w.heap.size → cap = r.length + extra → (cap = 0 ∨ off = sh) → (∀ y ∈ r, y.free0 = true) →
      MRel ρ w l vs xs rs → MRel ρ w (.sl r :: l) (v :: vs) (.slice (some ⟨b, off, none⟩) r.length cap :: xs) (⟨b, sh, extra⟩ :: rs)

theorem mFits_rel {ρ : RM} {A : H} {w : World} (hr : Rel ρ A w) : ∀ {l : List MArg} {vs : List AV} {xs : List Value}, mFits A l vs = true → VRs ρ vs xs → (∀ r, MArg.sl r ∈ l → r.all AV.free0 = true) → ∃ rs, MRel ρ w l vs xs rs
  | [], [], _, _, h, _ => by cases h; exact ⟨[], .nil⟩
  | [], _ :: _, _, h, _, _ => by simp [mFits] at h
  | .val _ :: _, [], _, h, _, _ => by simp [mFits] at h
  | .sl _ :: _, [], _, h, _, _ => by simp [mFits] at h
  | .val u :: l, v :: vs, _, h, hv, hfr => by
    simp only [mFits, Bool.and_eq_true] at h
    have := same_eq h.1; subst this
    cases hv with
    | cons a b =>
      obtain ⟨rs, hrs⟩ := mFits_rel hr h.2.2 b (fun r hr => hfr r (List.mem_cons_of_mem _ hr))
      exact ⟨rs, .val h.2.1 a hrs⟩
  | .sl r :: l, v :: vs, _, h, hv, hfr => by
    cases v <;> first | (simp [mFits] at h; done) | skip
    rename_i p off len cap soft
    simp only [mFits, Bool.and_eq_true] at h
    obtain ⟨h1, h2⟩ := h
    cases hv with
    | cons a b =>
      obtain ⟨rs, hrs⟩ := mFits_rel hr h2 b (fun r hr => hfr r (List.mem_cons_of_mem _ hr))
      split at h1
      · rename_i cs e ro hp
        simp only [Bool.and_eq_true, Nat.beq_eq, Nat.ble_eq] at h1
        obtain ⟨rfl, rfl, hcap, h3⟩ := h1
        split at h3
        · rename_i q hq
          have := sames_eq h3; subst this
          obtain ⟨hle, hq2⟩ := readN_some hq
          cases a with | @slice _ _ _ _ _ rb off' cap' hm hcp hoff hlen =>
          obtain ⟨c, t, fz, hb, hsz, hcell, _⟩ := hr.obj _ _ _ hp hm
          have hex : cap' ≤ cap + rb.extra := by split at hcp <;> omega
          have hge : cap ≤ cap' := by split at hcp <;> omega
          have hql : q.length ≤ cap := hlen
          refine ⟨⟨rb.blk, rb.shift + off, cap' - q.length⟩ :: rs, .sl ⟨c, t, fz, hb, ?_, fun i v hv => ?_, fun h => by cases h⟩ (hr.dom _ _ hm).2 (by omega) hoff (fun y hy => List.all_eq_true.1 (hfr q (by simp)) y hy) hrs⟩
          · simp only [Nat.mul_one] at hsz ⊢; omega
          · have hi : i < q.length := (List.getElem?_eq_some_iff.1 hv).1
            have : cs[off + i]? = some v := by
              rw [hq2, List.getElem?_take, if_pos hi, List.getElem?_drop] at hv
              exact hv
            obtain ⟨v', h5, h6⟩ := hcell _ _ this
            exact ⟨v', by rw [Nat.add_assoc]; exact h5, h6⟩
        · cases h3
      · cases h1

theorem MRel.rows {ρ : RM} {w : World} : ∀ {l : List MArg} {vs : List AV} {xs : List Value} {rs : List RB}, MRel ρ w l vs xs rs → ∀ (i : Nat) (p : Pos) (o : HObj), (mRows l i).get p = some o → ∃ j rb r, p = Pos.ofNat (i + j) ∧ rs[j]? = some rb ∧ o = .cells r 1 true ∧ ORel ρ o rb w ∧ ∀ y ∈ r, y.free0 = true
  | _, _, _, _, .nil, i, p, o, h => by simp [mRows, PT.get_leaf] at h
  | _, _, _, _, .val _ _ hl, i, p, o, h => hl.rows i p o h
  | _, _, _, _, .sl (r := r) h1 _ _ _ hf hl, i, p, o, h => by
    simp only [mRows, PT.get_put] at h
    by_cases hp : p = Pos.ofNat i
    · simp [hp] at h; exact ⟨0, _, r, hp, rfl, h.symm, h ▸ h1, hf⟩
    · rw [if_neg hp] at h
      obtain ⟨j, rb, r', e1, e2, e3, e4, e5⟩ := hl.rows (i + 1) p o h
      exact ⟨j + 1, rb, r', by rw [e1]; congr 1; omega, by simpa using e2, e3, e4, e5⟩
theorem MRel.blk {ρ : RM} {w : World} : ∀ {l : List MArg} {vs : List AV} {xs : List Value} {rs : List RB}, MRel ρ w l vs xs rs → rs.length = mCount l ∧ ∀ rb ∈ rs, rb.blk < w.heap.size
  | _, _, _, _, .nil => ⟨rfl, fun _ h => by cases h⟩
  | _, _, _, _, .val _ _ hl => hl.blk
  | _, _, _, _, .sl _ hb _ _ _ hl => ⟨by simp [mCount, hl.blk.1], fun rb h => by
      rcases List.mem_cons.1 h with rfl | h
      · exact hb
      · exact hl.blk.2 rb h⟩
theorem MRel.args {ρ ρ0 : RM} {w : World} : ∀ {l : List MArg} {vs : List AV} {xs : List Value} {rs : List RB}, MRel ρ w l vs xs rs → ∀ i, (∀ j rb, rs[j]? = some rb → ρ0.m (Pos.ofNat (i + j)) = some rb) → VRs ρ0 (mArgs l i) xs
  | _, _, _, _, .nil, _, _ => .nil
  | _, _, _, _, .val hf hv hl, i, h => .cons (hv.free hf) (hl.args i h)
  | _, _, _, _, .sl (b := b) (sh := sh) (extra := extra) _ _ hc ho _ hl, i, h =>
    .cons (.slice (rb := ⟨b, sh, extra⟩) (h 0 _ rfl) (by simp only [if_true]; exact hc) (by simpa using ho) (Nat.le_refl _)) (hl.args (i + 1) fun j rb e => by
      have := h (j + 1) rb (by simpa using e)
      rwa [show i + (j + 1) = i + 1 + j by omega] at this)

def Memo.wf (m : Memo) : Bool := m.val.free && m.args.all fun a => match a with | .val v => v.free | .sl r => r.all AV.free0

noncomputable def orcMemo (l : List Memo) : Orc := fun args A k els =>
  @List.rec Memo (fun _ => Ans) els (fun m _ ih => boolK (mFits A m.args args) (k m.val A) ih) l

theorem good_memo (hmix : P.follows .mixedOrders = true) {O : PT Orc} (hO : OrOK P O) (f : Nat) : ∀ (l : List Memo), (∀ m ∈ l, m.wf = true ∧ m.run P O (Pos.ofNat f) = .ok) → Good P f (orcMemo l)
  | [], _ => fun _ _ _ _ h => .inl h
  | m :: l, hl => by
    intro args A k els h
    have h' : boolK (mFits A m.args args) (k m.val A) (orcMemo l args A k els) = .ok := h
    rw [boolK_eq] at h'
    split at h'
    · rename_i hfit
      obtain ⟨hwf, hrun⟩ := hl m (by simp)
      unfold Memo.run at hrun
      rw [bodyF_eq, execF_eq] at hrun
      obtain ⟨v, A1, hk, hs⟩ := appFunc_sound (exec_sound hmix hO 1000000).ok hrun
      have hv : v = m.val := by
        rw [boolK_eq] at hk
        split at hk
        · rename_i e; exact same_eq e
        · cases hk
      subst hv
      simp only [Memo.wf, Bool.and_eq_true] at hwf
      refine .inr ⟨_, _, h', fun ρ w args' hr ha => ?_⟩
      obtain ⟨rs, hrs⟩ := mFits_rel hr hfit ha (fun r hr => List.all_eq_true.1 hwf.2 _ hr)
      let ρ0 : RM := ⟨fun p => rs[p.idx]?, ρ.env, ρ.envOk⟩
      have hH : Rel ρ0 (mHeap m.args) w := by
        refine ⟨fun p o rb e er => ?_, fun p q o o' rb rb' e e' _ _ _ => ?_, fun p rb e => ?_, fun p o e => ?_, fun g hg => by simp [mHeap] at hg⟩
        · obtain ⟨j, rb0, r, rfl, e2, rfl, ⟨c, t, fz, e4, e5, e6, e7⟩, e8⟩ := hrs.rows 0 p o e
          simp only [ρ0, Pos.idx_ofNat, Nat.zero_add] at er
          rw [e2] at er; cases er
          refine ⟨c, t, fz, e4, e5, fun i v hv => ?_, e7⟩
          obtain ⟨v', x1, x2⟩ := e6 i v hv
          exact ⟨v', x1, x2.free0 (e8 v (List.mem_of_getElem? hv))⟩
        · obtain ⟨_, _, _, _, _, rfl, _⟩ := hrs.rows 0 p o e
          obtain ⟨_, _, _, _, _, rfl, _⟩ := hrs.rows 0 q o' e'
          exact .inr ⟨rfl, rfl⟩
        · have e' : rs[p.idx]? = some rb := e
          have hlt := (List.getElem?_eq_some_iff.1 e').1
          refine ⟨?_, hrs.blk.2 rb (List.mem_of_getElem? e')⟩
          show p.idx < (Pos.ofNat (mCount m.args)).idx
          rw [Pos.idx_ofNat, ← hrs.blk.1]; exact hlt
        · obtain ⟨j, rb0, r, rfl, e2, _⟩ := hrs.rows 0 p o e
          show (Pos.ofNat (0 + j)).idx < (Pos.ofNat (mCount m.args)).idx
          rw [Pos.idx_ofNat, Pos.idx_ofNat, ← hrs.blk.1, Nat.zero_add]
          exact (List.getElem?_eq_some_iff.1 e2).1
      have hown : ∀ r, ¬ Owned ρ0 (mHeap m.args) r := by
        rintro r ⟨p, o, rb, e, ho, _⟩
        obtain ⟨_, _, _, _, _, rfl, _⟩ := hrs.rows 0 p o e
        cases ho
      obtain ⟨hcall, hcalls⟩ := hs ρ0 w #[] #[] args' hH .nil .nil (hrs.args 0 fun j rb e => by simpa [ρ0, Pos.idx_ofNat] using e)
      rw [Pos.idx_ofNat] at hcall hcalls
      refine .inl ⟨f, args', by simpa using hcall w, fun n => ?_⟩
      refine (by simpa using hcalls n : CallsIn (FW none) n P f args' w _).mono ?_
      rintro e w1 ⟨ρ1, v', rfl, q1, q2, q3⟩
      have hk : ∀ b, b < w.heap.size → w1.heap[b]? = w.heap[b]? := fun b hb => q1.keep b hb (hown b)
      refine ⟨ρ, v', rfl, ⟨.refl _, Nat.le_refl _, q1.size, q1.os, q1.output, q1.tape, fun b hb _ => hk b hb, fun _ _ h => h, fun _ _ h _ => h⟩, ?_, q3.free hwf.1⟩
      exact ⟨fun p o rb e er => (hr.obj p o rb e er).mono (.refl _) (hk _ (hr.dom p rb er).2), hr.inj, fun p rb e => ⟨(hr.dom p rb e).1, Nat.lt_of_lt_of_le (hr.dom p rb e).2 q1.size⟩, hr.ids, hr.glob⟩
    · exact good_memo hmix hO f l (fun m hm => hl m (by simp [hm])) args A k els h'

end Go.AM
