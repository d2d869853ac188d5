/-
  THE MACHINE 'AM': A RANGE OVER A MAP OF TWO ENTRIES: the model may begin with either; where both ways come to the same, the loop comes to that.
-/
import Derived.Test.YteiifclakdpoiaaGreatDoorAmLoc
namespace Go.AM
variable {P : Program}

theorem MapRel.nth {ρ : RM} : ∀ {es : List (AV × AV × Nat)} {es' : List MapEntry}, MapRel ρ es es' → ∀ (i : Nat) (e' : MapEntry), es'[i]? = some e' → ∃ e, es[i]? = some e ∧ VR ρ e.1 e'.key ∧ VR ρ e.2.1 e'.val ∧ e'.born = e.2.2
  | _, _, .nil, i, e', h => by simp at h
  | _, _, .cons a b h, 0, e', he => by simp at he; subst he; exact ⟨_, rfl, a, b, rfl⟩
  | _, _, .cons a b h, i + 1, e', he => by
    obtain ⟨e, h1, h2⟩ := MapRel.nth h i e' (by simpa using he)
    exact ⟨e, by simpa using h1, h2⟩

/-- The first step of a range over a map: some entry. -/
theorem nextM_fork {ρ : RM} {A : H} {w : World} (hr : Rel ρ A w) {p q : Pos} {since last clock : Nat} (hp : A.t.get p = some (.miter (some q) since [] last)) {rb : RB} (hm : ρ.m p = some rb) {es : List (AV × AV × Nat)} (hq : A.t.get q = some (.map es clock))
    (hne : es ≠ []) (hold : ∀ e ∈ es, e.2.2 < since) (ty : TypeId) :
    ∃ (i : Nat) (e : AV × AV × Nat) (w' : World) (v' : Value), es[i]? = some e ∧ Stp ρ A w ρ (A.set p (some (.miter (some q) since [e.2.2] clock))) w' ∧ Rel ρ (A.set p (some (.miter (some q) since [e.2.2] clock))) w' ∧
      VR ρ (.tup [.bool true, e.1, e.2.1]) v' ∧ (Instr.next (.pointer (some ⟨rb.blk, rb.shift + 0, none⟩)) false ty).run P w = .ok v' w' := by
  obtain ⟨h0, m', ⟨rq, hmq, rfl⟩, h2⟩ := hr.obj _ _ _ hp hm
  obtain ⟨es', g1, g2⟩ := hr.obj _ _ _ hq hmq
  have hlt := (hr.dom _ _ hm).2
  have hlen : es.length = es'.size := by rw [g2.length, Array.length_toList]
  have hpos : 0 < es'.size := by
    rw [← hlen]; exact List.length_pos_iff.2 hne
  have hborn : ∀ e' ∈ es'.toList, e'.born < since := by
    intro e' he'
    obtain ⟨i, hi⟩ := List.getElem?_of_mem he'
    obtain ⟨e, h3, _, _, h4⟩ := g2.nth i e' hi
    rw [h4]; exact hold e (List.mem_of_getElem? h3)
  have hf : es'.filter (fun e => !(#[] : Array Nat).contains e.born) = es' := by
    rw [Array.filter_eq_self]; intro a _; simp
  have ho : es'.filter (fun e => decide (e.born < since)) = es' := by
    rw [Array.filter_eq_self]; intro a ha; simpa using hborn a (by simpa using ha)
  have hnw : es'.filter (fun e => decide (e.born ≥ since)) = #[] := by
    rw [Array.filter_eq_empty_iff]; intro a ha; have := hborn a (by simpa using ha); simp; omega
  have hcand : ((if es'.isEmpty then #[none] else #[]) ++ (es' ++ #[]).map some : Array (Option MapEntry)) = es'.map some := by
    have : es'.isEmpty = false := by
      cases h : es'.isEmpty with
      | false => rfl
      | true => rw [Array.isEmpty_iff] at h; subst h; simp at hpos
    simp [this]
  have hi0 : (getObj rb.blk).run P w = .ok (.mapIter (some rq.blk) since #[] last) w := by simp [getObj, Sem.run, h2]
  -- the pick
  obtain ⟨i, w1, hilt, hs1, hr1, hch, hw1⟩ : ∃ (i : Nat) (w1 : World), i < es'.size ∧ Stp ρ A w ρ A w1 ∧ Rel ρ A w1 ∧ (choose (.mapNext es'.size)).run P w = .ok i w1 ∧ w1.heap = w.heap := by
    by_cases h1 : es'.size ≤ 1
    · exact ⟨0, w, hpos, .refl, hr, by simp [choose, Sem.run, Question.forced, h1], rfl⟩
    · refine ⟨w.tape w.drawn (.mapNext es'.size) % es'.size, w.drew, Nat.mod_lt _ hpos, .drew, hr.drew, ?_, rfl⟩
      simp [choose, Sem.run, Question.forced, h1, Question.cut]
  have hei : es'.toList[i]? = some (es'[i]) := by simp [hilt]
  obtain ⟨e, h3, hk, hv, hb⟩ := g2.nth i _ hei
  have h2' : w1.heap[rb.blk]? = some (.mapIter (some rq.blk) since #[] last) := by rw [hw1]; exact h2
  obtain ⟨hr2, hs2⟩ := hr1.turn (o' := .miter (some q) since [e.2.2] clock) hp hm rfl rfl (putIter_turned w1 rb.blk (.mapIter (some rq.blk) since #[e.2.2] clock)) ⟨h0, some rq.blk, ⟨rq, hmq, rfl⟩, by simp [hw1, hlt]⟩
  refine ⟨i, e, _, .tuple #[.bool true, es'[i].key, es'[i].val], h3, hs1.trans hs2, hr2, .tup (.cons (.bool _) (.cons hk (.cons hv .nil))), ?_⟩
  have hall : (!(#[] : Array Nat).isEmpty && !es'.isEmpty && es'.all fun e => decide (e.born ≥ last)) = false := by simp
  simp only [Instr.next, h0, Nat.add_zero, Sem.run_bind, hi0, Result.andThen_ok, Go.MapKept.run_getObj_map g1, hall, Bool.false_eq_true, if_false, hf, ho, hnw, hcand, Array.size_map, hch]
  have hget : (es'.map some)[i]? = some (some es'[i]) := by simp [hilt]
  simp only [hget, Sem.run_bind]
  have hset : (setObj rb.blk (.mapIter (some rq.blk) since (#[].push es'[i].born) clock)).run P w1 = .ok () { w1 with heap := w1.heap.setIfInBounds rb.blk (.mapIter (some rq.blk) since #[e.2.2] clock) } := by
    simp [setObj, Sem.run, h2', hb]
  rw [hset]
  rfl

theorem roundsIn_more {F : Fence} {n : Nat} {c : Code} {Q : Exit → Act → World → Prop} : ∀ {m m' : Nat} {a : Act} {w : World}, m ≤ m' → Code.roundsIn F n P c Q m a w → Code.roundsIn F n P c Q m' a w
  | 0, _, _, _, _, h => h.elim
  | m + 1, 0, _, _, hm, _ => absurd hm (by omega)
  | m + 1, m' + 1, a, w, hm, h => by
    rw [roundsIn_succ] at h ⊢
    refine wpIn_mono h fun e a w he => ?_
    cases e with
    | normal => exact roundsIn_more (by omega) he
    | _ => exact he

noncomputable def noApp : AV → List AV → H → (AV → H → Ans) → Ans := fun _ _ _ _ => .err 0 0 0
theorem noApp_ok : AppOK P noApp := fun _ _ _ _ h => by cases h

/-- **The loop, begun with either of two entries.** -/
theorem LoopOK.fork2 {fx : Fx} {id : Nat} {ops : Array Oper} {o : Oper} {l : List Oper} {it : Operand} {rest : Code} (hops : ops.toList = o :: l) (hop : o.op = .next it false) (hg : o.guard = none) {d : Nat} (hd : o.dst = some d) (hdn : d < fx.nt)
    {tm : Tm} {A : H} {p q : Pos} {since last clock b1 b2 : Nat} {x1 v1 x2 v2 : AV} (hit : ev tm it = some (.ptr p 0)) (hp : A.t.get p = some (.miter (some q) since [] last)) (hq : A.t.get q = some (.map [(x1, v1, b1), (x2, v2, b2)] clock)) (h1 : b1 < since) (h2 : b2 < since)
    {tm1 tm1'' tmF1 tm2 tm2'' tmF2 tmF : Tm} {A1 A1'' AF1 A2 A2'' AF2 AF : H} {e : AExit}
    (t1 : ∀ k : Tm → H → List Mk → Ans, execOps P fx noApp ops l 1 (tm.put (some (.tup [.bool true, x1, v1])) (.ofNat d)) (A.set p (some (.miter (some q) since [b1] clock))) [] k = k tm1 A1 [])
    (t2 : ∀ k : Tm → H → List Mk → Ans, execOps P fx noApp ops l 1 (tm.put (some (.tup [.bool true, x2, v2])) (.ofNat d)) (A.set p (some (.miter (some q) since [b2] clock))) [] k = k tm2 A2 [])
    (r1 : CodeOK P fx rest tm1 A1 [] .normal tm1'' A1'' []) (l1 : LoopOK P fx (.seq (.region id ops false) rest) tm1'' A1'' e tmF1 AF1)
    (r2 : CodeOK P fx rest tm2 A2 [] .normal tm2'' A2'' []) (l2 : LoopOK P fx (.seq (.region id ops false) rest) tm2'' A2'' e tmF2 AF2)
    {τ1 τ2 : Pos → Pos} (s1 : Sel τ1 A.next.idx AF AF1) (u1 : SubT τ1 tmF tmF1) (s2 : Sel τ2 A.next.idx AF AF2) (u2 : SubT τ2 tmF tmF2) :
    LoopOK P fx (.seq (.region id ops false) rest) tm A e tmF AF := by
  obtain ⟨j1, hj1⟩ := l1
  obtain ⟨j2, hj2⟩ := l2
  refine ⟨max j1 j2 + 1, fun ρ w a r hr htm hn hm hrr n Q hqq => ?_⟩
  have hno : ∀ c, o.op ≠ .defer c := by rw [hop]; intro c e; cases e
  rw [roundsIn_succ]
  refine wpIn_seq (wpIn_region ?_)
  have hsz : ops.size = l.length + 1 := by rw [← Array.length_toList, hops]; rfl
  have hj : ops[0]? = some o := by rw [← Array.getElem?_toList, hops]; rfl
  rw [List.range_eq_range', hsz, List.range'_succ]
  simp only [wpOpsIn, hj]
  have hw : Region.wanted o (yielded ops a.tmps) = true := by simp [Region.wanted, hg]
  rw [if_pos hw]
  have hc := VR.ev htm hit
  generalize hv : a.eval it = xv at hc
  cases hc
  rename_i rb hm1
  obtain ⟨i, en, w1, v', hen, hs1, hr1, hv1, hrun⟩ := nextM_fork (P := P) hr hp hm1 hq (by simp) (by
    intro e he
    rcases List.mem_cons.1 he with rfl | he
    · exact h1
    · rcases List.mem_cons.1 he with rfl | he
      · exact h2
      · cases he) o.type
  have hrun' : (execOp a.eval o).run P w = .ok (.value v') w1 := by simp only [execOp, hop, hv, Sem.run_bind, hrun, Result.andThen_ok, Sem.run_pure]
  refine OpOK.value (P := P) (A := A) hno hs1 hr1 hv1 hrun' r n _ _ fun ρ1 w2 v2' hs2 hr2 hv2 => ?_
  have hput : TmRel ρ1 (tm.put (some (.tup [.bool true, en.1, en.2.1])) (.ofNat d)) (a.put o.dst v2').tmps := by
    have := TmRel.put (a := a) (dst := o.dst) (htm.mono hs2.le) hv2 (fun d' e => by rw [hd] at e; cases e; exact Nat.lt_of_lt_of_le hdn hn)
    rw [hd] at this ⊢
    exact this
  have hl0 : ops.toList.drop 1 = l := by rw [hops]; rfl
  have fin : ∀ {tmI tmI'' tmFI : Tm} {AI AI'' AFI : H} {τ : Pos → Pos} {jI : Nat}, jI ≤ max j1 j2 →
      (∀ k : Tm → H → List Mk → Ans, execOps P fx noApp ops l 1 (tm.put (some (.tup [.bool true, en.1, en.2.1])) (.ofNat d)) (A.set p (some (.miter (some q) since [en.2.2] clock))) [] k = k tmI AI []) →
      CodeOK P fx rest tmI AI [] .normal tmI'' AI'' [] →
      (∀ (ρ : RM) (w : World) (a : Act) (r : Option Nat), Rel ρ AI'' w → TmRel ρ tmI'' a.tmps → fx.nt ≤ a.tmps.size → MkRel ρ [] a.defers → RndRel ρ fx.rnd r → ∀ (n : Nat) (Q : Exit → Act → World → Prop), Post ρ AI'' w a tmFI AFI [] (Q e.conv) → Code.roundsIn (FW r) n P (.seq (.region id ops false) rest) Q jI a w) →
      Sel τ A.next.idx AF AFI → SubT τ tmF tmFI →
      wpOpsIn (FW r) n P ops (Exit.then (rest.wpIn (FW r) n P (Exit.then (Code.roundsIn (FW r) n P (.seq (.region id ops false) rest) Q (max j1 j2)) Q)) (Exit.then (Code.roundsIn (FW r) n P (.seq (.region id ops false) rest) Q (max j1 j2)) Q)) (List.range' 1 l.length) (a.put o.dst v2') w2 := by
    intro tmI tmI'' tmFI AI AI'' AFI τ jI hjI ht hrI hLI hsI huI
    obtain ⟨tmT, AT, mT, hk, hrest⟩ := execOps_sound (P := P) (fx := fx) (app := noApp) noApp_ok l 1 1 _ _ [] (fun t' A' m' => @ite _ (t' = tmI ∧ A' = AI ∧ m' = []) (Classical.propDecidable _) .ok (.err 0 0 0)) hl0 (by rw [ht]; simp)
    split at hk
    · rename_i hcc
      obtain ⟨rfl, rfl, rfl⟩ := hcc
      refine hrest ρ1 w2 _ r hr2 hput (by rw [put_size]; exact hn) (by rw [put_defers]; exact hm.mono hs2.le) (hrr.mono hs2.le) n _ fun ρ3 w3 a3 hs3 hr3 ht3 hsz3 hm3 => ?_
      refine hrI ρ3 w3 a3 r hr3 ht3 (by rw [hsz3, put_size]; exact hn) hm3 ((hrr.mono hs2.le).mono hs3.le) n _ fun ρ5 w5 a5 hs5 hr5 ht5 hsz5 hm5 => ?_
      refine roundsIn_more hjI ?_
      refine hLI ρ5 w5 a5 r hr5 ht5 (by rw [hsz5, hsz3, put_size]; exact hn) hm5 (((hrr.mono hs2.le).mono hs3.le).mono hs5.le) n Q fun ρ6 w6 a6 hs6 hr6 ht6 hsz6 hm6 => ?_
      have hall := (((hs2.trans hs3).trans hs5).trans hs6)
      exact hqq _ w6 a6 (hsI.stp hr hall) (hsI.rel hr6) (ht6.sub huI) (by rw [hsz6, hsz5, hsz3, put_size]) (by rw [hm6.nil_of]; exact .nil)
    · cases hk
  have hi : i = 0 ∨ i = 1 := by
    have := (List.getElem?_eq_some_iff.1 hen).1
    simp at this; omega
  rcases hi with rfl | rfl
  · simp at hen; subst hen
    exact fin (Nat.le_max_left _ _) t1 r1 hj1 s1 u1
  · simp at hen; subst hen
    exact fin (Nat.le_max_right _ _) t2 r2 hj2 s2 u2

/-! ### What is known of a call at one state, asked for by looking -/
mutual
noncomputable def AV.eqb : AV → AV → Bool
  | .bool a, .bool b => Bool.rec (Bool.rec true false b) b a
  | .int k n, .int k' n' => decide (k = k') && decide (n = n')
  | .nilp, .nilp => true
  | .nils, .nils => true
  | .nilm, .nilm => true
  | .ptr p a, .ptr q b => Nat.beq p.idx q.idx && Nat.beq a b
  | .slice p a b c s, .slice p' a' b' c' s' => Nat.beq p.idx p'.idx && (Nat.beq a a' && (Nat.beq b b' && (Nat.beq c c' && Bool.rec (Bool.rec true false s') s' s)))
  | .map p, .map q => Nat.beq p.idx q.idx
  | .agg l, .agg l' => AV.eqbs l l'
  | _, _ => false
noncomputable def AV.eqbs : List AV → List AV → Bool
  | [], [] => true
  | a :: l, b :: l' => AV.eqb a b && AV.eqbs l l'
  | _, _ => false
end
theorem beq_idx {p q : Pos} (h : Nat.beq p.idx q.idx = true) : p = q := Pos.idx_inj (Nat.eq_of_beq_eq_true h)
theorem bool_rec {a b : Bool} (h : (Bool.rec (Bool.rec true false b) b a : Bool) = true) : a = b := by cases a <;> cases b <;> first | rfl | cases h
mutual
theorem AV.eqb_sound : ∀ {a b : AV}, AV.eqb a b = true → a = b
  | .bool a, b, h => by
    cases b <;> first | (simp [AV.eqb] at h; done) | skip
    rename_i b
    rw [bool_rec (show (Bool.rec (Bool.rec true false b) b a : Bool) = true from h)]
  | .int k n, b, h => by
    cases b <;> first | (simp [AV.eqb] at h; done) | skip
    simp only [AV.eqb, Bool.and_eq_true, decide_eq_true_eq] at h
    rw [h.1, h.2]
  | .nilp, b, h => by cases b <;> first | rfl | (simp [AV.eqb] at h; done)
  | .nils, b, h => by cases b <;> first | rfl | (simp [AV.eqb] at h; done)
  | .nilm, b, h => by cases b <;> first | rfl | (simp [AV.eqb] at h; done)
  | .ptr p o, b, h => by
    cases b <;> first | (simp [AV.eqb] at h; done) | skip
    simp only [AV.eqb, Bool.and_eq_true] at h
    rw [beq_idx h.1, Nat.eq_of_beq_eq_true h.2]
  | .slice p a c d s, b, h => by
    cases b <;> first | (simp [AV.eqb] at h; done) | skip
    rename_i p' a' c' d' s'
    have h' : (Nat.beq p.idx p'.idx && (Nat.beq a a' && (Nat.beq c c' && (Nat.beq d d' && (Bool.rec (Bool.rec true false s') s' s : Bool))))) = true := h
    simp only [Bool.and_eq_true] at h'
    obtain ⟨h1, h2, h3, h4, h5⟩ := h'
    rw [beq_idx h1, Nat.eq_of_beq_eq_true h2, Nat.eq_of_beq_eq_true h3, Nat.eq_of_beq_eq_true h4, bool_rec h5]
  | .map p, b, h => by
    cases b <;> first | (simp [AV.eqb] at h; done) | skip
    rw [beq_idx h]
  | .agg l, b, h => by
    cases b <;> first | (simp [AV.eqb] at h; done) | skip
    rw [AV.eqbs_sound h]
  | .str _, b, h => by cases b <;> simp [AV.eqb] at h
  | .nilf, b, h => by cases b <;> simp [AV.eqb] at h
  | .func _ _ _, b, h => by cases b <;> simp [AV.eqb] at h
  | .yield _, b, h => by cases b <;> simp [AV.eqb] at h
  | .nili, b, h => by cases b <;> simp [AV.eqb] at h
  | .iface _ _, b, h => by cases b <;> simp [AV.eqb] at h
  | .tup _, b, h => by cases b <;> simp [AV.eqb] at h
  | .opq _, b, h => by cases b <;> simp [AV.eqb] at h
  | .gptr _ _, b, h => by cases b <;> simp [AV.eqb] at h
  | .ge _, b, h => by cases b <;> simp [AV.eqb] at h
  | .rng _ _, b, h => by cases b <;> simp [AV.eqb] at h
  | .osl _ _, b, h => by cases b <;> simp [AV.eqb] at h
  | .any, b, h => by cases b <;> simp [AV.eqb] at h
theorem AV.eqbs_sound : ∀ {a b : List AV}, AV.eqbs a b = true → a = b
  | [], [], _ => rfl
  | [], _ :: _, h => by simp [AV.eqbs] at h
  | _ :: _, [], h => by simp [AV.eqbs] at h
  | x :: l, y :: l', h => by
    simp only [AV.eqbs, Bool.and_eq_true] at h
    rw [AV.eqb_sound h.1, AV.eqbs_sound h.2]
end
noncomputable def entEqb : List (AV × AV × Nat) → List (AV × AV × Nat) → Bool
  | [], [] => true
  | x :: l, y :: l' => AV.eqb x.1 y.1 && (AV.eqb x.2.1 y.2.1 && (Nat.beq x.2.2 y.2.2 && entEqb l l'))
  | _, _ => false
theorem entEqb_sound : ∀ {a b : List (AV × AV × Nat)}, entEqb a b = true → a = b
  | [], [], _ => rfl
  | [], _ :: _, h => by simp [entEqb] at h
  | _ :: _, [], h => by simp [entEqb] at h
  | (a, b, c) :: l, (a', b', c') :: l', h => by
    simp only [entEqb, Bool.and_eq_true] at h
    obtain ⟨h1, h2, h3, h4⟩ := h
    rw [AV.eqb_sound h1, AV.eqb_sound h2, Nat.eq_of_beq_eq_true h3, entEqb_sound h4]
noncomputable def HObj.eqb : Option HObj → HObj → Bool
  | some (.cells c esz ro), .cells c' esz' ro' => Nat.beq esz esz' && ((Bool.rec (Bool.rec true false ro') ro' ro : Bool) && AV.eqbs c c')
  | some (.map es clock), .map es' clock' => Nat.beq clock clock' && entEqb es es'
  | _, _ => false
theorem HObj.eqb_sound {a : Option HObj} {b : HObj} (h : HObj.eqb a b = true) : a = some b := by
  cases a with
  | none => cases b <;> simp [HObj.eqb] at h
  | some a =>
    cases a with
    | cells c esz ro =>
      cases b with
      | cells c' esz' ro' =>
        have h' : (Nat.beq esz esz' && ((Bool.rec (Bool.rec true false ro') ro' ro : Bool) && AV.eqbs c c')) = true := h
        simp only [Bool.and_eq_true] at h'
        obtain ⟨h1, h2, h3⟩ := h'
        rw [Nat.eq_of_beq_eq_true h1, bool_rec h2, AV.eqbs_sound h3]
      | _ => simp [HObj.eqb] at h
    | map es clock =>
      cases b with
      | map es' clock' =>
        simp only [HObj.eqb, Bool.and_eq_true] at h
        rw [Nat.eq_of_beq_eq_true h.1, entEqb_sound h.2]
      | _ => simp [HObj.eqb] at h
    | _ => cases b <;> simp [HObj.eqb] at h
noncomputable def atB (t : PT HObj) : List (Nat × HObj) → Bool
  | [] => true
  | x :: l => HObj.eqb (t.get (.ofNat x.1)) x.2 && atB t l
theorem atB_sound {t : PT HObj} : ∀ {l : List (Nat × HObj)}, atB t l = true → At t l
  | [], _ => trivial
  | x :: l, h => by
    simp only [atB, Bool.and_eq_true] at h
    exact ⟨HObj.eqb_sound h.1, atB_sound h.2⟩
noncomputable def orcLocB (args : List AV) (N : Nat) (pre : List (Nat × HObj)) (v : AV) (post : List (Nat × Option HObj)) (news : HL) : Orc := fun args2 A k els =>
  boolK (Nat.beq A.next.idx N) (boolK (AV.eqbs args2 args && atB A.t pre) (A.updK post news fun A => k v A) els) els
theorem LocFun.goodB {g : FuncId} {args : List AV} {N : Nat} {pre : List (Nat × HObj)} {v : AV} {post : List (Nat × Option HObj)} {news : HL} (h : LocFun P g args N pre v post news) : Good P g (orcLocB args N pre v post news) := by
  intro args2 A k els hk
  unfold orcLocB at hk
  cases h1 : Nat.beq A.next.idx N with
  | false => rw [h1] at hk; exact .inl hk
  | true =>
    rw [h1] at hk
    cases h2 : (AV.eqbs args2 args && atB A.t pre) with
    | false => rw [h2] at hk; exact .inl hk
    | true =>
      rw [h2] at hk
      have hk' : (A.updK post news fun A => k v A) = .ok := hk
      simp only [Bool.and_eq_true] at h2
      have hN : A.next = .ofNat N := Pos.idx_inj (by rw [Pos.idx_ofNat]; exact Nat.eq_of_beq_eq_true h1)
      rw [H.updK_eq hN] at hk'
      rw [AV.eqbs_sound h2.1]
      exact .inr ⟨v, _, hk', fun ρ w args' hr ha => h.ok A hN (atB_sound h2.2) ρ w args' hr ha⟩

/-- A loop's rounds, from a run. -/
theorem LoopOK.of_runH (hmix : P.follows .mixedOrders = true) {O : PT Orc} (hO : OrOK P O) {hs : List Hole} (hh : HolesOK P hs) {N : Nat} {fx : Fx} {b : Code} {tm : Tm} {A : H} {e : AExit} {tm' : Tm} {A' : H}
    (h : ∀ k : Kont, execH P O hs N fx (.loop b) tm A [] k = k e tm' A' []) : LoopOK P fx b tm A e tm' A' := by
  obtain ⟨e1, t1, A1, m1, j, hk, hg⟩ := execH_sound hmix hO hh N fx (.loop b) tm A [] (fun e1 t1 A1 m1 => @ite _ (e1 = e ∧ t1 = tm' ∧ A1 = A' ∧ m1 = []) (Classical.propDecidable _) .ok (.err 0 0 0)) (by rw [h]; simp)
  split at hk
  · rename_i hc
    obtain ⟨rfl, rfl, rfl, rfl⟩ := hc
    exact ⟨j, fun ρ w a r hr ht hn hm hrr n Q hq => (hg ρ w a r hr ht hn hm hrr n Q hq).2 b rfl⟩
  · cases hk

end Go.AM
