/-
  THE MACHINE 'AM': a region that draws its order: the simulation.
-/
import Derived.Test.YtcjilddpkekcgaaAmDraw
namespace Go.AM
variable {P : Program} {ops : Array Oper}

theorem OrdP.notin : ∀ {l : List ROp} {D E : Nat → Prop}, OrdP ops l D E → ∀ x ∈ l, ¬ D x.i ∧ x.i < ops.size
  | _, _, _, .nil _, x, hx => by cases hx
  | _, _, _, .cons h1 h2 _ _ h5, x, hx => by
    rcases List.mem_cons.1 hx with rfl | hx
    · exact ⟨h2, h1⟩
    · exact ⟨fun hD => (h5.notin x hx).1 (.inr hD), (h5.notin x hx).2⟩
theorem OrdP.behind : ∀ {l : List ROp} {D E : Nat → Prop}, OrdP ops l D E → ∀ z, E z → ∀ x ∈ l, Nat.testBit x.anc z = true
  | _, _, _, .nil _, z, _, x, hx => by cases hx
  | _, _, _, .cons _ _ _ h4 h5, z, hz, x, hx => by
    rcases List.mem_cons.1 hx with rfl | hx
    · exact h4 z hz
    · exact h5.behind z (.inr hz) x hx

theorem pos_inj {p : Pos} : ∀ {av : List Ent}, (av.filterMap Ent.pos).Nodup → ∀ e ∈ av, ∀ f ∈ av, e.pos = some p → f.pos = some p → e = f
  | [], _, e, he, _, _, _, _ => by cases he
  | x :: l, hn, e, he, f, hf, hep, hfp => by
    have hl : (l.filterMap Ent.pos).Nodup := by
      cases hx : x.pos with
      | none => simpa [List.filterMap_cons, hx] using hn
      | some q => simp only [List.filterMap_cons, hx, List.nodup_cons] at hn; exact hn.2
    have hx : ∀ g ∈ l, x.pos = some p → g.pos = some p → False := by
      intro g hg hxp hgp
      simp only [List.filterMap_cons, hxp, List.nodup_cons] at hn
      exact hn.1 (List.mem_filterMap.2 ⟨g, hg, hgp⟩)
    rcases List.mem_cons.1 he with he' | he' <;> rcases List.mem_cons.1 hf with hf' | hf'
    · rw [he', hf']
    · exact (hx f hf' (he' ▸ hep) hfp).elim
    · exact (hx e he' (hf' ▸ hfp) hep).elim
    · exact pos_inj hl e he' f hf' hep hfp

theorem length_le_of_nodup : ∀ (n : Nat) (l : List Nat), l.Nodup → (∀ i ∈ l, i < n) → l.length ≤ n
  | 0, [], _, _ => Nat.le_refl _
  | 0, x :: _, _, h => absurd (h x (by simp)) (Nat.not_lt_zero _)
  | n + 1, l, hn, h => by
    have h1 := length_le_of_nodup n (l.erase n) (hn.erase n) (fun i hi => by
      have h2 := h i (List.mem_of_mem_erase hi)
      have h3 : i ≠ n := fun e => by subst e; exact (List.Nodup.not_mem_erase hn) hi
      omega)
    have h4 : l.length ≤ (l.erase n).length + 1 := by
      rw [List.length_erase]
      split <;> omega
    omega

variable {ord : List ROp} {nt : Nat} {tm0 tmF : Tm} {AF : H} {ρ0 : RM} {A0 : H} {w0 : World} {a0 : Act}

/-- **An operation that the machine has run ahead is carried out.** -/
theorem Sim.take {listed : Array Bool} {a : Act} {w : World} {rest : List ROp} {q : List PP} {tm : Tm} {A : H} {done : List (Nat × AV)} {av : List Ent} {E : Nat → Prop} {ρ : RM} (hL : Look P ops ord)
    (h : Sim P ops ord nt tm0 tmF AF ρ0 A0 w0 a0 listed a w rest q tm A done av E ρ) (hn : nt ≤ a0.tmps.size) {e : Ent} (he : e ∈ av) (_hun : listed.getD e.x.i true = false)
    (hed : ∀ o d, ops[e.x.i]? = some o → d ∈ o.after → Region.binds .any d = true → isListed listed d.on)
    {ρ' : RM} {w' : World} {v' : Value} (hle : ρ.le ρ') (hs : Stp ρ0 A0 w0 ρ' A w') (hr : Rel ρ' A w') (hv : VR ρ' e.v v') (hno : ∀ f ∈ av, f.x.i ≠ e.x.i → ∀ p, f.pos = some p → ρ'.m p = none) :
    Sim P ops ord nt tm0 tmF AF ρ0 A0 w0 a0 (listed.setIfInBounds e.x.i true) (a.put e.x.o.dst v') w' rest q tm A done (av.filter fun f => f.x.i != e.x.i) E ρ' := by
  have hE := h.base.avp e he
  have hxf := (hL.fact _ hE.mem).op
  have hi : e.x.i < ops.size := (Array.getElem?_eq_some_iff.1 hxf).1
  have hil : e.x.i < listed.size := by rw [h.size]; exact hi
  refine ⟨h.halt, ⟨h.base.mem, h.base.ordp, h.base.closed, h.base.ct, fun f hf => h.base.avp f (List.mem_filter.1 hf).1, ?_, fun f hf => h.base.pos f (List.mem_filter.1 hf).1, ?_, h.base.uniq⟩, by simp [h.size], fun j hj => ?_, ?_, hr, hs, fun f hf p hp => ?_, ?_, by rw [put_size, h.tsize], by rw [put_defers, h.defers]⟩
  · exact h.base.nodup.sublist ((List.filter_sublist).map _)
  · exact h.base.posNodup.sublist ((List.filter_sublist).filterMap _)
  · by_cases hje : j = e.x.i
    · subst hje
      rw [getD_set_self' _ _ hil]
      refine ⟨fun h => (by cases h), fun hm => ?_⟩
      rcases hm with hm | hm
      · obtain ⟨x, hx, hxi⟩ := List.mem_map.1 hm
        exact absurd ⟨e.v, by rw [hxi]; exact hE.isIn⟩ (h.base.ordp.notin x hx).1
      · obtain ⟨f, hf, hfi⟩ := List.mem_map.1 hm
        have := (List.mem_filter.1 hf).2
        simp [hfi] at this
    · rw [getD_set_other _ _ _ (Ne.symm hje), h.list j hj]
      refine or_congr Iff.rfl ⟨fun hm => ?_, fun hm => ?_⟩
      · obtain ⟨f, hf, hfi⟩ := List.mem_map.1 hm
        exact List.mem_map.2 ⟨f, List.mem_filter.2 ⟨hf, by simp [hfi, hje]⟩, hfi⟩
      · obtain ⟨f, hf, hfi⟩ := List.mem_map.1 hm
        exact List.mem_map.2 ⟨f, (List.mem_filter.1 hf).1, hfi⟩
  · intro y o d hy ho hd hb
    rw [isListed_set hil] at hy ⊢
    rcases hy with rfl | hy
    · exact .inr (hed o d ho hd hb)
    · exact .inr (h.closed y o d hy ho hd hb)
  · obtain ⟨hf1, hf2⟩ := List.mem_filter.1 hf
    exact ⟨hno f hf1 (by simpa using hf2) p hp, (h.nonep f hf1 p hp).2⟩
  · exact tmps_put hle hxf hL.one hil hE.isIn (fun u hu' => h.base.uniq _ _ _ hu' hE.isIn) hv hE.dst (by rw [h.tsize]; exact hn) h.tmps

theorem sim_sound (hL : Look P ops ord) (hn : nt ≤ a0.tmps.size) {r : Option Nat} {n : Nat} {Q : Exit → Act → World → Prop}
    (hQ : ∀ ρ' w' a', Stp ρ0 A0 w0 ρ' AF w' → Rel ρ' AF w' → TmRel ρ' tmF a'.tmps → a'.tmps.size = a0.tmps.size → a'.defers = a0.defers → Q .normal a' w') :
    ∀ (fuel : Nat) (listed : Array Bool) (a : Act) (w : World) (rest : List ROp) (q : List PP) (tm : Tm) (A : H) (done : List (Nat × AV)) (av : List Ent) (E : Nat → Prop) (ρ : RM),
      Sim P ops ord nt tm0 tmF AF ρ0 A0 w0 a0 listed a w rest q tm A done av E ρ → rest.length + av.length ≤ fuel → wpAnyIn (FW r) n P .any ops Q fuel listed a w := by
  -- at the end
  have fin : ∀ (listed : Array Bool) (a : Act) (w : World) (rest : List ROp) (q : List PP) (tm : Tm) (A : H) (done : List (Nat × AV)) (av : List Ent) (E : Nat → Prop) (ρ : RM),
      Sim P ops ord nt tm0 tmF AF ρ0 A0 w0 a0 listed a w rest q tm A done av E ρ → (∀ i, i < ops.size → isListed listed i) → Q .normal a w := by
    intro listed a w rest q tm A done av E ρ h hall
    have hrest : rest = [] := by
      cases hre : rest with
      | nil => rfl
      | cons x l =>
        have hx := h.base.ordp.notin x (by rw [hre]; simp)
        have := (h.list x.i hx.2).2 (.inl (by rw [hre]; simp))
        have h2 := hall x.i hx.2
        unfold isListed at h2; rw [this] at h2; cases h2
    rcases h.halt.how with ⟨_, rfl, rfl⟩ | ⟨x, l, v, A1, e, _⟩
    · refine hQ ρ w a h.stp h.rel (fun p v hp => ?_) h.tsize h.defers
      have hpe : p = Pos.ofNat p.idx := Pos.idx_inj (by rw [Pos.idx_ofNat])
      rw [hpe] at hp
      have hct := h.base.ct p.idx
      have htm := h.tmps p.idx
      by_cases hw : ∃ j, Writes ops j p.idx
      · obtain ⟨j, hj⟩ := hw
        have hjl := writes_lt hj
        have hord := h.base.ordp
        rw [hrest] at hord
        cases hord with
        | nil hD =>
          obtain ⟨u, hu⟩ := hD j hjl
          have := hct.1 j u hu hj
          rw [this] at hp; cases hp
          exact htm.1 j _ hu hj (hall j hjl)
      · have hw' : ∀ j, ¬ Writes ops j p.idx := fun j hj => hw ⟨j, hj⟩
        have := hct.2 fun j hj => absurd hj (hw' j)
        rw [this] at hp
        exact htm.2 (fun j hj => absurd hj (hw' j)) v hp
    · rw [hrest] at e; cases e
  -- nothing is ready: all is listed
  have allDone : ∀ (listed : Array Bool) (a : Act) (w : World) (rest : List ROp) (q : List PP) (tm : Tm) (A : H) (done : List (Nat × AV)) (av : List Ent) (E : Nat → Prop) (ρ : RM),
      Sim P ops ord nt tm0 tmF AF ρ0 A0 w0 a0 listed a w rest q tm A done av E ρ → Region.ready .any ops listed = [] → ∀ i, i < ops.size → isListed listed i := by
    intro listed a w rest q tm A done av E ρ h hre i
    induction i using Nat.strongRecOn with
    | _ i ih =>
      intro hi
      cases hl : listed.getD i true with
      | true => exact hl
      | false =>
        exfalso
        have hx : ∃ x ∈ ord, x.i = i := by
          rcases (h.list i hi).1 hl with hm | hm
          · obtain ⟨x, hx, hxi⟩ := List.mem_map.1 hm; exact ⟨x, h.base.mem x hx, hxi⟩
          · obtain ⟨f, hf, hfi⟩ := List.mem_map.1 hm; exact ⟨f.x, (h.base.avp f hf).mem, hfi⟩
        obtain ⟨x, hxo, rfl⟩ := hx
        have hxf := (hL.fact x hxo).op
        have : x.i ∈ Region.ready .any ops listed := mem_ready.2 ⟨hl, x.o, hxf, fun d hd hb => by
          have hlt := hL.back x hxo d hd hb
          have := ih d.on hlt (by omega)
          unfold isListed at this
          have hs : d.on < listed.size := by rw [h.size]; omega
          simpa [Array.getD_eq_getD_getElem?, hs] using this⟩
        rw [hre] at this; cases this
  intro fuel
  induction fuel with
  | zero =>
    intro listed a w rest q tm A done av E ρ h hf
    have hrest : rest = [] := List.eq_nil_of_length_eq_zero (by omega)
    have hav : av = [] := List.eq_nil_of_length_eq_zero (by omega)
    have hall : ∀ i, i < ops.size → isListed listed i := by
      intro i hi
      cases hl : listed.getD i true with
      | true => exact hl
      | false => have := (h.list i hi).1 hl; simp [hrest, hav] at this
    refine ⟨?_, fin _ _ _ _ _ _ _ _ _ _ _ h hall⟩
    rw [List.eq_nil_iff_forall_not_mem]
    intro i hi
    obtain ⟨h1, o, h2, _⟩ := mem_ready.1 hi
    have := hall i (Array.getElem?_eq_some_iff.1 h2).1
    unfold isListed at this; rw [h1] at this; cases this
  | succ fuel ih =>
    intro listed a w rest q tm A done av E ρ h hf
    refine ⟨fun hre => fin _ _ _ _ _ _ _ _ _ _ _ h (allDone _ _ _ _ _ _ _ _ _ _ _ h hre), fun i hi => ?_⟩
    obtain ⟨hun, o, ho, hedge⟩ := mem_ready.1 hi
    have hilt : i < ops.size := (Array.getElem?_eq_some_iff.1 ho).1
    have hed : ∀ o' d, ops[i]? = some o' → d ∈ o'.after → Region.binds .any d = true → isListed listed d.on := by
      intro o' d ho' hd hb
      rw [ho] at ho'; cases ho'
      have := hedge d hd hb
      unfold isListed
      cases hs : listed[d.on]? with
      | none => simp [Array.getD_eq_getD_getElem?, hs] at this
      | some b => simpa [Array.getD_eq_getD_getElem?, hs] using this
    have hready : ∀ y, Anc ops y i → isListed listed y := fun y hy => hy.mem h.closed fun o' d a b c => hed o' d a b c
    have hunl : ¬ isListed listed i := by unfold isListed; rw [hun]; simp
    rcases (h.list i hilt).1 hun with hm | hm
    · -- the next effect
      obtain ⟨x, hx, rfl⟩ := List.mem_map.1 hm
      rcases h.halt.how with ⟨e, _⟩ | ⟨x0, l, v, A1, e, hw, hc, hg, hd, ht⟩
      · rw [e] at hx; cases hx
      · subst e
        have hord := h.base.ordp
        have hx0 : x = x0 ∨ x.i = x0.i := by
          rcases List.mem_cons.1 hx with e | hxl
          · exact .inl e
          · cases hord with
            | cons h1 h2 h3 h4 h5 =>
              have hb := h5.behind x0.i (.inl ⟨rfl, hc⟩) x hxl
              have := hready x0.i ((hL.fact x (h.base.mem x (by simp [hxl]))).anc _ hb)
              have h0 := (h.list x0.i h1).2 (.inl (by simp))
              unfold isListed at this; rw [h0] at this; cases this
        have hxi : x.i = x0.i := hx0.elim (fun e => by rw [e]) id
        rw [hxi] at hun ho hilt hed hready hunl ⊢
        have hx0o := h.base.mem x0 (by simp)
        have hxf := (hL.fact x0 hx0o).op
        rw [ho] at hxf; cases hxf
        cases hord with
        | cons h1 h2 h3 h4 h5 =>
          have hreads := ready_reads hL hx0o h.base.ct (fun _ h => h) h.base.closed (fun y hy => hy.mem h.base.closed fun o' d a b c => by rw [ho] at a; cases a; exact h3 d b c) (fun u hu => h2 ⟨u, hu⟩) h.closed hready hunl h.tmps
          unfold wpOpIn
          rw [ho]
          simp only
          rw [if_pos (guard_of_reads hreads hw)]
          refine hg ρ w x0.o a rfl h.rel (opd_of_reads hreads) r n _ Q fun ρ' w' v' hs' hr' hv' => ?_
          have hil : x0.i < listed.size := by rw [h.size]; exact hilt
          have hB : Base P ops ord nt tm0 l (dropP x0.anc q) (Tm.put' tm x0.o.dst v) A1 ((x0.i, v) :: done) av (fun i => (i = x0.i ∧ x0.cls = 3) ∨ E i) := by
            refine ⟨fun y hy => h.base.mem y (by simp [hy]), h5.congr (fun i => ?_) (fun _ => Iff.rfl), ?_, h.base.ct.put ho hL.one (fun u hu => h2 ⟨u, hu⟩) _, fun f hf => ?_, h.base.nodup, fun f hf p hp => Nat.lt_of_lt_of_le (h.base.pos f hf p hp) hs'.next, h.base.posNodup, uniq_cons h.base.uniq (fun u hu => h2 ⟨u, hu⟩) v⟩
            · simp only [List.mem_cons, Prod.mk.injEq]
              exact ⟨fun h => h.elim (fun e => ⟨_, .inl ⟨e, rfl⟩⟩) (fun ⟨v, hv⟩ => ⟨v, .inr hv⟩), fun ⟨v, h⟩ => h.elim (fun e => .inl e.1) (fun hv => .inr ⟨v, hv⟩)⟩
            · have := h.base.closed.add ho h3
              intro y o' e' hy ho' hm' hb
              have := this y o' e' (by
                obtain ⟨v, hv⟩ := hy
                rcases List.mem_cons.1 hv with h | h
                · exact .inl (by cases h; rfl)
                · exact .inr ⟨v, h⟩) ho' hm' hb
              rcases this with h | ⟨v, h⟩
              · exact ⟨_, by rw [h]; exact List.mem_cons_self ..⟩
              · exact ⟨v, List.mem_cons_of_mem _ h⟩
            · refine (h.base.avp f hf).more (fun p hp hpi => dropP_mem hp ?_) (fun p hp => List.mem_cons_of_mem _ hp)
              cases hb : Nat.testBit x0.anc p.i with
              | false => rfl
              | true =>
                rw [hpi] at hb
                have := hready f.x.i ((hL.fact x0 hx0o).anc _ hb)
                have hflt : f.x.i < ops.size := (Array.getElem?_eq_some_iff.1 (hL.fact _ (h.base.avp f hf).mem).op).1
                have h0 := (h.list f.x.i hflt).2 (.inr (List.mem_map.2 ⟨f, hf, rfl⟩))
                unfold isListed at this; rw [h0] at this; cases this
          obtain ⟨rest', q', tm', A', done', av', E', g1, g2, g3, g4, g5, g6, g7, g8⟩ := advance hL ht hB
          obtain ⟨hr2, hs2⟩ := g8 ρ' w' hr'
          refine ih _ _ _ rest' q' tm' A' done' av' E' ρ' ⟨g1, g2, by simp [h.size], fun j hj => ?_, ?_, hr2, (h.stp.trans hs').trans hs2, fun f hf p hp => ?_, ?_, by rw [put_size, h.tsize], by rw [put_defers, h.defers]⟩ (by simp only [List.length_cons] at hf; omega)
          · rw [g4]
            by_cases hje : j = x0.i
            · subst hje
              rw [getD_set_self' _ _ hil]
              refine ⟨fun h => (by cases h), fun hm' => ?_⟩
              rcases hm' with hm' | hm'
              · obtain ⟨y, hy, hyi⟩ := List.mem_map.1 hm'
                exact absurd (.inl hyi) (h5.notin y hy).1
              · obtain ⟨f, hf', hfi⟩ := List.mem_map.1 hm'
                exact absurd ⟨f.v, by rw [← hfi]; exact (h.base.avp f hf').isIn⟩ h2
            · rw [getD_set_other _ _ _ (Ne.symm hje), h.list j hj]
              simp only [List.map_cons, List.mem_cons]
              exact ⟨fun hm' => hm'.elim (fun hm' => hm'.elim (fun e => absurd e hje) .inl) .inr, fun hm' => hm'.elim (fun hm' => .inl (.inr hm')) .inr⟩
          · intro y o' d hy ho' hd' hb
            rw [isListed_set hil] at hy ⊢
            rcases hy with rfl | hy
            · exact .inr (hed o' d ho' hd' hb)
            · exact .inr (h.closed y o' d hy ho' hd' hb)
          · rcases g7 f hf with hf' | hf'
            · obtain ⟨n1, n2⟩ := h.nonep f hf' p hp
              refine ⟨?_, n2⟩
              cases e : ρ'.m p with
              | none => rfl
              | some rb => have := hs'.fresh p rb e (h.base.pos f hf' p hp); rw [n1] at this; cases this
            · have h8 := hf' p hp
              refine ⟨?_, ?_⟩
              · cases e : ρ'.m p with
                | none => rfl
                | some rb => have := (hr'.dom p rb e).1; omega
              · have := h.stp.next; have := hs'.next; omega
          · -- the temporaries
            have h9 := tmps_put (done := (x0.i, v) :: done) (tm0 := tm0) (listed := listed) hs'.le ho hL.one hil (List.mem_cons_self ..) (fun u hu' => by
                rcases List.mem_cons.1 hu' with e | e
                · cases e; rfl
                · exact absurd ⟨u, e⟩ h2) hv' hd (by rw [h.tsize]; exact hn) (fun t => ⟨fun j u hj hwj hlj => by
                rcases List.mem_cons.1 hj with e | e
                · cases e; exact absurd hlj hunl
                · exact (h.tmps t).1 j u e hwj hlj, (h.tmps t).2⟩)
            intro t
            refine ⟨fun j u hj hwj hlj => ?_, (h9 t).2⟩
            rcases g6 j u hj with hj' | hj'
            · exact (h9 t).1 j u hj' hwj hlj
            · exfalso
              obtain ⟨y, hy, rfl⟩ := List.mem_map.1 hj'
              have hyl := (h5.notin y hy)
              rcases (isListed_set hil).1 hlj with e | e
              · exact hyl.1 (.inl e)
              · have h0 := (h.list y.i hyl.2).2 (.inl (by simp only [List.map_cons, List.mem_cons]; exact .inr hj'))
                unfold isListed at e; rw [h0] at e; cases e
    · -- one that the machine has run ahead
      obtain ⟨e, he, rfl⟩ := List.mem_map.1 hm
      have hE := h.base.avp e he
      have hxf := (hL.fact _ hE.mem).op
      rw [ho] at hxf; cases hxf
      have hreads := ready_reads hL hE.mem hE.ct hE.sub hE.closed (fun y hy => hy.mem hE.closed fun o' d a b c => by rw [ho] at a; cases a; exact hE.edges d b c) hE.new h.closed hready hunl h.tmps
      have hlen : rest.length + (av.filter fun f => f.x.i != e.x.i).length ≤ fuel := by
        have : (av.filter fun f => f.x.i != e.x.i).length < av.length := by
          rw [List.length_filter_lt_length_iff_exists]
          exact ⟨e, he, by simp⟩
        omega
      have hk := hE.kind
      unfold wpOpIn
      rw [ho]
      simp only
      split at hk
      · rw [if_neg (by rw [guard_of_reads hreads hk.1]; simp)]
        refine ⟨fun _ _ => trivial, ?_⟩
        refine ih _ _ _ _ _ _ _ _ _ _ _ (h.take hL hn he hun hed (.refl _) h.stp h.rel (by rw [hk.2]; exact .tup .nil) (fun f hf _ p hp => (h.nonep f hf p hp).1)) hlen
      · rw [if_pos (guard_of_reads hreads hk.1)]
        obtain ⟨v', hv1, hv2⟩ := pureV_sound (P := P) hk.2 (opd_of_reads hreads) w
        refine (OpOK.value (A' := A) (by intro c e'; rw [e'] at hk; simp [pureV] at hk) (.refl (ρ := ρ) (A := A)) h.rel hv1 hv2) r n _ Q fun ρ' w' u' hs' hr' hv' => ?_
        refine ih _ _ _ _ _ _ _ _ _ _ _ (h.take hL hn he hun hed hs'.le (h.stp.trans hs') hr' hv' (fun f hf _ p hp => ?_)) hlen
        cases e' : ρ'.m p with
        | none => rfl
        | some rb => have := hs'.fresh p rb e' (h.base.pos f hf p hp); rw [(h.nonep f hf p hp).1] at this; cases this
      · obtain ⟨hk1, ⟨B, hk2⟩, hk3⟩ := hk
        rw [if_pos (guard_of_reads hreads hk1)]
        have hk4 : readV P e.tm A e.x.o.op = some e.v := h.halt.chk _ hk3
        obtain ⟨w1, v', q1, q2, hv1, hv2⟩ := readV_sound (P := P) hk4 (opd_of_reads hreads) h.rel
        refine (OpOK.value (A' := A) (by intro c e'; rw [e'] at hk4; simp [readV] at hk4) q1 q2 hv1 hv2) r n _ Q fun ρ' w' u' hs' hr' hv' => ?_
        refine ih _ _ _ _ _ _ _ _ _ _ _ (h.take hL hn he hun hed hs'.le (h.stp.trans hs') hr' hv' (fun f hf _ p hp => ?_)) hlen
        cases e' : ρ'.m p with
        | none => rfl
        | some rb => have := hs'.fresh p rb e' (h.base.pos f hf p hp); rw [(h.nonep f hf p hp).1] at this; cases this
      · rename_i cs esz mk p hkind
        obtain ⟨hk1, hk2, hk3, hk4⟩ := hk
        rw [if_pos (guard_of_reads hreads hk1)]
        have hA : A.t.get p = some (.cells cs esz false) := h.halt.chk _ hk4
        obtain ⟨hpn, hp0⟩ := h.nonep e he p (by simp [Ent.pos, hkind])
        obtain ⟨c, t, hc1, hc2⟩ := allocV_sound (P := P) hk2 (opd_of_reads hreads)
        obtain ⟨mk', hm1, hm2⟩ := hc2 w
        obtain ⟨hr2, hs2⟩ := h.rel.laid h.stp (.cells c t) hA hpn hp0 0 (ORel.cells_new (hc1.mono (RM.le_at hpn)))
        refine ⟨fun _ _ => trivial, ?_⟩
        rw [Oper.semAt_eq _ _ _ (by intro c' e'; rw [e'] at hk2; simp [allocV] at hk2), hm1]
        refine ih _ _ _ _ _ _ _ _ _ _ _ (h.take hL hn he hun hed (RM.le_at hpn) hs2 hr2 (by rw [hk3]; exact hm2 _ _ (RM.at_self _ _ _)) (fun f hf hfi p' hp' => ?_)) hlen
        have hne : p' ≠ p := by
          intro e'
          subst e'
          -- two operations do not make one place
          exact hfi (by rw [pos_inj h.base.posNodup f hf e he hp' (by simp [Ent.pos, hkind])])
        rw [RM.at_ne _ _ _ _ hne]
        exact (h.nonep f hf p' hp').1

/-- **A region that draws its order.** -/
theorem execD_sound {fx : Fx} {app : AV → List AV → H → (AV → H → Ans) → Ans} (happ : AppOK P app) {ord : List ROp} (ho : regOrd P ops = some ord) {tm : Tm} {A : H} {k : Tm → H → Ans} (h : execD P fx app ops ord true [] tm A k = .ok) :
    ∃ tm' A', k tm' A' = .ok ∧ ∀ (ρ : RM) (w : World) (a : Act), Rel ρ A w → TmRel ρ tm a.tmps → fx.nt ≤ a.tmps.size → ∀ (r : Option Nat) (n : Nat) (Q : Exit → Act → World → Prop),
      (∀ ρ' w' a', Stp ρ A w ρ' A' w' → Rel ρ' A' w' → TmRel ρ' tm' a'.tmps → a'.tmps.size = a.tmps.size → a'.defers = a.defers → Q .normal a' w') → wpAnyIn (FW r) n P .any ops Q ops.size (Array.replicate ops.size false) a w := by
  have hL := regOrd_look ho
  obtain ⟨tm', A', hk, ht⟩ := execD_tr (ops := ops) happ hL.fact .nil (fun _ p hp => by cases hp) h
  refine ⟨tm', A', hk, fun ρ w a hr htm hn r n Q hq => ?_⟩
  have hB : Base P ops ord fx.nt tm ord [] tm A [] [] (fun _ => False) := by
    refine ⟨fun _ h => h, hL.ordp.congr (fun i => by simp) (fun _ => Iff.rfl), fun x o e hx => (by obtain ⟨v, hv⟩ := hx; cases hv), fun t => ⟨fun j v hj => (by cases hj), fun _ => rfl⟩, fun e he => (by cases he), by simp, fun e he => (by cases he), by simp, fun i u v hu => by cases hu⟩
  obtain ⟨rest', q', tm1, A1, done', av', E', g1, g2, g3, g4, g5, g6, g7, g8⟩ := advance hL ht hB
  obtain ⟨hr1, hs1⟩ := g8 ρ w hr
  have hall : ∀ i, i < ops.size → i ∈ ord.map (·.i) := by
    have key : ∀ {l : List ROp} {D E : Nat → Prop}, OrdP ops l D E → ∀ i, i < ops.size → i ∈ l.map (·.i) ∨ D i := by
      intro l D E h
      induction h with
      | nil h => exact fun i hi => .inr (h i hi)
      | cons h1 h2 h3 h4 h5 ih =>
        intro i hi
        rcases ih i hi with h | h | h
        · exact .inl (by simp only [List.map_cons, List.mem_cons]; exact .inr h)
        · exact .inl (by simp only [List.map_cons, List.mem_cons]; exact .inl h)
        · exact .inr h
    intro i hi
    exact (key hL.ordp i hi).resolve_right id
  have hunl : ∀ i, i < ops.size → (Array.replicate ops.size false).getD i true = false := fun i hi => by simp [Array.getD_eq_getD_getElem?, hi]
  have hno : ∀ i, i < ops.size → ¬ isListed (Array.replicate ops.size false) i := fun i hi => by unfold isListed; rw [hunl i hi]; simp
  have hlen : ord.length ≤ ops.size := by
    have key : ∀ {l : List ROp} {D E : Nat → Prop}, OrdP ops l D E → (l.map (·.i)).Nodup ∧ ∀ x ∈ l, x.i < ops.size := by
      intro l D E h
      induction h with
      | nil h => exact ⟨by simp, fun x hx => by cases hx⟩
      | @cons x l D E h1 h2 h3 h4 h5 ih =>
        refine ⟨?_, fun y hy => ?_⟩
        · simp only [List.map_cons, List.nodup_cons]
          refine ⟨fun hm => ?_, ih.1⟩
          obtain ⟨y, hy, hyi⟩ := List.mem_map.1 hm
          exact (h5.notin y hy).1 (.inl hyi)
        · rcases List.mem_cons.1 hy with rfl | hy
          · exact h1
          · exact ih.2 y hy
    obtain ⟨h1, h2⟩ := key hL.ordp
    have := length_le_of_nodup ops.size (ord.map (·.i)) h1 (fun i hi => by
      obtain ⟨x, hx, rfl⟩ := List.mem_map.1 hi
      exact h2 x hx)
    simpa using this
  refine sim_sound (ρ0 := ρ) (A0 := A) (w0 := w) (a0 := a) hL hn hq ops.size (Array.replicate ops.size false) a w rest' q' tm1 A1 done' av' E' ρ
    ⟨g1, g2, by simp, fun i hi => ?_, fun y o e hy ho' => ?_, hr1, hs1, fun e he p hp => ?_, fun t => ⟨fun j v hj hw hl => absurd hl (hno j (writes_lt hw)), fun _ v hv => ?_⟩, rfl, rfl⟩ ?_
  · rw [g4]
    exact ⟨fun _ => .inl (hall i hi), fun _ => hunl i hi⟩
  · exact absurd hy (hno y (Array.getElem?_eq_some_iff.1 ho').1)
  · rcases g7 e he with h0 | h0
    · cases h0
    · have h1 := h0 p hp
      refine ⟨?_, h1⟩
      cases e' : ρ.m p with
      | none => rfl
      | some rb => have := (hr.dom p rb e').1; omega
  · obtain ⟨v', h1, h2⟩ := htm _ _ hv
    rw [Pos.idx_ofNat] at h1
    exact ⟨v', h1, h2⟩
  · simp only [List.length_nil, Nat.add_zero] at g5; omega

end Go.AM
