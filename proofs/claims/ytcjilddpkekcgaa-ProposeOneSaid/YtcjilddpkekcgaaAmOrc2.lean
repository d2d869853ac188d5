/-
  THE MACHINE 'AM': oracles for functions without a body that read and write one cell (sync/atomic), and for slices.overlaps.
-/
import Derived.Test.YtcjilddpkekcgaaAmOrc
namespace Go.AM
variable {P : Program}

/-! ### One cell -/
noncomputable def cellAt (A : H) (x : AV) : Option (Pos × Nat × List AV × Nat) :=
  match x with
  | .ptr p off => match A.t.get p with
    | some (.cells cs esz false) => some (p, off, cs, esz)
    | _ => none
  | _ => none

theorem cellAt_some {A : H} {x : AV} {p : Pos} {off : Nat} {cs : List AV} {esz : Nat} (h : cellAt A x = some (p, off, cs, esz)) : x = .ptr p off ∧ A.t.get p = some (.cells cs esz false) := by
  unfold cellAt at h
  split at h
  · split at h
    · rename_i e; simp only [Option.some.injEq, Prod.mk.injEq] at h; obtain ⟨rfl, rfl, rfl, rfl⟩ := h; exact ⟨rfl, e⟩
    · cases h
  · cases h

/-- What is known of a cell, and how it is turned. -/
theorem cell_facts {ρ : RM} {A : H} {w : World} (hr : Rel ρ A w) {p : Pos} {off : Nat} {cs : List AV} {esz : Nat} (hp : A.t.get p = some (.cells cs esz false)) {rb : RB} (hm : ρ.m p = some rb) {v : AV} (hv : cs[off]? = some v) :
    ∃ v', VR ρ v v' ∧ w.cell? ⟨rb.blk, rb.shift + off, none⟩ = some v' ∧ w.frozen? ⟨rb.blk, rb.shift + off, none⟩ = false ∧
      ∀ (u : AV) (u' : Value), VR ρ u u' → u.one = true → Rel ρ (A.set p (some (.cells (cs.set off u) esz false))) (w.setCell ⟨rb.blk, rb.shift + off, none⟩ u') ∧ Stp ρ A w ρ (A.set p (some (.cells (cs.set off u) esz false))) (w.setCell ⟨rb.blk, rb.shift + off, none⟩ u') := by
  obtain ⟨c, ty, fz, hb, hsz, hcell, hfz⟩ := hr.obj _ _ _ hp hm
  obtain ⟨v', h1, h2⟩ := hcell off v hv
  have hlt : off < cs.length := (List.getElem?_eq_some_iff.1 hv).1
  have hfrz : w.frozen? ⟨rb.blk, rb.shift + off, none⟩ = false := by
    simp only [World.frozen?, hb]
    rw [Bool.eq_false_iff]
    intro h
    simp only [Bool.and_eq_true, decide_eq_true_eq] at h
    have := (hfz rfl).1 (rb.shift + off) h.1 h.2
    omega
  have hc : w.cell? ⟨rb.blk, rb.shift + off, none⟩ = some v' := by simp [World.cell?, hb, h1]
  refine ⟨v', h2, hc, hfrz, fun u u' hu h1 => ?_⟩
  obtain ⟨w', hst, hr2, hs2⟩ := write_sound (P := default) hr hp hm (new := [u]) (new' := [u']) (.cons hu .nil) (by simp [h1]) (off := off) (by simp; omega)
  have hw : w' = w.setCell ⟨rb.blk, rb.shift + off, none⟩ u' := by
    have hone := hu.one' h1
    simp only [storeCells, addr_add, Nat.add_zero, Sem.run_bind, run_store _ w _ u' .plain hone, hc, hfrz] at hst
    simp at hst
    exact hst.symm
  subst hw
  exact ⟨hr2, hs2⟩

noncomputable def orcLoad (i : IntKind) : Orc := fun args A k els => match args with
  | [x] => match cellAt A x with
    | some (_, off, cs, _) => match cs[off]? with
      | some (.int j n) => if i = j then k (.int i n) A else els
      | _ => els
    | none => els
  | _ => els
theorem good_load {f : FuncId} {i : IntKind} (h : Ext P f (Extern.Atomic.loadT (.int i))) : Good P f (orcLoad i) :=
  .ext h fun args A k els hk => by
    unfold orcLoad at hk
    split at hk
    · split at hk
      · rename_i p off cs esz hx
        obtain ⟨rfl, hp⟩ := cellAt_some hx
        split at hk
        · rename_i j n hcell
          split at hk
          · rename_i hij; subst hij
            refine .inr ⟨_, _, hk, fun ρ w as hr ha => ?_⟩
            obtain ⟨v', rfl, hv⟩ := ha.one1
            cases hv; rename_i rb hm
            obtain ⟨u', hu, hc, _, _⟩ := cell_facts hr hp hm hcell
            cases hu
            refine ⟨ρ, w, _, .refl, hr, .int _ _, ?_⟩
            show (Sem.run P (do Extern.Atomic.read (.int i) (← asAddr (.pointer (some _)))) w) = _
            simp [Extern.Atomic.read, asAddr, hc]
          · exact .inl hk
        · exact .inl hk
      · exact .inl hk
    · exact .inl hk

noncomputable def orcStore : Orc := fun args A k els => match args with
  | [x, .int j y] => match cellAt A x with
    | some (p, off, cs, esz) => match cs[off]? with
      | some _ => setsK [.int j y] cs off fun cs => A.setK p (some (.cells cs esz false)) fun A => k (.tup []) A
      | _ => els
    | none => els
  | _ => els
theorem good_store {f : FuncId} (h : Ext P f Extern.Atomic.storeT) : Good P f orcStore :=
  .ext h fun args A k els hk => by
    unfold orcStore at hk
    split at hk
    · rename_i x j y
      split at hk
      · rename_i p off cs esz hx
        obtain ⟨rfl, hp⟩ := cellAt_some hx
        split at hk
        · rename_i u hcell
          rw [setsK_eq, H.setK_eq] at hk
          refine .inr ⟨_, _, hk, fun ρ w as hr ha => ?_⟩
          obtain ⟨v', z', rfl, hv, hz⟩ := ha.two
          cases hv; rename_i rb hm
          cases hz
          obtain ⟨u', hu, hc, hfz, hset⟩ := cell_facts hr hp hm hcell
          obtain ⟨hr2, hs2⟩ := hset (.int j y) (.int j y) (.int _ _) rfl
          refine ⟨ρ, _, _, hs2, hr2, .tup .nil, ?_⟩
          show (Sem.run P (do
            store (← asAddr (.pointer (some _))) (.int j y) .atomic
            pure Extern.Atomic.none_) w) = _
          simp [asAddr, hc, hfz, run_store P w _ (.int j y) .atomic rfl, Extern.Atomic.none_]
        · exact .inl hk
      · exact .inl hk
    · exact .inl hk

noncomputable def orcCas (i : IntKind) : Orc := fun args A k els => match args with
  | [x, .int j o, .int j' y] => match cellAt A x with
    | some (p, off, cs, esz) => match cs[off]? with
      | some (.int i' n) => if i = i' ∧ i = j ∧ i = j' then
          (match ieq n o with
          | true => setsK [.int i y] cs off fun cs => A.setK p (some (.cells cs esz false)) fun A => k (.bool true) A
          | false => k (.bool false) A)
        else els
      | _ => els
    | none => els
  | _ => els

theorem run_cas_hit (i : IntKind) {a : Addr} {x y : Int} {w : World} (hc : w.cell? a = some (.int i x)) (hz : w.frozen? a = false) :
    (Extern.Atomic.casT (.int i) #[.pointer (some a), .int i x, .int i y]).run P w = .ok (.bool true) (w.setCell a (.int i y)) := by
  change (Sem.run P (do
    let a' ← asAddr (.pointer (some a))
    if ← Extern.Atomic.touchesFrozen a' then unsupported (.unsafePointer "a write to bytes that a string shares")
    let eq ← match Extern.Atomic.T.int i, ← Extern.Atomic.read (.int i) a', Value.int i x with
      | _, .int _ x, .int _ y => pure (x == y)
      | .ptr, .pointer x, .pointer y => samePointer x y
      | .int _, .pointer (some _), .int _ 0 | .int _, .int _ 0, .pointer (some _) => pure false
      | .int _, .pointer (some _), _ | .int _, _, .pointer (some _) => unsupported .addressObserved
      | _, _, _ => stuck "atomic.CompareAndSwap: old is no T"
    if eq then store a' (.int i y) .atomic
    pure (Value.bool eq)) w) = _
  simp [Extern.Atomic.touchesFrozen, Extern.Atomic.read, asAddr, viewAt, World.shape?_isSome_of_cell? hc, hc, hz, run_store P w a (.int i y) .atomic rfl]

theorem run_cas_miss (i : IntKind) {a : Addr} {x o y : Int} {w : World} (hc : w.cell? a = some (.int i x)) (hz : w.frozen? a = false) (hne : ¬ x = o) :
    (Extern.Atomic.casT (.int i) #[.pointer (some a), .int i o, .int i y]).run P w = .ok (.bool false) w := by
  change (Sem.run P (do
    let a' ← asAddr (.pointer (some a))
    if ← Extern.Atomic.touchesFrozen a' then unsupported (.unsafePointer "a write to bytes that a string shares")
    let eq ← match Extern.Atomic.T.int i, ← Extern.Atomic.read (.int i) a', Value.int i o with
      | _, .int _ x, .int _ y => pure (x == y)
      | .ptr, .pointer x, .pointer y => samePointer x y
      | .int _, .pointer (some _), .int _ 0 | .int _, .int _ 0, .pointer (some _) => pure false
      | .int _, .pointer (some _), _ | .int _, _, .pointer (some _) => unsupported .addressObserved
      | _, _, _ => stuck "atomic.CompareAndSwap: old is no T"
    if eq then store a' (.int i y) .atomic
    pure (Value.bool eq)) w) = _
  simp [Extern.Atomic.touchesFrozen, Extern.Atomic.read, asAddr, viewAt, World.shape?_isSome_of_cell? hc, hc, hz, hne]

theorem good_cas {f : FuncId} {i : IntKind} (h : Ext P f (Extern.Atomic.casT (.int i))) : Good P f (orcCas i) :=
  .ext h fun args A k els hk => by
    unfold orcCas at hk
    split at hk
    · rename_i x j o j' y
      split at hk
      · rename_i p off cs esz hx
        obtain ⟨rfl, hp⟩ := cellAt_some hx
        split at hk
        · rename_i i' n hcell
          split at hk
          · rename_i hi; obtain ⟨rfl, rfl, rfl⟩ := hi
            split at hk
            · rename_i he
              rw [ieq_iff, beq_iff_eq] at he; subst he
              rw [setsK_eq, H.setK_eq] at hk
              refine .inr ⟨_, _, hk, fun ρ w as hr ha => ?_⟩
              obtain ⟨v', z', z2, rfl, hv, hz, hz2⟩ := ha.three
              cases hv; rename_i rb hm
              cases hz; cases hz2
              obtain ⟨u', hu, hc, hfz, hset⟩ := cell_facts hr hp hm hcell
              cases hu
              obtain ⟨hr2, hs2⟩ := hset (.int i y) (.int i y) (.int _ _) rfl
              exact ⟨ρ, _, _, hs2, hr2, .bool true, run_cas_hit i hc hfz⟩
            · rename_i he
              rw [ieq_iff, beq_eq_false_iff_ne] at he
              refine .inr ⟨_, _, hk, fun ρ w as hr ha => ?_⟩
              obtain ⟨v', z', z2, rfl, hv, hz, hz2⟩ := ha.three
              cases hv; rename_i rb hm
              cases hz; cases hz2
              obtain ⟨u', hu, hc, hfz, hset⟩ := cell_facts hr hp hm hcell
              cases hu
              exact ⟨ρ, w, _, .refl, hr, .bool false, run_cas_miss i hc hfz he⟩
          · exact .inl hk
        · exact .inl hk
      · exact .inl hk
    · exact .inl hk

noncomputable def orcAdd (i : IntKind) : Orc := fun args A k els => match args with
  | [x, .int j y] => match cellAt A x with
    | some (p, off, cs, esz) => match cs[off]? with
      | some (.int i' n) => if i = i' ∧ i = j then
          fInt (wrapK i (Int.add n y)) fun s => setsK [.int i s] cs off fun cs => A.setK p (some (.cells cs esz false)) fun A => k (.int i s) A
        else els
      | _ => els
    | none => els
  | _ => els
theorem good_add {f : FuncId} {i : IntKind} (h : Ext P f (Extern.Atomic.update (Op.intArith .add) i true)) : Good P f (orcAdd i) :=
  .ext h fun args A k els hk => by
    unfold orcAdd at hk
    split at hk
    · rename_i x j y
      split at hk
      · rename_i p off cs esz hx
        obtain ⟨rfl, hp⟩ := cellAt_some hx
        split at hk
        · rename_i i' n hcell
          split at hk
          · rename_i hi; obtain ⟨rfl, rfl⟩ := hi
            rw [fInt_eq, setsK_eq, H.setK_eq] at hk
            refine .inr ⟨_, _, hk, fun ρ w as hr ha => ?_⟩
            obtain ⟨v', z', rfl, hv, hz⟩ := ha.two
            cases hv; rename_i rb hm
            cases hz
            obtain ⟨u', hu, hc, hfz, hset⟩ := cell_facts hr hp hm hcell
            cases hu
            obtain ⟨hr2, hs2⟩ := hset (.int i (wrapK i (Int.add n y))) _ (.int _ _) rfl
            refine ⟨ρ, _, _, hs2, hr2, .int _ _, ?_⟩
            have hadd : (Op.intArith .add i n y).run P w = .ok (.int i (wrapK i (Int.add n y))) w := by
              simp [Op.intArith, wrapK_eq]
            generalize wrapK i (Int.add n y) = s at *
            show (Sem.run P (do
              let a' ← asAddr (.pointer (some _))
              let old ← Extern.Atomic.read (.int i) a'
              let new ← Op.intArith .add i (← asInt old) (← asInt (.int i y))
              store a' new .atomic
              pure (if true = true then new else old)) w) = _
            simp [Extern.Atomic.read, asAddr, asInt, asIntOf, hc, hfz, hadd, run_store P w _ (.int i s) .atomic rfl]
          · exact .inl hk
        · exact .inl hk
      · exact .inl hk
    · exact .inl hk

/-! ### slices.overlaps -/
/-- Of two slices in two rows: the first row's elements are of more cells than one: no string shares them. -/
noncomputable def orcApart : Orc := fun args A k els => match args with
  | [.slice p _ _ _ _, .slice q _ _ _ _] => match Pos.beq p q, A.t.get p, A.t.get q with
    | false, some (.cells _ e false), some (.cells (_ :: _) _ false) => match Nat.beq e 1 with
      | false => k (.bool false) A
      | true => els
    | _, _, _ => els
  | _ => els
theorem good_apart {f : FuncId} {tS tR e : TypeId} {size : Nat} (ht : P.underlying tS = some (.slice e)) (hz : sizeT P e = some size) (h : Ext P f (Extern.SlicesOverlaps.overlaps #[tS, tS] #[tR])) : Good P f orcApart :=
  .ext h fun args A k els hk => by
    unfold orcApart at hk
    split at hk
    · rename_i p off len cap soft q off2 len2 cap2 soft2
      split at hk
      · rename_i cs esz c0 cs0 esz0 hq hgp hgq
        split at hk
        · rename_i he
          refine .inr ⟨_, _, hk, fun ρ w as hr ha => ?_⟩
          obtain ⟨v', z', rfl, hv, hz2⟩ := ha.two
          cases hv with | @slice _ _ _ _ _ rb off' cap' hm hcap hoff hlen =>
          cases hz2 with | @slice _ _ _ _ _ rb2 off2' cap2' hm2 hcap2 hoff2 hlen2 =>
          refine ⟨ρ, w, _, .refl, hr, .bool false, ?_⟩
          obtain ⟨c, ty, fz, hb, hsz, _, hfz⟩ := hr.obj _ _ _ hgp hm
          obtain ⟨c2, ty2, fz2, hb2, hsz2, _, _⟩ := hr.obj _ _ _ hgq hm2
          have hne : rb.blk ≠ rb2.blk := fun e1 => by
            rcases hr.inj p q _ _ rb rb2 hgp hgq hm hm2 e1 with e2 | ⟨e2, _⟩
            · exact Pos.beq_ne hq e2
            · simp [HObj.isRo] at e2
          have hno := (hfz rfl).2.1 (fun e1 => by subst e1; simp at he)
          have hnf : ∀ o, w.frozen? ⟨rb.blk, o, none⟩ = false := fun o => by
            simp only [World.frozen?, hb]
            rw [Bool.eq_false_iff]
            intro h1
            simp only [Bool.and_eq_true, decide_eq_true_eq] at h1
            omega
          exact Lib.run_overlaps_apart w tS tR e ht size (fun w => run_sizeT hz w) ⟨rb.blk, off', none⟩ ⟨rb2.blk, off2', none⟩ len cap' len2 cap2' hne ty ty2 c.size c2.size
            (by simp [World.shape?, hb]) (by simp [World.shape?, hb2]) (by simp at hsz2; omega) (hnf _) (hnf _)
        · exact .inl hk
      · exact .inl hk
    · exact .inl hk

end Go.AM
