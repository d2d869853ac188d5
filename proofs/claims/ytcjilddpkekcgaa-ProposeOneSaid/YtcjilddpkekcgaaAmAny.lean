/-
  THE MACHINE 'AM': FUNCTIONS OF NUMBERS AND TRUTHS ALONE: what is known of them on the empty heap is so on every heap, and nothing there is turned.
-/
import Derived.Test.YtcjilddpkekcgaaAmBase
namespace Go.AM
variable {P : Program}

theorem ilt_true {a b : Int} (h : a < b) : ilt a b = true := by rw [ilt_iff]; exact decide_eq_true h
theorem ilt_false {a b : Int} (h : b ≤ a) : ilt a b = false := by rw [ilt_iff]; exact decide_eq_false (by omega)
theorem ieq_self (x : Int) : ieq x x = true := by rw [ieq_iff]; simp
theorem ieq_true {a b : Int} (h : a = b) : ieq a b = true := by rw [ieq_iff]; exact beq_iff_eq.2 h
theorem ieq_false {a b : Int} (h : a ≠ b) : ieq a b = false := by rw [ieq_iff]; exact beq_eq_false_iff_ne.2 h

theorem wrap_sub {a b : Nat} (h : b ≤ a) (h2 : a < 9223372036854775808) : wrapK .i64 (Int.sub (.ofNat a) (.ofNat b)) = .ofNat (a - b) := by
  have e : Int.sub (.ofNat a) (.ofNat b) = .ofNat (a - b) := by
    show (a : Int) - (b : Int) = ((a - b : Nat) : Int); omega
  rw [e]; exact wrap_nat (by omega)

/-- The heap behind is let go. -/
theorem FunOK.bare {g : FuncId} {args : List AV} {v : AV} {A' : H} (h : FunOK P g args (mkH []) v A') (hv : ∀ τ, v.ren τ = v) : FunOK P g args (mkH []) v (mkH []) := by
  have hn : (mkH []).next.idx = 0 := mkH_next []
  refine FunOK.sel (τ := fun p => .ofNat (A'.next.idx + p.idx)) h ⟨fun p o e => ?_, fun p q o o' e => ?_, fun p o e => ?_, fun p e => ?_, fun p _ => ?_, ?_, Nat.zero_le _, Nat.zero_le _⟩ (hv _).symm
  · rw [mkH_get] at e; simp at e
  · rw [mkH_get] at e; simp at e
  · rw [mkH_get] at e; simp at e
  · rw [hn] at e; omega
  · rw [Pos.idx_ofNat]; omega
  · rw [hn]; exact Nat.zero_le _
theorem H.upd_nil (A : H) : A.upd A.next.idx [] [] = A := by
  unfold H.upd
  show (⟨.ofNat (A.next.idx + 0), A.t, A.ng, A.st⟩ : H) = A
  rw [Nat.add_zero, Pos.ofNat_idx]
/-- Known on the empty heap, known on each. -/
theorem FunOK.every {g : FuncId} {args : List AV} {v : AV} (h : FunOK P g args (mkH []) v (mkH [])) (ha : ∀ σ, AV.rens σ args = args) (hv : ∀ τ, v.ren τ = v) (A : H) : FunOK P g args A v A := by
  have e := (LocFun.of (N := A.next.idx) h [] rfl (by decide) (fun i hi => by cases hi) (Nat.le_refl _) trivial (ha _) (hv _) rfl rfl rfl).ok A (Pos.ofNat_idx _).symm trivial
  have e2 : A.upd A.next.idx (postL (seat [] A.next.idx) [] [] []) (newsL (seat [] A.next.idx) ([] : HL).length []) = A := H.upd_nil A
  rw [e2] at e
  exact e
/-- One row that is read: what is made beside it is let go. -/
theorem FunOK.bare1 {g : FuncId} {args : List AV} {v : AV} {o : HObj} {G : HL} (h : FunOK P g args (mkH [some o]) v (mkH (some o :: G))) (ho : ∀ σ, o.ren σ = o) (hv : ∀ τ, v.ren τ = v) : FunOK P g args (mkH [some o]) v (mkH [some o]) := by
  refine FunOK.sel (τ := seat [0] (G.length + 1)) h ?_ (hv _).symm
  rw [mkH_next]
  refine Sel.of_listN (n := 1) (N := G.length + 1) (B := [some o]) (t := [0]) rfl rfl ?_ (by show [0].Nodup; decide) ⟨rfl, trivial⟩
  exact .some rfl (ho _).symm .nil
theorem PT.put_same {α : Type} : ∀ {p : Pos} {t : PT α} {x : α}, t.get p = some x → t.put (some x) p = t
  | .z, .leaf, _, h => by cases h
  | .z, .node l y r, x, h => by
    have h' : y = some x := h
    subst h'; rfl
  | .l p, .leaf, _, h => by rw [PT.get_leaf] at h; cases h
  | .l p, .node l y r, x, h => by
    show PT.node (l.put (some x) p) y r = _
    rw [PT.put_same (p := p) (t := l) h]
  | .r p, .leaf, _, h => by rw [PT.get_leaf] at h; cases h
  | .r p, .node l y r, x, h => by
    show PT.node l y (r.put (some x) p) = _
    rw [PT.put_same (p := p) (t := r) h]
/-- .. wherever it lies. -/
theorem FunOK.every1 {g : FuncId} {args args' : List AV} {v : AV} {o : HObj} (h : FunOK P g args (mkH [some o]) v (mkH [some o])) (ho : ∀ σ, o.ren σ = o) (hv : ∀ τ, v.ren τ = v) {A : H} {p : Pos} (hp : A.t.get p = some o)
    (ha : ∀ σ : Pos → Pos, σ .z = p → AV.rens σ args = args') : FunOK P g args' A v A := by
  intro ρ w args'' hr hargs
  have hz : seat [p.idx] A.next.idx Pos.z = p := by rw [seat_old (i := p.idx) rfl, Pos.ofNat_idx]
  have L : LocFun P g args' A.next.idx [(p.idx, o)] v [(p.idx, some o)] [] := LocFun.of h [p.idx] rfl (by simp [liveS]) (fun i hi => by
    simp at hi; subst hi; exact hr.ids p o hp) (Nat.le_refl _) trivial (ha _ hz) (hv _) (by simp only [preL, ho]) (by simp only [postL, Option.map_some, ho]) rfl
  have e := L.ok A (Pos.ofNat_idx _).symm ⟨by show A.t.get (.ofNat p.idx) = _; rw [Pos.ofNat_idx]; exact hp, trivial⟩ ρ w args'' hr hargs
  have e2 : A.upd A.next.idx [(p.idx, some o)] [] = A := by
    unfold H.upd
    show (⟨.ofNat (A.next.idx + 0), A.t.put (some o) (.ofNat p.idx), A.ng, A.st⟩ : H) = A
    rw [Nat.add_zero, Pos.ofNat_idx, Pos.ofNat_idx, PT.put_same hp]
  rw [e2] at e
  exact e
/-- An answer that reckons. -/
theorem good_pure {g : FuncId} {o : Orc} (h : ∀ args A k els, o args A k els = .ok → ∃ v, k v A = .ok ∧ FunOK P g args A v A) : Good P g o := fun args A k els hk =>
  let ⟨v, h1, h2⟩ := h args A k els hk; .inr ⟨v, A, h1, fun ρ w args' hr ha => h2 ρ w args' hr ha⟩
end Go.AM
