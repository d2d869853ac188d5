/-
  THE MACHINE 'AM': A RUN OF WHICH SOME TEMPORARIES ALONE ARE TOLD.
-/
import Derived.Test.YtcjilddpkekcgaaAmFz
namespace Go.AM
variable {P : Program}

/-- These temporaries' values. -/
noncomputable def pickT : List Nat → Tm → (List AV → Ans) → Ans :=
  @List.rec Nat (fun _ => Tm → (List AV → Ans) → Ans) (fun _ f => f []) (fun t _ ih tm f => getK (Pos.ofNat t) tm (fun v => ih tm fun l => f (v :: l)) (.err 90 t 0))
theorem pickT_ok : ∀ {ts : List Nat} {tm : Tm} {f : List AV → Ans}, pickT ts tm f = .ok → ∃ l, f l = .ok ∧ l.length = ts.length ∧ LTm (ts.zip l) tm
  | [], tm, f, h => ⟨[], h, rfl, .nil⟩
  | t :: ts, tm, f, h => by
    have h' : getK (Pos.ofNat t) tm (fun v => pickT ts tm fun l => f (v :: l)) (.err 90 t 0) = .ok := h
    rw [getK_eq] at h'
    cases hg : tm.get (Pos.ofNat t) with
    | none => rw [hg] at h'; cases h'
    | some v =>
      rw [hg] at h'
      obtain ⟨l, h1, h2, h3⟩ := pickT_ok (ts := ts) (f := fun l => f (v :: l)) h'
      exact ⟨v :: l, h1, by simp [h2], .cons hg h3⟩
/-- What goes on with them: which, where the code ends so. -/
noncomputable def pickK (tn tr tx : List Nat) (K : AExit → List AV → H → Ans) : Kont := fun e tm A m =>
  match m with
  | [] => match e with
    | .normal => pickT tn tm fun l => K .normal l A
    | .ret => pickT tr tm fun l => K .ret l A
    | .exit i => pickT tx tm fun l => K (.exit i) l A
    | .goto _ => .err 90 0 1
  | _ => .err 90 0 2
def pickOf (tn tr tx : List Nat) : AExit → List Nat
  | .normal => tn
  | .ret => tr
  | .exit _ => tx
  | .goto _ => []
theorem pickK_ok {tn tr tx : List Nat} {K : AExit → List AV → H → Ans} {e : AExit} {tm : Tm} {A : H} {m : List Mk} (h : pickK tn tr tx K e tm A m = .ok) : m = [] ∧ ∃ l, K e l A = .ok ∧ l.length = (pickOf tn tr tx e).length ∧ LTm ((pickOf tn tr tx e).zip l) tm := by
  unfold pickK at h
  cases m with
  | cons _ _ => cases h
  | nil =>
    refine ⟨rfl, ?_⟩
    cases e with
    | normal => exact pickT_ok h
    | ret => exact pickT_ok h
    | exit i => exact pickT_ok h
    | goto l => cases h
open Classical in
/-- .. as a sentence. -/
theorem CodeOK.of_pick (hmix : P.follows .mixedOrders = true) {O : PT Orc} (hO : OrOK P O) {hs : List Hole} (hh : HolesOK P hs) {N : Nat} {fx : Fx} {c : Code} {tm : Tm} {A : H} {e : AExit} {l : List AV} {A' : H} (tn tr tx : List Nat)
    (h : ∀ K, execH P O hs N fx c tm A [] (pickK tn tr tx K) = K e l A') : CodeOK P fx c tm A [] e (mkTm ((pickOf tn tr tx e).zip l)) A' [] := by
  obtain ⟨e1, t1, A1, m1, hk, hg⟩ := (execH_sound hmix hO hh N).ok fx c tm A [] (pickK tn tr tx fun e1 l1 A1 => if e1 = e ∧ l1 = l ∧ A1 = A' then .ok else .err 0 0 0) (by rw [h]; simp)
  obtain ⟨rfl, l1, hk1, hlen, hl⟩ := pickK_ok hk
  split at hk1
  · rename_i hc
    obtain ⟨rfl, rfl, rfl⟩ := hc
    exact CodeOK.less hg (Sub0.of_list hl)
  · cases hk1


section
variable {α : Type} {f : α → List AV} {N : Nat} (hN : ∀ a, (f a).length = N)
include hN
theorem seg_flat (l : List α) (F : List AV → Ans) (e : Ans) : segK 0 (flat f l) (Nat.mul l.length N) F e = F (flat f l) := by
  have h := flat_length hN l
  have h2 : Nat.mul l.length N = l.length * N := rfl
  rw [segK_eq, h2, if_pos (by rw [h]; omega), List.drop_zero, List.take_of_length_le (by rw [h]; exact Nat.le_refl _)]
theorem end_flat (l : List α) : Nat.beq (Nat.add 0 (Nat.mul l.length N)) (flat f l).length = true := AM.beq_true (by rw [flat_length hN]; show 0 + l.length * N = _; omega)
end
/-- An append to a row that is full. -/
theorem full_row (m : Nat) : Nat.ble (Nat.add m 1) m = false := ble_false (by show m < m + 1; omega)

/-- Known of an object that is turned, known wherever it lies. -/
theorem FunOK.everyM {g : FuncId} {args args' : List AV} {v : AV} {o o' : HObj} (h : FunOK P g args (mkH [some o]) v (mkH [some o'])) (ho : ∀ σ, o.ren σ = o) (ho' : ∀ σ, o'.ren σ = o') (hv : ∀ τ, v.ren τ = v) {A : H} {p : Pos} (hp : A.t.get p = some o)
    (ha : ∀ σ : Pos → Pos, σ .z = p → AV.rens σ args = args') : FunOK P g args' A v (A.set p (some o')) := by
  intro ρ w args'' hr hargs
  have hz : seat [p.idx] A.next.idx Pos.z = p := by rw [seat_old (i := p.idx) rfl, Pos.ofNat_idx]
  have L : LocFun P g args' A.next.idx [(p.idx, o)] v [(p.idx, some o')] [] := LocFun.of h [p.idx] rfl (by simp [liveS]) (fun i hi => by
    simp at hi; subst hi; exact hr.ids p o hp) (Nat.le_refl _) trivial (ha _ hz) (hv _) (by simp only [preL, ho]) (by simp only [postL, Option.map_some, ho']) rfl
  have e := L.ok A (Pos.ofNat_idx _).symm ⟨by show A.t.get (.ofNat p.idx) = _; rw [Pos.ofNat_idx]; exact hp, trivial⟩ ρ w args'' hr hargs
  have e2 : A.upd A.next.idx [(p.idx, some o')] [] = A.set p (some o') := by
    unfold H.upd H.set
    show (⟨.ofNat (A.next.idx + 0), A.t.put (some o') (.ofNat p.idx), A.ng, A.st⟩ : H) = _
    rw [Nat.add_zero, Pos.ofNat_idx, Pos.ofNat_idx]
  rw [e2] at e
  exact e
/-- .. as an answer: at one place, from one object to another. -/
noncomputable def orcObj (args : List AV) (p : Nat) (o o' : HObj) (v : AV) : Orc := fun args2 A k _ =>
  guardK (args2 = args ∧ A.t.get (.ofNat p) = some o) (A.setK (.ofNat p) (some o') fun A => k v A) (.err 84 0 0)
theorem good_obj {g : FuncId} {args args' : List AV} {v : AV} {o o' : HObj} {p : Nat} (h : FunOK P g args (mkH [some o]) v (mkH [some o'])) (ho : ∀ σ, o.ren σ = o) (ho' : ∀ σ, o'.ren σ = o') (hv : ∀ τ, v.ren τ = v)
    (ha : ∀ σ : Pos → Pos, σ .z = .ofNat p → AV.rens σ args = args') : Good P g (orcObj args' p o o' v) := by
  intro args2 A k els hk
  unfold orcObj guardK at hk
  split at hk
  · rename_i hc
    obtain ⟨rfl, hp⟩ := hc
    rw [H.setK_eq] at hk
    exact .inr ⟨v, _, hk, fun ρ w args' hr hx => h.everyM ho ho' hv hp ha ρ w args' hr hx⟩
  · cases hk

/-- What lies behind the first object is let go. -/
theorem FunOK.drop1 {g : FuncId} {args : List AV} {v : AV} {o o' : HObj} {G : HL} (h : FunOK P g args (mkH [some o]) v (mkH (some o' :: G))) (ho : ∀ σ, o'.ren σ = o') (hv : ∀ τ, v.ren τ = v) : FunOK P g args (mkH [some o]) v (mkH [some o']) := by
  refine FunOK.sel (τ := seat [0] (G.length + 1)) h ?_ (hv _).symm
  rw [mkH_next]
  refine Sel.of_listN (n := 1) (N := G.length + 1) (B := [some o']) (t := [0]) rfl rfl ?_ (by show [0].Nodup; decide) ⟨rfl, trivial⟩
  exact .some rfl (ho _).symm .nil
/-- A row behind the first object stays as it is, all else there is let go. -/
theorem FunOK.iceDrop {g : FuncId} {args : List AV} {v v' : AV} {o : HObj} {c : List AV} {e : Nat} {F : HL} (h : FunOK P g args (mkH [some o]) v (mkH (some (.cells c e false) :: F))) (hc : AV.pfs c = true) (i : Nat) {l : List AV} {esz : Nat}
    (hi : F[i]? = some (some (.cells l esz false))) (hl : AV.pfs l = true) (hv : v.ice (.ofNat (i + 1)) l esz = v') (hv' : ∀ τ, v'.ren τ = v') : FunOK P g args (mkH [some o]) v' (mkH [some (.cells c e false)]) := by
  have h1 := h.ice (i + 1) (l := l) (esz := esz) (by simpa using hi) hl rfl hv
  have h2 : iceL (i + 1) l esz (some (.cells c e false) :: F) = some (.cells c e false) :: (iceL (i + 1) l esz (some (.cells c e false) :: F)).tail := by
    unfold iceL
    rw [List.mapIdx_cons]
    show (match Nat.beq 0 (i + 1) with | true => none | false => some (HObj.cells (c.map (AV.ice (.ofNat (i + 1)) l esz)) e false)) :: _ = _
    rw [AV.map_ice_pf _ _ _ hc]
    rfl
  rw [h2] at h1
  exact h1.drop1 (fun σ => cells_ren_pf σ hc _ _) hv'

end Go.AM
