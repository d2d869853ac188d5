/-
  THE MACHINE 'AM': a law that the machine runs to true, from nothing or from arguments that it does not look into, leaves all that was there as it was.
-/
import Derived.Test.YtcjilddpkekcgaaAmExec
import GoSem.ClaimChange
namespace Go.AM
variable {P : Program}

theorem keptBut_of_same {w w' : World} (hos : w'.os = w.os) (hout : w'.output = w.output) (h : ∀ r, r < w.heap.size → w'.heap[r]? = w.heap[r]?) (may : MemPlace → Prop) : w.keptBut w' may := by
  refine ⟨hos, hout, fun i hi => ?_⟩
  rw [h i hi]
  cases he : w.heap[i]? with
  | none => rfl
  | some o => cases o with
    | cells c t fr => exact ⟨rfl, rfl, rfl, fun _ _ => rfl⟩
    | map es clock => exact .inr ⟨rfl, rfl⟩
    | _ => rfl

theorem Stp.kept {ρ ρ' : RM} {A A' : H} {w w' : World} (h : Stp ρ A w ρ' A' w') (hn : ∀ r, ¬ Owned ρ A r) (may : MemPlace → Prop) : w.keptBut w' may :=
  keptBut_of_same h.os h.output (fun r hr => h.keep r hr (hn r)) may

/-- Values of one cell each, by number. -/
structure OneCell (v : Value) : Prop where
  cells : v.cells = #[v]
  tup : ∀ cs, v ≠ .tuple cs

noncomputable def envOf (l : List Value) (i : Nat) : Value := (l[i]?).getD .nilIface

theorem Rel.empty (ρ : RM) (h : ∀ p, ρ.m p = none) (w : World) (hf : ∀ b, ρ.fr b = none := by exact fun _ => rfl) : Rel ρ H.empty w :=
  ⟨fun p o rb e => by simp [H.empty, PT.get_leaf] at e, fun p q o o' rb rb' e => by simp [H.empty, PT.get_leaf] at e, fun p rb e => (by rw [h] at e; cases e), fun p o e => by simp [H.empty, PT.get_leaf] at e, fun g hg => by simp [H.empty] at hg, fun b c e => by rw [hf] at e; cases e⟩
theorem Owned.empty (ρ : RM) (r : Nat) : ¬ Owned ρ H.empty r := by
  rintro ⟨p, o, rb, e, _⟩; simp [H.empty, PT.get_leaf] at e

def opqs : Nat → Nat → List AV
  | 0, _ => []
  | n + 1, i => .opq i :: opqs n (i + 1)

theorem VRs.opqs {ρ : RM} {env : List Value} (he : ∀ i v, env[i]? = some v → ρ.env i = v) : ∀ (l : List Value) (i : Nat), env.drop i = l → VRs ρ (Go.AM.opqs l.length i) l
  | [], _, _ => .nil
  | v :: l, i, h => by
    have hi : env[i]? = some v := by rw [← List.head?_drop, h]; rfl
    refine .cons ?_ (VRs.opqs he l (i + 1) (by rw [← List.tail_drop, h]; rfl))
    rw [← he i v hi]
    exact .opq i

/-- **A law whose arguments the machine does not look into.** -/
theorem law_opaque (hmix : P.follows .mixedOrders = true) {O : PT Orc} (hO : OrOK P O) {f n : Nat} (h : runLaw P O (Pos.ofNat f) (opqs n 0) H.empty = .ok) (args : Array Value) (hn : args.size = n) (h1 : ∀ v ∈ args.toList, OneCell v) (w : World) :
    Calls P f args w fun e w' => e = .returned (.bool true) ∧ ∀ may, w.keptBut w' may := by
  have hone : ∀ i, OneCell (envOf args.toList i) := by
    intro i
    unfold envOf
    cases e : args.toList[i]? with
    | none => exact ⟨rfl, fun cs h => by cases h⟩
    | some v => exact h1 v (List.mem_of_getElem? e)
  let ρ : RM := ⟨fun _ => none, envOf args.toList, fun i => ⟨(hone i).cells, (hone i).tup⟩, fun _ => none⟩
  have hv : VRs ρ (opqs n 0) args.toList := by
    have := VRs.opqs (ρ := ρ) (env := args.toList) (fun i v e => by show envOf args.toList i = v; simp [envOf, e]) args.toList 0 rfl
    simpa [hn] using this
  refine (runLaw_sound hmix hO h ρ w args (Rel.empty ρ (fun _ => rfl) w) hv).mono ?_
  rintro e w' ⟨he, ρ', A', hs, _⟩
  exact ⟨he, fun may => hs.kept (Owned.empty ρ) may⟩

end Go.AM
