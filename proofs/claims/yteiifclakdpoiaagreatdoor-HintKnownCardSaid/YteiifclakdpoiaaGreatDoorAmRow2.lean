/-
  THE MACHINE 'AM': the step from a run of a law to the row's contract, where the row lists package variables that are arrays of integers: they stand in the machine's first places.
-/
import Derived.Test.YteiifclakdpoiaaGreatDoorAmRow
import Derived.LaidMore
namespace Go.AM
variable {P : Program}

/-- A package variable that is an array of integers: its number, their kind, the integers. -/
structure GV where
  g : Nat
  k : IntKind
  ns : List Int

def GV.cells (x : GV) : List AV := x.ns.map fun n => .int x.k n

/-- The machine's heap where so many package variables stand, of which some are known. -/
noncomputable def heapOf (ng : Nat) (gs : List GV) : H := ⟨Pos.ofNat ng, gs.foldr (fun x t => PT.put (some (.cells x.cells 1 true)) (Pos.ofNat x.g) t) .leaf, ng, false⟩

theorem heapOf_get {ng : Nat} : ∀ {gs : List GV} {p : Pos} {o : HObj}, (heapOf ng gs).t.get p = some o → ∃ x ∈ gs, p = Pos.ofNat x.g ∧ o = .cells x.cells 1 true
  | [], p, o, h => by simp [heapOf, PT.get_leaf] at h
  | x :: gs, p, o, h => by
    simp only [heapOf, List.foldr_cons, PT.get_put] at h
    by_cases hp : p = Pos.ofNat x.g
    · simp [hp] at h; exact ⟨x, by simp, hp, h.symm⟩
    · rw [if_neg hp] at h
      obtain ⟨y, hy, e1, e2⟩ := heapOf_get (ng := ng) (gs := gs) h
      exact ⟨y, by simp [hy], e1, e2⟩

/-- The world holds what the machine's heap says of the package variables. -/
def GVs (ng : Nat) (gs : List GV) (w : World) : Prop := ng ≤ w.heap.size ∧ ∀ x ∈ gs, x.g < ng ∧ ∃ c t fz, w.heap[x.g]? = some (.cells c t fz) ∧ c.toList = x.ns.map (Value.int x.k)

theorem Rel.glob0 {ρ : RM} {ng : Nat} {gs : List GV} {w : World} (hρ : ρ.m = fun p => if p.idx < ng then some ⟨p.idx, 0, 0⟩ else none) (hw : GVs ng gs w) : Rel ρ (heapOf ng gs) w := by
  have hm : ∀ p rb, ρ.m p = some rb → p.idx < ng ∧ rb = ⟨p.idx, 0, 0⟩ := by
    intro p rb h
    rw [hρ] at h
    simp only at h
    split at h
    · rename_i hlt; simp only [Option.some.injEq] at h; exact ⟨hlt, h.symm⟩
    · cases h
  refine ⟨fun p o rb e er => ?_, fun p q o o' rb rb' e e' er er' hb => ?_, fun p rb er => ?_, fun p o e => ?_, fun g hg => ?_⟩
  · obtain ⟨x, hx, rfl, rfl⟩ := heapOf_get e
    obtain ⟨_, rfl⟩ := hm _ _ er
    obtain ⟨_, c, t, fz, hc, hl⟩ := hw.2 x hx
    simp only [Pos.idx_ofNat]
    refine ⟨c, t, fz, hc, ?_, fun i v hv => ?_, fun h => by cases h⟩
    · have : c.size = x.ns.length := by rw [← Array.length_toList, hl, List.length_map]
      simp only [GV.cells, List.length_map]; omega
    · simp only [GV.cells, List.getElem?_map] at hv
      cases hn : x.ns[i]? with
      | none => simp [hn] at hv
      | some n =>
        simp only [hn, Option.map_some, Option.some.injEq] at hv; subst hv
        refine ⟨.int x.k n, ?_, .int _ _⟩
        rw [Nat.zero_add, ← Array.getElem?_toList, hl, List.getElem?_map, hn]; rfl
  · obtain ⟨_, rfl⟩ := hm _ _ er
    obtain ⟨_, rfl⟩ := hm _ _ er'
    exact .inl (Pos.idx_inj hb)
  · obtain ⟨hlt, rfl⟩ := hm _ _ er
    refine ⟨by show p.idx < (Pos.ofNat ng).idx; rw [Pos.idx_ofNat]; exact hlt, Nat.lt_of_lt_of_le hlt hw.1⟩
  · obtain ⟨x, hx, rfl, rfl⟩ := heapOf_get e
    show (Pos.ofNat x.g).idx < (Pos.ofNat ng).idx
    rw [Pos.idx_ofNat, Pos.idx_ofNat]; exact (hw.2 x hx).1
  · have hg' : g < ng := hg
    rw [hρ]; simp [Pos.idx_ofNat, hg']

theorem Owned.glob0 {ρ : RM} {ng : Nat} {gs : List GV} (r : Nat) : ¬ Owned ρ (heapOf ng gs) r := by
  rintro ⟨p, o, rb, e, ho, _⟩
  obtain ⟨x, _, _, rfl⟩ := heapOf_get e
  cases ho

/-- **A law whose arguments the machine does not look into, over package variables that are known.** -/
theorem law_glob (hmix : P.follows .mixedOrders = true) {O : PT Orc} (hO : OrOK P O) {f ng : Nat} {gs : List GV} {ss : List Shp} (h : runLaw P O (Pos.ofNat f) (shpArgs ss 0) (heapOf ng gs) = .ok) (args : Array Value) (hs : ShpsOf ss args.toList) (w : World) (hw : GVs ng gs w) :
    Calls P f args w fun e w' => e = .returned (.bool true) ∧ (∀ r, r < w.heap.size → w'.heap[r]? = w.heap[r]?) ∧ ∀ may, w.keptBut w' may := by
  have h1 := hs.one
  have hone : ∀ i, OneCell (envOf (cellsAll args.toList) i) := by
    intro i
    unfold envOf
    cases e : (cellsAll args.toList)[i]? with
    | none => exact ⟨rfl, fun cs h => by cases h⟩
    | some v => exact h1 v (List.mem_of_getElem? e)
  let ρ : RM := ⟨fun p => if p.idx < ng then some ⟨p.idx, 0, 0⟩ else none, envOf (cellsAll args.toList), fun i => ⟨(hone i).cells, (hone i).tup⟩⟩
  have hv : VRs ρ (shpArgs ss 0) args.toList := hs.rel (env := cellsAll args.toList) (fun i v e => by show envOf (cellsAll args.toList) i = v; simp [envOf, e]) 0 rfl
  refine (runLaw_sound hmix hO h ρ w args (Rel.glob0 rfl hw) hv).mono ?_
  rintro e w' ⟨he, ρ', A', hs', _⟩
  exact ⟨he, fun r hr => hs'.keep r hr (Owned.glob0 r), fun may => hs'.kept Owned.glob0 may⟩

/-! ### What the row knows of its listed variables -/
theorem trod_ints {H' : Type} {enc : TypeId × Value → H'} {w : World} {base : Nat} {spare : Nat → Bool} {held : Bool} {fuel : Nat} {t e : TypeId} {n : Nat} {k : IntKind} {cs : List Value} {ns : List Int} {p : List MemPlace}
    (ht : P.underlying t = some (.array n e)) (he : P.underlying e = some (.int k)) (hce : P.cellsOf e = 1) (hct : P.cellsOf t = n)
    (h : DataW.trod enc P w base spare held fuel t cs = some (.agg (ns.map fun m => .lit (.int k m)), p)) : cs = ns.map (Value.int k) := by
  obtain ⟨xs, m, _, hx, hlen, hn, hel⟩ := DataW.trod_array ht h
  simp only [Prod.mk.injEq, DataW.agg.injEq] at hx
  have hns : ns.length = n := by have := congrArg List.length hx.1; simp at this; omega
  apply List.ext_getElem?
  intro i
  by_cases hi : i < n
  · have h1 := hel i hi
    rw [hce, Nat.mul_one] at h1
    have hix : i < xs.length := by omega
    rw [List.getElem?_eq_getElem hix] at h1
    obtain ⟨n', e1, e2, _⟩ := DataW.trod_int he h1
    have hic : i < cs.length := by omega
    have hc : cs[i]? = some (.int k n') := by
      have := congrArg (fun l => l[0]?) e1
      simpa [List.getElem?_take, List.getElem?_drop] using this
    have hd : (ns.map fun m => (DataW.lit (.int k m) : DataW H'))[i]? = (xs.map (·.1))[i]? := by rw [hx.1]
    have hin : i < ns.length := by omega
    rw [List.getElem?_map, List.getElem?_map, List.getElem?_eq_getElem hix, List.getElem?_eq_getElem hin, e2] at hd
    simp only [Option.map_some, Option.some.injEq, DataW.lit.injEq, Lit.int.injEq, true_and] at hd
    rw [hc, List.getElem?_map, List.getElem?_eq_getElem hin, hd]; rfl
  · rw [List.getElem?_eq_none (by omega), List.getElem?_eq_none (by simp; omega)]

theorem laid_at {w : World} : ∀ {laid : List (String × DataW Unit)} {ps : List MemPlace}, DataW.LaidVars P w laid ps → ∀ {n : String} {d : DataW Unit}, (n, d) ∈ laid →
    ∃ g t cs fuel p, P.globalNamed n = some g ∧ (P.globals[g]?).map (·.type) = some t ∧ w.var? P n = some cs ∧ DataW.trod (fun _ => ()) P w 0 (fun _ => true) false fuel t cs.toList = some (d, p)
  | [], _, _, _, _, hn => by cases hn
  | (m, d0) :: r, ps, h, n, d, hn => by
    obtain ⟨g, t, cs, fuel, p, q, h1, h2, h3, h4, h5, _⟩ := h
    rcases List.mem_cons.1 hn with e | e
    · cases e; exact ⟨g, t, cs, fuel, p, h1, h2, h3, h4⟩
    · exact laid_at h5 e

/-- One listed array of integers. -/
theorem laid_ints {w : World} {laid : List (String × DataW Unit)} (hl : laidMet P laid w) {name : String} {g : Nat} {t e : TypeId} {n : Nat} {k : IntKind} {ns : List Int} (hn : (name, .agg (ns.map fun m => .lit (.int k m))) ∈ laid)
    (hg : P.globalNamed name = some g) (hgt : (P.globals[g]?).map (·.type) = some t) (ht : P.underlying t = some (.array n e)) (he : P.underlying e = some (.int k)) (hce : P.cellsOf e = 1) (hct : P.cellsOf t = n) :
    ∃ c t fz, w.heap[g]? = some (.cells c t fz) ∧ c.toList = ns.map (Value.int k) := by
  obtain ⟨ps, hv, _⟩ := hl
  obtain ⟨g', t', cs, fuel, p, h1, h2, h3, h4⟩ := laid_at hv hn
  rw [hg] at h1; cases h1
  rw [hgt] at h2; cases h2
  have hcs := trod_ints ht he hce hct h4
  simp only [World.var?, hg, Option.bind_some] at h3
  split at h3
  · rename_i c0 t0 fz0 hh
    simp only [Option.some.injEq] at h3; subst h3
    exact ⟨_, _, _, hh, hcs⟩
  · cases h3

end Go.AM
