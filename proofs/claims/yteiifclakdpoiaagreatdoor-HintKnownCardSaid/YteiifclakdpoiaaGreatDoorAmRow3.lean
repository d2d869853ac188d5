/-
  THE MACHINE 'AM': laws whose first argument is a struct of which the lengths of some slices matter: from there to there.
-/
import Derived.Test.YteiifclakdpoiaaGreatDoorAmRow2
namespace Go.AM
variable {P : Program}

/-- A cell of an argument: not looked into, or a slice that is so long. -/
inductive ACell where
  | q
  | s (lo : Nat) (hi : Option Nat)

def acells : List ACell → Nat → List AV
  | [], _ => []
  | .q :: l, i => .opq i :: acells l (i + 1)
  | .s lo hi :: l, i => .osl lo hi :: acells l (i + 1)

/-- Does a value fit the cell? -/
def ACell.fits : ACell → Value → Prop
  | .q, _ => True
  | .s lo hi, v => ∃ a n c, v = .slice a n c ∧ lo ≤ n ∧ ∀ h, hi = some h → n ≤ h

/-- Do all fit? -/
def Fits (l : List ACell) (cs : Array Value) : Prop := ∀ (j : Nat) (c : ACell) (v : Value), l[j]? = some c → cs[j]? = some v → c.fits v
theorem Fits.none (n : Nat) (cs : Array Value) : Fits (List.replicate n .q) cs := by
  intro j c v h _
  rw [List.getElem?_replicate] at h
  split at h
  · cases h; trivial
  · cases h
theorem Fits.set {l : List ACell} {cs : Array Value} (h : Fits l cs) {i : Nat} {a : Option Addr} {n c lo : Nat} {hi : Option Nat} (hc : cs[i]? = some (.slice a n c)) (h1 : lo ≤ n) (h2 : ∀ h, hi = some h → n ≤ h) : Fits (l.set i (.s lo hi)) cs := by
  intro j d v hj hv
  by_cases hij : i = j
  · subst hij
    rw [hc] at hv; cases hv
    have hlt : i < l.length := by
      have := (List.getElem?_eq_some_iff.1 hj).1
      simpa using this
    rw [List.getElem?_set_self hlt] at hj
    cases hj
    exact ⟨a, n, c, rfl, h1, h2⟩
  · rw [List.getElem?_set_ne hij] at hj
    exact h j d v hj hv

theorem VRs.acells {ρ : RM} {env : List Value} (he : ∀ i v, env[i]? = some v → ρ.env i = v) : ∀ (cs : List ACell) (l : List Value) (i : Nat) (rest : List Value), env.drop i = l ++ rest → cs.length = l.length → (∀ (j : Nat) (c : ACell) (v : Value), cs[j]? = some c → l[j]? = some v → c.fits v) → VRs ρ (Go.AM.acells cs i) l
  | [], [], _, _, _, _, _ => .nil
  | [], _ :: _, _, _, _, h, _ => by simp at h
  | _ :: _, [], _, _, _, h, _ => by simp at h
  | c :: cs, v :: l, i, rest, h, hl, hf => by
    have hi : env[i]? = some v := by rw [← List.head?_drop, h]; rfl
    have ht := VRs.acells he cs l (i + 1) rest (by rw [← List.tail_drop, h]; rfl) (by simpa using hl) fun j c' v' a b => hf (j + 1) c' v' (by simpa using a) (by simpa using b)
    cases c with
    | q => refine .cons ?_ ht; rw [← he i v hi]; exact .opq i
    | s lo hi =>
      obtain ⟨a, n, c, rfl, h1, h2⟩ := hf 0 _ _ rfl rfl
      exact .cons (.osl h1 h2) ht

def acArgs (cells : List ACell) (ss : List Shp) : List AV := .agg (acells cells 0) :: shpArgs ss cells.length

theorem law_first (hmix : P.follows .mixedOrders = true) {O : PT Orc} (hO : OrOK P O) {f ng : Nat} {gs : List GV} {cells : List ACell} {ss : List Shp} (h : runLaw P O (Pos.ofNat f) (acArgs cells ss) (heapOf ng gs) = .ok)
    {args : Array Value} {cs : Array Value} {rest : List Value} (hargs : args.toList = .agg cs :: rest) (hlen : cells.length = cs.size) (h1 : ∀ c ∈ cs.toList, OneCell c) (hfit : Fits cells cs)
    (hrest : ShpsOf ss rest) (w : World) (hw : GVs ng gs w) :
    Calls P f args w fun e w' => e = .returned (.bool true) ∧ (∀ r, r < w.heap.size → w'.heap[r]? = w.heap[r]?) ∧ ∀ may, w.keptBut w' may := by
  have hone : ∀ i, OneCell (envOf (cs.toList ++ cellsAll rest) i) := by
    intro i
    unfold envOf
    cases e : (cs.toList ++ cellsAll rest)[i]? with
    | none => exact ⟨rfl, fun cs h => by cases h⟩
    | some v =>
      rcases List.mem_append.1 (List.mem_of_getElem? e) with hm | hm
      · exact h1 v hm
      · exact hrest.one v hm
  let ρ : RM := ⟨fun p => if p.idx < ng then some ⟨p.idx, 0, 0⟩ else none, envOf (cs.toList ++ cellsAll rest), fun i => ⟨(hone i).cells, (hone i).tup⟩⟩
  have he : ∀ i v, (cs.toList ++ cellsAll rest)[i]? = some v → ρ.env i = v := fun i v e => by show envOf (cs.toList ++ cellsAll rest) i = v; simp only [envOf, e]; rfl
  have hv : VRs ρ (acArgs cells ss) args.toList := by
    rw [hargs]
    refine .cons (.agg (VRs.acells he cells cs.toList 0 (cellsAll rest) rfl (by simpa using hlen) fun j c v a b => hfit j c v a (by simpa using b))) ?_
    exact hrest.rel he cells.length (by rw [hlen, ← Array.length_toList, List.drop_left])
  refine (runLaw_sound hmix hO h ρ w args (Rel.glob0 rfl hw) hv).mono ?_
  rintro e w' ⟨he, ρ', A', hs', _⟩
  exact ⟨he, fun r hr => hs'.keep r hr (Owned.glob0 r), fun may => hs'.kept Owned.glob0 may⟩

/-- A cell of a slice's type holds a slice. -/
theorem cell_slice {w : World} {r : Reach} {base : Nat} {t e : TypeId} {v : Value} (ht : P.underlying t = some (.slice e)) (h : Cell.okWide P w r base t v) : ∃ a n c, v = .slice a n c := by
  unfold Cell.okWide at h
  rw [ht] at h
  cases v <;> simp [Cell.ok, ht] at h
  exact ⟨_, _, _, rfl⟩

/-- What the row knows of a struct argument's cells. -/
theorem row_slice {w : World} {r : Reach} {base : Nat} {t : TypeId} {cs : Array Value} {ts : List TypeId} (hts : P.cellTypes P.depth t = some ts) (h : Row.okWide P w r base t cs) (hsz : cs.size = ts.length) {i : Nat} {u e : TypeId} (hi : ts[i]? = some u) (hu : P.underlying u = some (.slice e)) :
    ∃ a n c, cs[i]? = some (.slice a n c) := by
  obtain ⟨_, h1, _, h3⟩ := h
  rw [hts, Option.some.injEq] at h1; subst h1
  have hlt : i < ts.length := (List.getElem?_eq_some_iff.1 hi).1
  have hci : i < cs.size := by omega
  obtain ⟨u', h4, h5⟩ := h3 i cs[i] (by simp [hci])
  rw [Nat.mod_eq_of_lt hlt, hi, Option.some.injEq] at h4; subst h4
  obtain ⟨a, n, c, e⟩ := cell_slice hu h5
  exact ⟨a, n, c, by rw [← e]; simp [hci]⟩

end Go.AM
