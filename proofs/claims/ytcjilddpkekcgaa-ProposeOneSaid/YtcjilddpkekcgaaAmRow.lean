/-
  THE MACHINE 'AM': the step from a run of a law to the row's contract, where the machine looks into no argument: each argument is one cell or a row of cells.
-/
import Derived.Test.YtcjilddpkekcgaaAmLaw
import Derived.WideKeyArgs
import Derived.ChangeAt
import Derived.Handed
import Derived.RowKit
import Derived.OpenShut
namespace Go.AM
variable {P : Program}

/-! ### Arguments that are not looked into -/
/-- One cell, or so many. -/
inductive Shp where
  | one
  | agg (n : Nat)

def Shp.size : Shp → Nat
  | .one => 1
  | .agg n => n

def shpArgs : List Shp → Nat → List AV
  | [], _ => []
  | .one :: l, i => .opq i :: shpArgs l (i + 1)
  | .agg n :: l, i => .agg (opqs n i) :: shpArgs l (i + n)

def ShpOf : Shp → Value → Prop
  | .one, v => OneCell v
  | .agg n, v => ∃ cs, v = .agg cs ∧ cs.size = n ∧ ∀ c ∈ cs.toList, OneCell c

inductive ShpsOf : List Shp → List Value → Prop
  | nil : ShpsOf [] []
  | cons {s : Shp} {v : Value} {ss : List Shp} {vs : List Value} : ShpOf s v → ShpsOf ss vs → ShpsOf (s :: ss) (v :: vs)

/-- The cells of values, on end. -/
def cellsAll : List Value → List Value
  | [] => []
  | v :: l => v.cells.toList ++ cellsAll l

theorem ShpOf.cells {s : Shp} {v : Value} (h : ShpOf s v) : v.cells.size = s.size ∧ ∀ c ∈ v.cells.toList, OneCell c := by
  cases s with
  | one => have h' : OneCell v := h
           rw [h'.cells]; exact ⟨rfl, fun c hc => by simp at hc; subst hc; exact h'⟩
  | agg n => obtain ⟨cs, rfl, h2, h3⟩ := h; exact ⟨h2, h3⟩

theorem ShpsOf.one : ∀ {ss : List Shp} {vs : List Value}, ShpsOf ss vs → ∀ c ∈ cellsAll vs, OneCell c
  | _, _, .nil, c, hc => by cases hc
  | _, _, .cons h hs, c, hc => by
    simp only [cellsAll, List.mem_append] at hc
    rcases hc with hc | hc
    · exact h.cells.2 c hc
    · exact hs.one c hc

theorem VRs.opqs' {ρ : RM} {env : List Value} (he : ∀ i v, env[i]? = some v → ρ.env i = v) : ∀ (l : List Value) (i : Nat) (rest : List Value), env.drop i = l ++ rest → VRs ρ (Go.AM.opqs l.length i) l
  | [], _, _, _ => .nil
  | v :: l, i, rest, h => by
    have hi : env[i]? = some v := by rw [← List.head?_drop, h]; rfl
    refine .cons ?_ (VRs.opqs' he l (i + 1) rest (by rw [← List.tail_drop, h]; rfl))
    rw [← he i v hi]
    exact .opq i

theorem ShpsOf.rel {ρ : RM} {env : List Value} (he : ∀ i v, env[i]? = some v → ρ.env i = v) : ∀ {ss : List Shp} {vs : List Value}, ShpsOf ss vs → ∀ i, env.drop i = cellsAll vs → VRs ρ (shpArgs ss i) vs
  | _, _, .nil, _, _ => .nil
  | .one :: ss, v :: vs, .cons h hs, i, hd => by
    have h' : OneCell v := h
    simp only [cellsAll, h'.cells] at hd
    have hi : env[i]? = some v := by rw [← List.head?_drop, hd]; rfl
    refine .cons ?_ (hs.rel he (i + 1) (by rw [← List.tail_drop, hd]; rfl))
    rw [← he i v hi]
    exact .opq i
  | .agg n :: ss, v :: vs, .cons h hs, i, hd => by
    obtain ⟨cs, rfl, h2, h3⟩ := h
    simp only [cellsAll, Value.cells] at hd
    refine .cons ?_ (hs.rel he (i + n) ?_)
    · have := VRs.opqs' he cs.toList i _ hd
      rw [Array.length_toList, h2] at this
      exact .agg this
    · rw [← List.drop_drop, hd, List.drop_left' (by simpa using h2)]

/-- **A law whose arguments the machine does not look into.** -/
theorem law_shapes (hmix : P.follows .mixedOrders = true) {O : PT Orc} (hO : OrOK P O) {f : Nat} {ss : List Shp} (h : runLaw P O (Pos.ofNat f) (shpArgs ss 0) H.empty = .ok) (args : Array Value) (hs : ShpsOf ss args.toList) (w : World) :
    Calls P f args w fun e w' => e = .returned (.bool true) ∧ (∀ r, r < w.heap.size → w'.heap[r]? = w.heap[r]?) ∧ ∀ may, w.keptBut w' may := by
  have h1 := hs.one
  have hone : ∀ i, OneCell (envOf (cellsAll args.toList) i) := by
    intro i
    unfold envOf
    cases e : (cellsAll args.toList)[i]? with
    | none => exact ⟨rfl, fun cs h => by cases h⟩
    | some v => exact h1 v (List.mem_of_getElem? e)
  let ρ : RM := ⟨fun _ => none, envOf (cellsAll args.toList), fun i => ⟨(hone i).cells, (hone i).tup⟩, fun _ => none⟩
  have hv : VRs ρ (shpArgs ss 0) args.toList := hs.rel (env := cellsAll args.toList) (fun i v e => by show envOf (cellsAll args.toList) i = v; simp [envOf, e]) 0 rfl
  refine (runLaw_sound hmix hO h ρ w args (Rel.empty ρ (fun _ => rfl) w) hv).mono ?_
  rintro e w' ⟨he, ρ', A', hs', _⟩
  exact ⟨he, fun r hr => hs'.keep r hr (Owned.empty ρ r), fun may => hs'.kept (Owned.empty ρ) may⟩

/-! ### What the row knows of its arguments -/
theorem OneCell.of_okWide {w : World} {r : Reach} {base : Nat} {t : TypeId} {v : Value} (h : Cell.okWide P w r base t v) : OneCell v := by
  have ok : ∀ {v}, Cell.ok P w r base t v → OneCell v := by
    intro v h
    unfold Cell.ok at h
    split at h <;> first | exact ⟨rfl, fun cs e => by cases e⟩ | exact h.elim
  unfold Cell.okWide at h
  split at h <;> first | exact ⟨rfl, fun cs e => by cases e⟩ | exact ok h

def shpT (P : Program) (t : TypeId) : Shp :=
  match P.underlying t with
  | some (.struct _) | some (.array _ _) => .agg (P.cellsOf t)
  | _ => .one

theorem ShpOf.of_okWide {w : World} {r : Reach} {base : Nat} {t : TypeId} {v : Value} (h : Value.okWide P w r base t v) : ShpOf (shpT P t) v := by
  have row : (∃ cs, v = .agg cs ∧ cs.size = P.cellsOf t ∧ Row.okWide P w r base t cs) → ShpOf (.agg (P.cellsOf t)) v := by
    rintro ⟨cs, rfl, h2, ts, h3, _, h5⟩
    refine ⟨cs, rfl, h2, fun c hc => ?_⟩
    obtain ⟨i, hi, rfl⟩ := List.mem_iff_getElem.1 hc
    obtain ⟨u, _, h6⟩ := h5 i cs[i] (by simp at hi; simp [hi])
    exact .of_okWide h6
  unfold Value.okWide at h
  unfold shpT
  split at h
  · rename_i hu; rw [hu]; exact row h
  · rename_i hu; rw [hu]; exact row h
  · rename_i h1 h2
    split
    · rename_i fs hu; exact absurd hu (h1 fs)
    · rename_i n e hu; exact absurd hu (h2 n e)
    · exact OneCell.of_okWide h

theorem ShpsOf.of_okWide {w : World} {r : Reach} {base : Nat} : ∀ {ts : List TypeId} {vs : List Value}, vs.length = ts.length → (∀ (j : Nat) t v, ts[j]? = some t → vs[j]? = some v → Value.okWide P w r base t v) → ShpsOf (ts.map (shpT P)) vs
  | [], [], _, _ => .nil
  | [], _ :: _, h, _ => by simp at h
  | _ :: _, [], h, _ => by simp at h
  | t :: ts, v :: vs, h, hv => .cons (.of_okWide (hv 0 t v rfl rfl)) (ShpsOf.of_okWide (by simpa using h) fun j t' v' a b => hv (j + 1) t' v' (by simpa using a) (by simpa using b))

section
variable {H : Type} {enc : TypeId × Value → H}

theorem trodAll_len {w : World} {base : Nat} {spare : Nat → Bool} {held : Bool} : ∀ {ts : List TypeId} {vs : List Value} {ds : List (DataW H)} {ps : List MemPlace}, DataW.TrodAll enc P w base spare held ts vs ds ps → vs.length = ts.length ∧ ds.length = ts.length
  | [], [], [], _, _ => ⟨rfl, rfl⟩
  | _ :: _, _ :: _, _ :: _, _, ⟨_, _, _, hs, _⟩ => by
    obtain ⟨h1, h2⟩ := trodAll_len hs
    exact ⟨by simp [h1], by simp [h2]⟩

theorem trodAll_same (hl : laidOutB P = true) {W W' : World} {sp' : Nat → Bool} : ∀ {ts : List TypeId} {vs : List Value} {ds : List (DataW H)} {ps : List MemPlace}, ts.all (fun t => P.readableRec t && Nat.blt t P.types.size) = true →
    DataW.TrodAll enc P W 0 (fun _ => true) true ts vs ds ps → (∀ p ∈ ps, W.sameAt W' p) → (∀ p ∈ ps, sp' p.block = true) → DataW.TrodAll enc P W' 0 sp' true ts vs ds ps
  | [], [], [], _, _, h, _, _ => h
  | t :: ts, v :: vs, d :: ds, _, hts, ⟨p, q, h, hs, e⟩, hsame, hsp => by
    simp only [List.all_cons, Bool.and_eq_true] at hts
    subst e
    refine ⟨p, q, Go.WideElems.Trod_stays hl hts.1.1 ((blt_iff _ _).1 hts.1.2) h (fun x hx => hsame x (List.mem_append_left _ hx)) (fun x hx => hsp x (List.mem_append_left _ hx)), ?_, rfl⟩
    exact trodAll_same hl hts.2 hs (fun x hx => hsame x (List.mem_append_right _ hx)) (fun x hx => hsp x (List.mem_append_right _ hx))

theorem sameAt_of_heap {W W' : World} (hs : ∀ r, r < W.heap.size → W'.heap[r]? = W.heap[r]?) {p : MemPlace} (hp : p.block < W.heap.size) : W.sameAt W' p := by
  cases p with
  | cell b off =>
    show W'.cell? ⟨b, off, none⟩ = W.cell? ⟨b, off, none⟩
    have : W'.heap[b]? = W.heap[b]? := hs b hp
    simp only [World.cell?, this]
  | map b => exact hs b hp

/-- **True, and all as it was: what the row asks behind the call.** -/
theorem post_true {f : Func} {s : ChangeSpec} {W W' : World} {args : Array Value} {ds gs : List (DataW H)} {before : List MemPlace} (hl : laidOutB P = true)
    (hts : f.params.toList.all (fun t => P.readableRec t && Nat.blt t P.types.size) = true) (hvars : s.vars = []) {tb : TypeId} (hres : f.resultTypes = #[tb]) (htb : P.underlying tb = some .bool)
    (hW : DataW.Whole enc P f.params.toList s.vars false W args.toList ds gs before) (hfn : (s.fn H (ds ++ gs)).results = [.lit (.bool true)] ∧ (s.fn H (ds ++ gs)).args = ds ∧ (s.fn H (ds ++ gs)).vars = [])
    (hs : ∀ r, r < W.heap.size → W'.heap[r]? = W.heap[r]?) (hk : ∀ may, W.keptBut W' may) : s.post enc P f false true false false W args (.bool true) W' := by
  have hlt := hW.lt
  have hW' := hW
  obtain ⟨p, q, hA, hV, rfl, _, _⟩ := hW
  rw [hvars] at hV
  obtain ⟨rfl, rfl⟩ := Go.ChangeShapes.trodVars_none hV
  refine ⟨ds, [], p ++ [], [], p, [], hW', ?_, ?_, ?_, hk _, fun h => by cases h⟩
  · rw [hfn.1, hres]
    exact Go.ChangeShapes.trodAll_mk1 (Go.RowKit.shut_bool htb true)
  · rw [hfn.2.1]
    exact trodAll_same hl hts hA (fun x hx => sameAt_of_heap hs (hlt x (by simpa using hx))) (fun x hx => by simpa using hlt x (by simpa using hx))
  · rw [hfn.2.2, hvars]; rfl

end
end Go.AM
