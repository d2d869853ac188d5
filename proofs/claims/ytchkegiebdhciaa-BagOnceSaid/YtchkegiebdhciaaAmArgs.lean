/-
  THE MACHINE 'AM': a law's arguments that are rows of texts, numbers or Booleans, as a heap of the machine's; and what is known of a law's call, as the model's sentence.
-/
import Derived.Test.YtchkegiebdhciaaAmRow
import Derived.Test.YtchkegiebdhciaaAmSym5
import Derived.SliceStrings
import Derived.ChangeSlices
namespace Go.AM
open Go.ChangeShapes Go.WideShapes
variable {P : Program}

/-- A call of which it is known that it returns true, and that owns nothing of what was there. -/
theorem FunOK.calls {f : Nat} {fn : Func} {c : Code} (hf : P.funcs[f]? = some fn) (hb : fn.body = some c) (hname : (fn.name == "runtime.NumGoroutine") = false) {args : List AV} {A A' : H} (h : FunOK P f args A (.bool true) A')
    {ρ : RM} {w : World} {args' : Array Value} (hr : Rel ρ A w) (hn : ∀ r, ¬ Owned ρ A r) (ha : VRs ρ args args'.toList) :
    Calls P f args' w fun e w' => e = .returned (.bool true) ∧ (∀ r, r < w.heap.size → w'.heap[r]? = w.heap[r]?) ∧ ∀ may, w.keptBut w' may := by
  have he : (callFunc f args').run P w = .ok (.enter f args') w := by
    simp [callFunc, hf, hb]; simpa using hname
  rcases h ρ w args' hr ha with ⟨g, as, h1, h2⟩ | ⟨_, _, _, _, _, _, h4⟩ | ⟨_, _, _, _, _, h1, _⟩
  · rw [he] at h1
    injection h1 with h1
    injection h1 with h3 h4
    subst h3 h4
    refine (callsIn_wide.1 (h2 0)).mono ?_
    rintro e w' ⟨ρ', v', rfl, hs, hr', hvv⟩
    cases hvv
    exact ⟨rfl, fun r hr => hs.keep r hr (hn r), fun may => hs.kept hn may⟩
  · rw [he] at h4; injection h4 with h4; cases h4
  · rw [he] at h1; injection h1 with h1; cases h1

/-! ### Rows that are read alone -/
/-- The row lies in the world there. -/
structure RowIn (w : World) (rb : RB) (l : List AV) : Prop where
  blk : rb.blk < w.heap.size
  rel : ∀ ρ, ORel ρ (.cells l 1 true) rb w
def RowsAre (w : World) : List (RB × List AV) → Prop
  | [] => True
  | x :: R => RowIn w x.1 x.2 ∧ RowsAre w R
theorem RowsAre.get {w : World} : ∀ {R : List (RB × List AV)}, RowsAre w R → ∀ (i : Nat) x, R[i]? = some x → RowIn w x.1 x.2
  | [], _, i, x, h => by simp at h
  | y :: R, hR, 0, x, h => by simp at h; subst h; exact hR.1
  | y :: R, hR, i + 1, x, h => RowsAre.get (R := R) hR.2 i x (by simpa using h)
theorem RowsAre.app {w : World} : ∀ {R S : List (RB × List AV)}, RowsAre w R → RowsAre w S → RowsAre w (R ++ S)
  | [], _, _, h => h
  | _ :: _, _, h, h' => ⟨h.1, RowsAre.app h.2 h'⟩

/-- The heap of such rows. -/
def rowsH (R : List (RB × List AV)) : HL := R.map fun x => some (.cells x.2 1 true)
noncomputable def rowsM (R : List (RB × List AV)) : RM := ⟨fun p => (R[p.idx]?).map (·.1), fun _ => .nilIface, fun _ => ⟨rfl, fun cs h => by cases h⟩⟩

theorem rowsH_get {R : List (RB × List AV)} {i : Nat} {o : HObj} (h : (rowsH R)[i]? = some (some o)) : ∃ x, R[i]? = some x ∧ o = .cells x.2 1 true := by
  unfold rowsH at h
  rw [List.getElem?_map] at h
  cases hx : R[i]? with
  | none => rw [hx] at h; cases h
  | some x => rw [hx] at h; simp at h; exact ⟨x, rfl, h.symm⟩

theorem rows_rel {w : World} {R : List (RB × List AV)} (hR : RowsAre w R) : Rel (rowsM R) (mkH (rowsH R)) w where
  obj p o rb e er := by
    obtain ⟨x, hx, rfl⟩ := rowsH_get (mkH_some e)
    have er' : (R[p.idx]?).map (·.1) = some rb := er
    rw [hx] at er'
    simp at er'
    subst er'
    exact (hR.get _ _ hx).rel _
  inj p q o o' rb rb' e e' _ _ _ := by
    obtain ⟨x, _, rfl⟩ := rowsH_get (mkH_some e)
    obtain ⟨y, _, rfl⟩ := rowsH_get (mkH_some e')
    exact .inr ⟨rfl, rfl⟩
  dom p rb er := by
    have er' : (R[p.idx]?).map (·.1) = some rb := er
    cases hx : R[p.idx]? with
    | none => rw [hx] at er'; cases er'
    | some x =>
      rw [hx] at er'
      simp at er'
      subst er'
      refine ⟨?_, (hR.get _ _ hx).blk⟩
      rw [mkH_next, rowsH, List.length_map]
      exact (List.getElem?_eq_some_iff.1 hx).1
  ids p o e := by rw [mkH_next]; exact (List.getElem?_eq_some_iff.1 (mkH_some e)).1
  glob g hg := absurd hg (Nat.not_lt_zero _)
theorem rows_free {R : List (RB × List AV)} (r : Nat) : ¬ Owned (rowsM R) (mkH (rowsH R)) r := by
  rintro ⟨p, o, rb, e, hro, _, _⟩
  obtain ⟨x, _, rfl⟩ := rowsH_get (mkH_some e)
  cases hro

/-! ### A slice among the arguments -/
/-- A slice's row, of which each cell is known. -/
theorem row_in {w : World} {a : Addr} {len cap : Nat} {l : List AV} {e : TypeId} (hhas : w.has P .any 0 a e cap) (hl : len ≤ cap) (hll : l.length = len) {vs : Nat → Value} (hcell : ∀ i, i < cap → w.cell? (a.add i) = some (vs i)) (hv : ∀ i v ρ, l[i]? = some v → VR ρ v (vs i)) :
    ∃ rb : RB, rb.extra = cap - len ∧ a = ⟨rb.blk, a.off, none⟩ ∧ (cap = 0 ∨ a.off = rb.shift) ∧ RowIn w rb l := by
  obtain ⟨_, hsp, row, cells, hsh, _⟩ := hhas
  obtain ⟨blk, off, spot⟩ := a
  have hsp' : spot = none := hsp
  subst hsp'
  have hob : ∃ c t fz, w.heap[blk]? = some (.cells c t fz) := by
    unfold World.shape? at hsh
    split at hsh
    · rename_i c t fz hc; exact ⟨_, _, _, hc⟩
    · cases hsh
  obtain ⟨c, t, fz, hob⟩ := hob
  have hlt : blk < w.heap.size := (Array.getElem?_eq_some_iff.1 hob).1
  have hc : ∀ i, i < cap → c[off + i]? = some (vs i) := by
    intro i hi
    have := hcell i hi
    have ea : (⟨blk, off, none⟩ : Addr).add i = ⟨blk, off + i, none⟩ := by
      unfold Addr.add
      split
      · rename_i h0; subst h0; rfl
      · rfl
    rw [ea] at this
    simpa [World.cell?, hob] using this
  by_cases h0 : cap = 0
  · refine ⟨⟨blk, 0, 0⟩, by show 0 = cap - len; omega, rfl, .inl h0, hlt, fun ρ => ⟨c, t, fz, hob, ?_, fun i v hi => ?_, fun h => by cases h⟩⟩
    · show 0 + l.length + 0 * 1 ≤ c.size; omega
    · have := (List.getElem?_eq_some_iff.1 hi).1; omega
  · refine ⟨⟨blk, off, cap - len⟩, rfl, rfl, .inr rfl, hlt, fun ρ => ⟨c, t, fz, hob, ?_, fun i v hi => ⟨vs i, hc i ?_, hv i v ρ hi⟩, fun h => by cases h⟩⟩
    · have := (Array.getElem?_eq_some_iff.1 (hc (cap - 1) (by omega))).1
      show off + l.length + (cap - len) * 1 ≤ c.size
      omega
    · have := (List.getElem?_eq_some_iff.1 hi).1; omega

theorem VR.row {a : Addr} {len cap : Nat} {l : List AV} {rb : RB} (hll : l.length = len) (hl : len ≤ cap) (h1 : rb.extra = cap - len) (h2 : a = ⟨rb.blk, a.off, none⟩) (h3 : cap = 0 ∨ a.off = rb.shift) {ρ : RM} {p : Pos} (hp : ρ.m p = some rb) :
    VR ρ (.slice p 0 l.length l.length true) (.slice (some a) len cap) := by
  subst hll
  rw [h2]
  exact .slice hp (by rw [if_pos rfl, h1]; omega) (by rw [Nat.add_zero]; exact h3) (Nat.le_refl _)

theorem okWide_has {w : World} {t e : TypeId} {a : Addr} {len cap : Nat} (ht : P.underlying t = some (.slice e)) (h : Value.okWide P w .any 0 t (.slice (some a) len cap)) : w.has P .any 0 a e cap := by
  simp only [Value.okWide, ht, Cell.okWide, Cell.ok] at h
  exact h.2.2

section
variable {H : Type} {enc : TypeId × Value → H}
/-- A slice of texts. -/
theorem slice_strs {w : World} {t e : TypeId} {v : Value} {d : DataW H} {ps : List MemPlace} (ht : P.underlying t = some (.slice e)) (he : P.underlying e = some .string) (hc : P.cellsOf e = 1) (hok : Value.okWide P w .any 0 t v) (h : DataW.Trod enc P w 0 (fun _ => true) true t v d ps) (i : Nat) :
    (v = .slice none 0 0) ∨ ∃ (l : List (List Nat)) (rb : RB), RowIn w rb (strs l) ∧ ∀ ρ : RM, ρ.m (.ofNat i) = some rb → VR ρ (.slice (.ofNat i) 0 l.length l.length true) v := by
  obtain ⟨a0, len0, cap0, rfl⟩ := okWide_slice ht hok
  obtain ⟨fuel, hf⟩ := h
  rcases open_strings ht he hc hf with ⟨hcs, _⟩ | ⟨a, len, cap, ss, hcs, _, hl, hm, hz, _, hcell, _⟩
  · left; simpa [Value.cells] using hcs
  · right
    have hv : Value.slice a0 len0 cap0 = .slice (some a) len cap := by simpa [Value.cells] using hcs
    rw [hv] at hok ⊢
    have hlen : ss.length = cap := by simpa using hz
    have hll : (strs ((ss.take len).map bytesOf)).length = len := by simp [strs_len]; omega
    obtain ⟨rb, h1, h2, h3, h4⟩ := row_in (l := strs ((ss.take len).map bytesOf)) (vs := fun i => .string (ss.getD i ByteArray.empty)) (okWide_has ht hok) hl hll (fun i hi => hcell i (by omega)) (by
      intro i v ρ hi
      rw [strs_get, List.getElem?_map] at hi
      have hi1 : i < (ss.take len).length := by
        cases hx : (ss.take len)[i]? with
        | none => rw [hx] at hi; cases hi
        | some x => exact (List.getElem?_eq_some_iff.1 hx).1
      have hi2 : i < ss.length := by simp at hi1; omega
      rw [List.getElem?_take_of_lt (by simp at hi1; omega), List.getElem?_eq_getElem hi2] at hi
      simp at hi
      subst hi
      rw [List.getD_eq_getElem?_getD, List.getElem?_eq_getElem hi2]
      exact .str _)
    refine ⟨(ss.take len).map bytesOf, rb, h4, fun ρ hρ => ?_⟩
    have := VR.row (a := a) (cap := cap) hll hl h1 h2 h3 hρ
    rwa [strs_len] at this
end
end Go.AM
