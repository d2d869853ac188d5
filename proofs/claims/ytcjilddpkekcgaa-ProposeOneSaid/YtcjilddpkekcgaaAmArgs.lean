/-
  THE MACHINE 'AM': a law's arguments that are rows of texts, numbers or Booleans, as a heap of the machine's; and what is known of a law's call, as the model's sentence.
-/
import Derived.Test.YtcjilddpkekcgaaAmRow
import Derived.Test.YtcjilddpkekcgaaAmSym5
import Derived.SliceStrings
import Derived.ChangeSlices
namespace Go.AM
open Go.ChangeShapes Go.WideShapes
variable {P : Program}

/-- A call of which it is known that it returns true, and that owns nothing of what was there. -/
theorem FunOK.calls {f : Nat} {fn : Func} {c : Code} (hf : P.funcs[f]? = some fn) (hb : fn.body = some c) (hname : (fn.name == "runtime.NumGoroutine") = false) {args : List AV} {A A' : H} (h : FunOK P f args A (.bool true) A')
    {ρ : RM} {w : World} {args' : Array Value} (hr : Rel ρ A w) (hn : ∀ r, ¬ Owned ρ A r) (ha : VRs ρ args args'.toList) :
    Calls P f args' w fun e w' => e = .returned (.bool true) ∧ (∀ r, r < w.heap.size → w'.heap[r]? = w.heap[r]?) ∧ ∀ may, w.keptBut w' may := by
  have he : (callFunc f args').run P w = .ok (.enter f args') w := by
    simp [callFunc, hf, hb]; simpa using hname
  rcases h ρ w args' hr ha with ⟨g, as, h1, h2⟩ | ⟨_, _, _, _, _, _, h4⟩ | ⟨_, _, _, _, _, h1, _⟩
  · rw [he] at h1
    injection h1 with h1
    injection h1 with h3 h4
    subst h3 h4
    refine (callsIn_wide.1 (h2 0)).mono ?_
    rintro e w' ⟨ρ', v', rfl, hs, hr', hvv⟩
    cases hvv
    exact ⟨rfl, fun r hr => hs.keep r hr (hn r), fun may => hs.kept hn may⟩
  · rw [he] at h4; injection h4 with h4; cases h4
  · rw [he] at h1; injection h1 with h1; cases h1

/-! ### Rows that are read alone -/
/-- The row lies in the world there. -/
structure RowIn (w : World) (rb : RB) (l : List AV) : Prop where
  blk : rb.blk < w.heap.size
  rel : ∀ ρ, ORel ρ (.cells l 1 true) rb w
def RowsAre (w : World) : List (RB × List AV) → Prop
  | [] => True
  | x :: R => RowIn w x.1 x.2 ∧ RowsAre w R
theorem RowsAre.get {w : World} : ∀ {R : List (RB × List AV)}, RowsAre w R → ∀ (i : Nat) x, R[i]? = some x → RowIn w x.1 x.2
  | [], _, i, x, h => by simp at h
  | y :: R, hR, 0, x, h => by simp at h; subst h; exact hR.1
  | y :: R, hR, i + 1, x, h => RowsAre.get (R := R) hR.2 i x (by simpa using h)
theorem RowsAre.app {w : World} : ∀ {R S : List (RB × List AV)}, RowsAre w R → RowsAre w S → RowsAre w (R ++ S)
  | [], _, _, h => h
  | _ :: _, _, h, h' => ⟨h.1, RowsAre.app h.2 h'⟩

/-- The heap of such rows. -/
def rowsH (R : List (RB × List AV)) : HL := R.map fun x => some (.cells x.2 1 true)
noncomputable def rowsM (R : List (RB × List AV)) : RM := ⟨fun p => (R[p.idx]?).map (·.1), fun _ => .nilIface, fun _ => ⟨rfl, fun cs h => by cases h⟩, fun _ => none⟩

theorem rowsH_get {R : List (RB × List AV)} {i : Nat} {o : HObj} (h : (rowsH R)[i]? = some (some o)) : ∃ x, R[i]? = some x ∧ o = .cells x.2 1 true := by
  unfold rowsH at h
  rw [List.getElem?_map] at h
  cases hx : R[i]? with
  | none => rw [hx] at h; cases h
  | some x => rw [hx] at h; simp at h; exact ⟨x, rfl, h.symm⟩

theorem rows_rel {w : World} {R : List (RB × List AV)} (hR : RowsAre w R) : Rel (rowsM R) (mkH (rowsH R)) w where
  obj p o rb e er := by
    obtain ⟨x, hx, rfl⟩ := rowsH_get (mkH_some e)
    have er' : (R[p.idx]?).map (·.1) = some rb := er
    rw [hx] at er'
    simp at er'
    subst er'
    exact (hR.get _ _ hx).rel _
  inj p q o o' rb rb' e e' _ _ _ := by
    obtain ⟨x, _, rfl⟩ := rowsH_get (mkH_some e)
    obtain ⟨y, _, rfl⟩ := rowsH_get (mkH_some e')
    exact .inr ⟨rfl, rfl⟩
  dom p rb er := by
    have er' : (R[p.idx]?).map (·.1) = some rb := er
    cases hx : R[p.idx]? with
    | none => rw [hx] at er'; cases er'
    | some x =>
      rw [hx] at er'
      simp at er'
      subst er'
      refine ⟨?_, (hR.get _ _ hx).blk⟩
      rw [mkH_next, rowsH, List.length_map]
      exact (List.getElem?_eq_some_iff.1 hx).1
  ids p o e := by rw [mkH_next]; exact (List.getElem?_eq_some_iff.1 (mkH_some e)).1
  glob g hg := absurd hg (Nat.not_lt_zero _)
  frz b c e := by cases e
/-- .. with places behind them where nothing lies. -/
def noneL (n : Nat) : HL := List.replicate n none
theorem pad_get (L : HL) (n : Nat) (q : Pos) : (mkH (L ++ noneL n)).t.get q = (mkH L).t.get q := by
  rw [mkH_get, mkH_get]
  by_cases h : q.idx < L.length
  · rw [List.getElem?_append_left h]
  · rw [List.getElem?_append_right (by omega), List.getElem?_eq_none (l := L) (by omega)]
    unfold noneL
    rw [List.getElem?_replicate]
    split <;> rfl
theorem rel_pad {w : World} {ρ : RM} {L : HL} (n : Nat) (h : Rel ρ (mkH L) w) : Rel ρ (mkH (L ++ noneL n)) w where
  obj p o rb e er := h.obj p o rb (by rw [← pad_get L n]; exact e) er
  inj p q o o' rb rb' e e' := h.inj p q o o' rb rb' (by rw [← pad_get L n]; exact e) (by rw [← pad_get L n]; exact e')
  dom p rb er := by
    have := h.dom p rb er
    rw [mkH_next] at this ⊢
    rw [List.length_append]
    exact ⟨by omega, this.2⟩
  ids p o e := by
    have := h.ids p o (by rw [← pad_get L n]; exact e)
    rw [mkH_next] at this ⊢
    rw [List.length_append]; omega
  glob g hg := absurd hg (Nat.not_lt_zero _)
  frz b c e := ⟨(h.frz b c e).1, fun p o rb e1 => (h.frz b c e).2 p o rb (by rw [← pad_get L n]; exact e1)⟩
theorem pad_free {ρ : RM} {L : HL} (n : Nat) {r : Nat} (h : ¬ Owned ρ (mkH L) r) : ¬ Owned ρ (mkH (L ++ noneL n)) r := by
  rintro ⟨p, o, rb, e, hro, er, hb⟩
  exact h ⟨p, o, rb, by rw [← pad_get L n]; exact e, hro, er, hb⟩
theorem rows_free {R : List (RB × List AV)} (r : Nat) : ¬ Owned (rowsM R) (mkH (rowsH R)) r := by
  rintro ⟨p, o, rb, e, hro, _, _⟩
  obtain ⟨x, _, rfl⟩ := rowsH_get (mkH_some e)
  cases hro

/-! ### A slice among the arguments -/
/-- A slice's row, of which each cell is known. -/
theorem row_in {w : World} {a : Addr} {len cap : Nat} {l : List AV} {e : TypeId} (hhas : w.has P .any 0 a e cap) (hl : len ≤ cap) (hll : l.length = len) {vs : Nat → Value} (hcell : ∀ i, i < cap → w.cell? (a.add i) = some (vs i)) (hv : ∀ i v ρ, l[i]? = some v → VR ρ v (vs i)) :
    ∃ rb : RB, rb.extra = cap - len ∧ a = ⟨rb.blk, a.off, none⟩ ∧ (cap = 0 ∨ a.off = rb.shift) ∧ RowIn w rb l := by
  obtain ⟨_, hsp, row, cells, hsh, _⟩ := hhas
  obtain ⟨blk, off, spot⟩ := a
  have hsp' : spot = none := hsp
  subst hsp'
  have hob : ∃ c t fz, w.heap[blk]? = some (.cells c t fz) := by
    unfold World.shape? at hsh
    split at hsh
    · rename_i c t fz hc; exact ⟨_, _, _, hc⟩
    · cases hsh
  obtain ⟨c, t, fz, hob⟩ := hob
  have hlt : blk < w.heap.size := (Array.getElem?_eq_some_iff.1 hob).1
  have hc : ∀ i, i < cap → c[off + i]? = some (vs i) := by
    intro i hi
    have := hcell i hi
    have ea : (⟨blk, off, none⟩ : Addr).add i = ⟨blk, off + i, none⟩ := by
      unfold Addr.add
      split
      · rename_i h0; subst h0; rfl
      · rfl
    rw [ea] at this
    simpa [World.cell?, hob] using this
  by_cases h0 : cap = 0
  · refine ⟨⟨blk, 0, 0⟩, by show 0 = cap - len; omega, rfl, .inl h0, hlt, fun ρ => ⟨c, t, fz, hob, ?_, fun i v hi => ?_, fun h => by cases h⟩⟩
    · show 0 + l.length + 0 * 1 ≤ c.size; omega
    · have := (List.getElem?_eq_some_iff.1 hi).1; omega
  · refine ⟨⟨blk, off, cap - len⟩, rfl, rfl, .inr rfl, hlt, fun ρ => ⟨c, t, fz, hob, ?_, fun i v hi => ⟨vs i, hc i ?_, hv i v ρ hi⟩, fun h => by cases h⟩⟩
    · have := (Array.getElem?_eq_some_iff.1 (hc (cap - 1) (by omega))).1
      show off + l.length + (cap - len) * 1 ≤ c.size
      omega
    · have := (List.getElem?_eq_some_iff.1 hi).1; omega

theorem VR.row {a : Addr} {len cap : Nat} {l : List AV} {rb : RB} (hll : l.length = len) (hl : len ≤ cap) (h1 : rb.extra = cap - len) (h2 : a = ⟨rb.blk, a.off, none⟩) (h3 : cap = 0 ∨ a.off = rb.shift) {ρ : RM} {p : Pos} (hp : ρ.m p = some rb) :
    VR ρ (.slice p 0 l.length l.length true) (.slice (some a) len cap) := by
  subst hll
  rw [h2]
  exact .slice hp (by rw [if_pos rfl, h1]; omega) (by rw [Nat.add_zero]; exact h3) (Nat.le_refl _)

theorem okWide_has {w : World} {t e : TypeId} {a : Addr} {len cap : Nat} (ht : P.underlying t = some (.slice e)) (h : Value.okWide P w .any 0 t (.slice (some a) len cap)) : w.has P .any 0 a e cap := by
  simp only [Value.okWide, ht, Cell.okWide, Cell.ok] at h
  exact h.2.2

section
variable {H : Type} {enc : TypeId × Value → H}
/-- A slice of texts. -/
theorem slice_strs {w : World} {t e : TypeId} {v : Value} {d : DataW H} {ps : List MemPlace} (ht : P.underlying t = some (.slice e)) (he : P.underlying e = some .string) (hc : P.cellsOf e = 1) (hok : Value.okWide P w .any 0 t v) (h : DataW.Trod enc P w 0 (fun _ => true) true t v d ps) (i : Nat) :
    (v = .slice none 0 0) ∨ ∃ (l : List (List Nat)) (rb : RB), RowIn w rb (strs l) ∧ ∀ ρ : RM, ρ.m (.ofNat i) = some rb → VR ρ (.slice (.ofNat i) 0 l.length l.length true) v := by
  obtain ⟨a0, len0, cap0, rfl⟩ := okWide_slice ht hok
  obtain ⟨fuel, hf⟩ := h
  rcases open_strings ht he hc hf with ⟨hcs, _⟩ | ⟨a, len, cap, ss, hcs, _, hl, hm, hz, _, hcell, _⟩
  · left; simpa [Value.cells] using hcs
  · right
    have hv : Value.slice a0 len0 cap0 = .slice (some a) len cap := by simpa [Value.cells] using hcs
    rw [hv] at hok ⊢
    have hlen : ss.length = cap := by simpa using hz
    have hll : (strs ((ss.take len).map bytesOf)).length = len := by simp [strs_len]; omega
    obtain ⟨rb, h1, h2, h3, h4⟩ := row_in (l := strs ((ss.take len).map bytesOf)) (vs := fun i => .string (ss.getD i ByteArray.empty)) (okWide_has ht hok) hl hll (fun i hi => hcell i (by omega)) (by
      intro i v ρ hi
      rw [strs_get, List.getElem?_map] at hi
      have hi1 : i < (ss.take len).length := by
        cases hx : (ss.take len)[i]? with
        | none => rw [hx] at hi; cases hi
        | some x => exact (List.getElem?_eq_some_iff.1 hx).1
      have hi2 : i < ss.length := by simp at hi1; omega
      rw [List.getElem?_take_of_lt (by simp at hi1; omega), List.getElem?_eq_getElem hi2] at hi
      simp at hi
      subst hi
      rw [List.getD_eq_getElem?_getD, List.getElem?_eq_getElem hi2]
      exact .str _)
    refine ⟨(ss.take len).map bytesOf, rb, h4, fun ρ hρ => ?_⟩
    have := VR.row (a := a) (cap := cap) hll hl h1 h2 h3 hρ
    rwa [strs_len] at this

/-- A slice of things of one cell each, of which each is known to be such. -/
theorem slice_each {α : Type} {conv : α → Value} {av : α → AV} (hrel : ∀ ρ a, VR ρ (av a) (conv a)) {w : World} {t e : TypeId} {v : Value} {d : DataW H} {ps : List MemPlace} (ht : P.underlying t = some (.slice e)) (hc : P.cellsOf e = 1)
    (hel : ∀ fuel cs y, DataW.trod enc P w 0 (fun _ => true) true fuel e cs = some y → ∃ a, cs = [conv a]) (hok : Value.okWide P w .any 0 t v) (h : DataW.Trod enc P w 0 (fun _ => true) true t v d ps) (i : Nat) :
    (v = .slice none 0 0) ∨ ∃ (l : List α) (rb : RB), RowIn w rb (l.map av) ∧ ∀ ρ : RM, ρ.m (.ofNat i) = some rb → VR ρ (.slice (.ofNat i) 0 l.length l.length true) v := by
  obtain ⟨a0, len0, cap0, rfl⟩ := okWide_slice ht hok
  obtain ⟨fuel, hf⟩ := h
  rcases DataW.trod_slice ht hf with ⟨hcs, _⟩ | ⟨a, len, cap, elems, rest, n, _, hcs, _, _, hl, _, hlen, hel1, hsp, _⟩
  · left; simpa [Value.cells] using hcs
  · right
    have hv : Value.slice a0 len0 cap0 = .slice (some a) len cap := by simpa [Value.cells] using hcs
    rw [hv] at hok ⊢
    obtain ⟨hr1, hr2⟩ := hsp rfl
    have each : ∀ i, i < cap → ∃ x : α, w.cell? (a.add i) = some (conv x) := by
      intro i hi
      have hb : ∃ y, (w.cells? 0 (a.add (i * P.cellsOf e)) (P.cellsOf e)).bind (DataW.trod enc P w 0 (fun _ => true) true n e) = some y := by
        by_cases hi1 : i < len
        · rw [hel1 i hi1]; exact ⟨_, List.getElem?_eq_getElem (by omega)⟩
        · have := hr2 (i - len) (by omega)
          rw [show len + (i - len) = i by omega] at this
          rw [this]; exact ⟨_, List.getElem?_eq_getElem (by omega)⟩
      obtain ⟨y, hy⟩ := hb
      rw [hc, Nat.mul_one, Option.bind_eq_some_iff] at hy
      obtain ⟨cs', h1, h2⟩ := hy
      obtain ⟨x, rfl⟩ := hel _ _ _ h2
      exact ⟨x, cell_of_cells?_one h1⟩
    have rows : ∀ m, m ≤ cap → ∃ l : List α, l.length = m ∧ ∀ (i : Nat) x, l[i]? = some x → w.cell? (a.add i) = some (conv x) := by
      intro m
      induction m with
      | zero => exact fun _ => ⟨[], rfl, fun i x hx => by simp at hx⟩
      | succ m ih =>
        intro hm
        obtain ⟨l, h1, h2⟩ := ih (by omega)
        obtain ⟨x, hx⟩ := each m (by omega)
        refine ⟨l ++ [x], by simp [h1], fun i y hy => ?_⟩
        by_cases hi : i < m
        · rw [List.getElem?_append_left (by omega)] at hy; exact h2 i y hy
        · have : i = m := by have := (List.getElem?_eq_some_iff.1 hy).1; simp at this; omega
          subst this
          rw [List.getElem?_append_right (by omega), h1, Nat.sub_self] at hy
          simp at hy; subst hy; exact hx
    obtain ⟨l, h1, h2⟩ := rows len hl
    have hll : (l.map av).length = len := by rw [List.length_map, h1]
    obtain ⟨rb, g1, g2, g3, g4⟩ := row_in (l := l.map av) (vs := fun i => (w.cell? (a.add i)).getD .nilIface) (okWide_has ht hok) hl hll (fun i hi => by obtain ⟨x, hx⟩ := each i hi; rw [hx]; rfl) (by
      intro i v ρ hi
      rw [List.getElem?_map] at hi
      cases hx : l[i]? with
      | none => rw [hx] at hi; cases hi
      | some x =>
        rw [hx] at hi
        simp at hi
        subst hi
        rw [h2 i x hx]
        exact hrel ρ x)
    refine ⟨l, rb, g4, fun ρ hρ => ?_⟩
    have := VR.row (a := a) (cap := cap) hll hl g1 g2 g3 hρ
    rwa [List.length_map] at this

/-- A slice of Booleans. -/
theorem slice_bools {w : World} {t e : TypeId} {v : Value} {d : DataW H} {ps : List MemPlace} (ht : P.underlying t = some (.slice e)) (he : P.underlying e = some .bool) (hc : P.cellsOf e = 1) (hok : Value.okWide P w .any 0 t v) (h : DataW.Trod enc P w 0 (fun _ => true) true t v d ps) (i : Nat) :
    (v = .slice none 0 0) ∨ ∃ (l : List Bool) (rb : RB), RowIn w rb (l.map .bool) ∧ ∀ ρ : RM, ρ.m (.ofNat i) = some rb → VR ρ (.slice (.ofNat i) 0 l.length l.length true) v :=
  slice_each (conv := .bool) (av := .bool) (fun _ b => .bool b) ht hc (fun fuel cs y hy => by obtain ⟨b, h1, _⟩ := DataW.trod_bool he hy; exact ⟨b, h1⟩) hok h i

/-- A slice of ints. -/
theorem slice_ints {w : World} {t e : TypeId} {v : Value} {d : DataW H} {ps : List MemPlace} (ht : P.underlying t = some (.slice e)) (he : P.underlying e = some (.int .i64)) (hc : P.cellsOf e = 1) (hok : Value.okWide P w .any 0 t v) (h : DataW.Trod enc P w 0 (fun _ => true) true t v d ps) (i : Nat) :
    (v = .slice none 0 0) ∨ ∃ (l : List Int) (rb : RB), RowIn w rb (l.map (.int .i64)) ∧ ∀ ρ : RM, ρ.m (.ofNat i) = some rb → VR ρ (.slice (.ofNat i) 0 l.length l.length true) v :=
  slice_each (conv := .int .i64) (av := .int .i64) (fun _ n => .int .i64 n) ht hc (fun fuel cs y hy => by obtain ⟨n, h1, _⟩ := DataW.trod_int he hy; exact ⟨n, h1⟩) hok h i
end
end Go.AM
