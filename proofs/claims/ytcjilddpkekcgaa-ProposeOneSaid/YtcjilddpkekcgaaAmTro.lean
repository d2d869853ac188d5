/-
  THE MACHINE 'AM': WHAT IS READ STAYS: typed arguments (numbers, Booleans, texts; slices, structs, arrays of such) as values of the machine's that name no place.
-/
import Derived.Test.YtcjilddpkekcgaaAmFz
import Derived.Test.YtcjilddpkekcgaaAmArgs
import Derived.OpenShut
import Derived.SizedLaws
namespace Go.AM
variable {P : Program}

mutual
/-- Cells of a type. -/
inductive Ty (P : Program) : TypeId → List AV → Prop
  | bool {t : TypeId} {b : Bool} : P.underlying t = some .bool → Ty P t [.bool b]
  | int {t : TypeId} {k : IntKind} {n : Int} : P.underlying t = some (.int k) → (Lit.int k n).wf = true → Ty P t [.int k n]
  | str {t : TypeId} {s : ByteArray} : P.underlying t = some .string → Ty P t [.str (bytesOf s)]
  | slice {t e : TypeId} {rows : List (List AV)} : P.underlying t = some (.slice e) → rows.length * P.bytesOf e ≤ reachBytes → TyN P e rows → Ty P t [.fz rows.flatten rows.length]
  | struct {t : TypeId} {fs : Array Field} {l : List AV} : P.underlying t = some (.struct fs) → TyF P (fs.toList.map (·.type)) l → Ty P t l
  | array {t : TypeId} {n : Nat} {e : TypeId} {rows : List (List AV)} : P.underlying t = some (.array n e) → rows.length = n → TyN P e rows → Ty P t rows.flatten
/-- .. of fields. -/
inductive TyF (P : Program) : List TypeId → List AV → Prop
  | nil : TyF P [] []
  | cons {t : TypeId} {ts : List TypeId} {l r : List AV} : Ty P t l → TyF P ts r → TyF P (t :: ts) (l ++ r)
/-- .. of elements. -/
inductive TyN (P : Program) : TypeId → List (List AV) → Prop
  | nil {e : TypeId} : TyN P e []
  | cons {e : TypeId} {r : List AV} {rows : List (List AV)} : Ty P e r → TyN P e rows → TyN P e (r :: rows)
end

theorem TyN.snoc {e : TypeId} {r : List AV} : ∀ {rows : List (List AV)}, TyN P e rows → Ty P e r → TyN P e (rows ++ [r])
  | [], _, h => .cons h .nil
  | x :: rows, h, h' => by cases h with | cons a b => exact .cons a (TyN.snoc b h')
theorem TyN.mem {e : TypeId} : ∀ {rows : List (List AV)}, TyN P e rows → ∀ r ∈ rows, Ty P e r
  | [], _, r, h => by cases h
  | x :: rows, h, r, hr => by
    cases h with | cons a b =>
    rcases List.mem_cons.1 hr with rfl | hr
    · exact a
    · exact b.mem r hr

/-- Fields on end. -/
def tileB (P : Program) : List Field → Nat → Nat → Bool
  | [], o, n => Nat.beq o n
  | f :: fs, o, n => Nat.beq f.offset o && tileB P fs (o + P.cellsOf f.type) n
/-- A type of such. -/
def plainB (P : Program) : Nat → TypeId → Bool
  | 0, _ => false
  | m + 1, t => match P.underlying t with
    | some .bool | some (.int _) | some .string => true
    | some (.slice e) => plainB P m e && Nat.blt 0 (P.cellsOf e)
    | some (.struct fs) => tileB P fs.toList 0 (P.cellsOf t) && fs.toList.all fun f => plainB P m f.type
    | some (.array n e) => plainB P m e && Nat.beq (n * P.cellsOf e) (P.cellsOf t)
    | _ => false

/-- Everything that is there stays as it is. -/
noncomputable def iceM (w : World) : RM := ⟨fun _ => none, fun _ => .nilIface, fun _ => ⟨rfl, fun cs h => by cases h⟩, fun b => match w.heap[b]? with | some (.cells d _ _) => some d.toList | _ => none⟩
theorem iceM_at {w : World} {b : Nat} {d : Array Value} {t : TypeId} {z : Nat × Nat} (h : w.heap[b]? = some (.cells d t z)) : (iceM w).fr b = some d.toList := by
  show (match w.heap[b]? with | some (.cells d _ _) => some d.toList | _ => none) = _
  rw [h]
theorem iceM_rel (w : World) : Rel (iceM w) (mkH []) w where
  obj p o rb e er := by cases er
  inj p q o o' rb rb' e e' er := by cases er
  dom p rb er := by cases er
  ids p o e := by rw [mkH_get] at e; simp at e
  glob g hg := absurd hg (Nat.not_lt_zero _)
  frz b c e := by
    have e' : (match w.heap[b]? with | some (.cells d _ _) => some d.toList | _ => none) = some c := e
    refine ⟨?_, fun p o rb _ er => by cases er⟩
    split at e'
    · rename_i d t z hd
      exact ⟨d, t, z, hd, by simpa using e'⟩
    · cases e'
theorem iceM_free {w : World} (r : Nat) : ¬ Owned (iceM w) (mkH []) r := by
  rintro ⟨p, o, rb, e, ho, er, hb⟩
  cases er

theorem weightsAll_mem {H : Type} {e : TypeId} : ∀ {l : List (DataW H)} {d : DataW H}, d ∈ l → ∀ n ∈ d.weights P e, n ∈ DataW.weightsAll P e l
  | x :: l, d, h, n, hn => by
    simp only [DataW.weightsAll, List.mem_append]
    rcases List.mem_cons.1 h with rfl | h
    · exact .inl hn
    · exact .inr (weightsAll_mem h n hn)

theorem rows_of {ρ : RM} {D : List Value} {e : TypeId} {c : Nat} : ∀ (k : Nat), (∀ i, i < k → ∃ l, VRs ρ l ((D.drop (i * c)).take c) ∧ AV.pfs l = true ∧ Ty P e l) →
    ∃ rows : List (List AV), rows.length = k ∧ TyN P e rows ∧ AV.pfs rows.flatten = true ∧ VRs ρ rows.flatten (D.take (k * c))
  | 0, _ => ⟨[], rfl, .nil, rfl, by rw [Nat.zero_mul, List.take_zero]; exact .nil⟩
  | k + 1, h => by
    obtain ⟨rows, h1, h2, h3, h4⟩ := rows_of k fun i hi => h i (by omega)
    obtain ⟨l, g1, g2, g3⟩ := h k (by omega)
    refine ⟨rows ++ [l], by simp [h1], h2.snoc g3, ?_, ?_⟩
    · rw [List.flatten_append]; exact pfs_append h3 (by simpa using g2)
    · rw [List.flatten_append, Nat.add_mul, Nat.one_mul, List.take_add]
      exact h4.append (by simpa using g1)

theorem cells_at {w : World} {b o c : Nat} {cs : List Value} {d : Array Value} {t : TypeId} {z : Nat × Nat} (hb : w.heap[b]? = some (.cells d t z)) (h : w.cells? 0 ⟨b, o, none⟩ c = some cs) : cs = (d.toList.drop o).take c := by
  obtain ⟨_, hl, hc⟩ := World.cells?_some h
  refine List.ext_getElem? fun i => ?_
  by_cases hi : i < c
  · have h1 := hc i hi
    have ea : (⟨b, o, none⟩ : Addr).add i = ⟨b, o + i, none⟩ := by
      unfold Addr.add
      split
      · rename_i h0; subst h0; rfl
      · rfl
    rw [ea] at h1
    rw [List.getElem?_take, if_pos hi, List.getElem?_drop, Array.getElem?_toList]
    simpa [World.cell?, hb] using h1.symm
  · rw [List.getElem?_eq_none (by omega), List.getElem?_take, if_neg hi]

section
variable {H : Type} {enc : TypeId × Value → H} {w : World}
theorem ty_fields {fuel m : Nat} {cs : List Value} (ih : ∀ {t : TypeId} {cs : List Value} {x : DataW H × List MemPlace}, plainB P m t = true → DataW.trod enc P w 0 (fun _ => true) true fuel t cs = some x → (∀ k ∈ x.1.weights P t, k ≤ reachBytes) → ∃ l, VRs (iceM w) l cs ∧ AV.pfs l = true ∧ Ty P t l) :
    ∀ (gs : List Field) (ys : List (DataW H × List MemPlace)) (o : Nat), ys.length = gs.length → (∀ (i : Nat) f, gs[i]? = some f → DataW.trod enc P w 0 (fun _ => true) true fuel f.type ((cs.drop f.offset).take (P.cellsOf f.type)) = ys[i]?) →
      (∀ k ∈ DataW.weightsEach P (gs.map (·.type)) (ys.map (·.1)), k ≤ reachBytes) → tileB P gs o cs.length = true → (gs.all fun f => plainB P m f.type) = true → ∃ l, VRs (iceM w) l (cs.drop o) ∧ AV.pfs l = true ∧ TyF P (gs.map (·.type)) l
  | [], ys, o, _, _, _, ht, _ => by
    have : o = cs.length := by simpa [tileB] using ht
    subst this
    exact ⟨[], by rw [List.drop_length]; exact .nil, rfl, .nil⟩
  | f :: gs, [], o, hl, _, _, _, _ => by simp at hl
  | f :: gs, y :: ys, o, hl, hf, hw, ht, hp => by
    simp only [tileB, Bool.and_eq_true] at ht
    obtain ⟨ho, ht⟩ := ht
    have ho' : f.offset = o := by simpa using ho
    simp only [List.all_cons, Bool.and_eq_true] at hp
    have h0 := hf 0 f rfl
    simp only [List.getElem?_cons_zero] at h0
    simp only [List.map_cons, DataW.weightsEach, List.mem_append] at hw
    obtain ⟨l, g1, g2, g3⟩ := ih hp.1 h0 fun k hk => hw k (.inl hk)
    obtain ⟨r, q1, q2, q3⟩ := ty_fields ih gs ys (o + P.cellsOf f.type) (by simpa using hl) (fun i g hg => by
      have := hf (i + 1) g (by simpa using hg)
      simpa using this) (fun k hk => hw k (.inr hk)) ht hp.2
    refine ⟨l ++ r, ?_, pfs_append g2 q2, .cons g3 q3⟩
    have := g1.append q1
    rw [ho', ← List.drop_drop, List.take_append_drop] at this
    exact this

theorem ty_of : ∀ (m : Nat) {fuel : Nat} {t : TypeId} {cs : List Value} {x : DataW H × List MemPlace}, plainB P m t = true → DataW.trod enc P w 0 (fun _ => true) true fuel t cs = some x → (∀ k ∈ x.1.weights P t, k ≤ reachBytes) →
    ∃ l, VRs (iceM w) l cs ∧ AV.pfs l = true ∧ Ty P t l
  | 0, _, _, _, _, hp, _, _ => by cases hp
  | m + 1, fuel, t, cs, x, hp, h, hw => by
    unfold plainB at hp
    split at hp
    · rename_i hu
      obtain ⟨b, rfl, _⟩ := DataW.trod_bool hu h
      exact ⟨[.bool b], .cons (.bool b) .nil, rfl, .bool hu⟩
    · rename_i k hu
      obtain ⟨n, rfl, _, hwf⟩ := DataW.trod_int hu h
      exact ⟨[.int k n], .cons (.int k n) .nil, rfl, .int hu hwf⟩
    · rename_i hu
      obtain ⟨s, rfl, _, _⟩ := DataW.trod_string hu h
      exact ⟨[.str (bytesOf s)], .cons (.str s) .nil, rfl, .str hu⟩
    · rename_i e hu
      simp only [Bool.and_eq_true] at hp
      have hc0 : 0 < P.cellsOf e := by simpa using hp.2
      rcases DataW.trod_slice hu h with ⟨rfl, _⟩ | ⟨a, len, cap, elems, rest, n, rfl, rfl, rfl, hb, hle, _, hlen, hel, _, _⟩
      · exact ⟨[.fz [] 0], .cons (.fz0 okA.none fun _ => rfl) .nil, rfl, .slice (rows := []) hu (by simp) .nil⟩
      · simp only [DataW.weights, hu, List.mem_cons, List.mem_append] at hw
        by_cases h0 : len = 0
        · subst h0
          exact ⟨[.fz [] 0], .cons (.fz0 trivial fun e => by cases e) .nil, rfl, .slice (rows := []) hu (by simp) .nil⟩
        · have each0 : ∀ i, i < len → ∃ cs' y, w.cells? 0 (a.add (i * P.cellsOf e)) (P.cellsOf e) = some cs' ∧ DataW.trod enc P w 0 (fun _ => true) true n e cs' = some y ∧ y ∈ elems := by
            intro i hi
            have := hel i hi
            rw [List.getElem?_eq_getElem (by omega), Option.bind_eq_some_iff] at this
            obtain ⟨cs', h1, h2⟩ := this
            exact ⟨cs', _, h1, h2, List.getElem_mem _⟩
          obtain ⟨c0, _, hz, _, _⟩ := each0 0 (by omega)
          rw [Nat.zero_mul] at hz
          obtain ⟨_, hl0, hz2⟩ := World.cells?_some hz
          have hz3 := hz2 0 hc0
          obtain ⟨b, off, spot⟩ := a
          have ea0 : ((⟨b, off, spot⟩ : Addr).add 0).add 0 = ⟨b, off, spot⟩ := rfl
          rw [ea0, List.getElem?_eq_getElem (by omega)] at hz3
          obtain ⟨d, ty, z, hd, rfl⟩ : ∃ d ty z, w.heap[b]? = some (.cells d ty z) ∧ spot = none := by
            unfold World.cell? at hz3
            split at hz3
            · rename_i c ty z hc
              refine ⟨c, ty, z, hc, ?_⟩
              split at hz3
              · cases hz3
              · rename_i hs; simpa using hs
            · cases hz3
          have hadd : ∀ j, (⟨b, off, none⟩ : Addr).add j = ⟨b, off + j, none⟩ := fun j => by
            unfold Addr.add
            split
            · rename_i h0; subst h0; rfl
            · rfl
          obtain ⟨rows, r1, r2, r3, r4⟩ := rows_of (ρ := iceM w) (D := d.toList.drop off) (e := e) (c := P.cellsOf e) len fun i hi => by
            obtain ⟨cs', y, h1, h2, h3⟩ := each0 i hi
            rw [hadd] at h1
            have h4 := cells_at hd h1
            obtain ⟨l, g1, g2, g3⟩ := ty_of m hp.1 h2 fun k hk => hw k (.inr (.inl (weightsAll_mem (List.mem_map_of_mem h3) k hk)))
            rw [h4, ← List.drop_drop] at g1
            exact ⟨l, g1, g2, g3⟩
          refine ⟨[.fz rows.flatten rows.length], .cons ?_ .nil, ?_, .slice hu ?_ r2⟩
          · rw [r1]
            refine .fz (iceM_at hd) rfl ?_ hle r3
            have hlen2 := r4.length
            rw [List.length_take] at hlen2
            have e1 : (d.toList.drop off).take rows.flatten.length = (d.toList.drop off).take (len * P.cellsOf e) := by
              rw [hlen2]
              rcases Nat.le_total (len * P.cellsOf e) (d.toList.drop off).length with h | h
              · rw [Nat.min_eq_left h]
              · rw [Nat.min_eq_right h, List.take_of_length_le (Nat.le_refl _), List.take_of_length_le h]
            rw [e1]; exact r4
          · show (true && true) = true
            rfl
          · have := hw _ (.inl rfl)
            rw [r1]
            refine Nat.le_trans (Nat.mul_le_mul_right _ ?_) this
            simp; omega
    · rename_i fs hu
      simp only [Bool.and_eq_true] at hp
      obtain ⟨xs, n, rfl, rfl, hl, hxs, hf⟩ := DataW.trod_struct hu h
      simp only [DataW.weights, hu] at hw
      obtain ⟨l, g1, g2, g3⟩ := ty_fields (P := P) (w := w) (enc := enc) (fuel := n) (m := m) (cs := cs) (fun a b c => ty_of m a b c) fs.toList xs 0 (by simpa using hxs) (fun i f hf' => hf i f (by simpa using hf')) hw (by rw [hl]; exact hp.1) hp.2
      exact ⟨l, by simpa using g1, g2, .struct hu g3⟩
    · rename_i n e hu
      simp only [Bool.and_eq_true] at hp
      obtain ⟨xs, j, rfl, rfl, hl, hxs, hf⟩ := DataW.trod_array hu h
      simp only [DataW.weights, hu] at hw
      have hcn : n * P.cellsOf e = cs.length := by rw [hl]; simpa using hp.2
      obtain ⟨rows, r1, r2, r3, r4⟩ := rows_of (ρ := iceM w) (D := cs) (e := e) (c := P.cellsOf e) n fun i hi => by
        have h1 := hf i hi
        rw [List.getElem?_eq_getElem (by omega)] at h1
        exact ty_of m hp.1 h1 fun k hk => hw k (weightsAll_mem (List.mem_map_of_mem (List.getElem_mem _)) k hk)
      rw [hcn, List.take_of_length_le (Nat.le_refl _)] at r4
      exact ⟨rows.flatten, r4, r3, .array hu r1 r2⟩
    · cases hp
end

/-! ### An argument -/
section
variable {H : Type} {enc : TypeId × Value → H} {W : World} {t : TypeId} {v : Value} {d : DataW H} {ps : List MemPlace}
theorem arg_slice {e : TypeId} (m : Nat) (hp : plainB P m t = true) (ht : P.underlying t = some (.slice e)) (hok : Value.okWide P W .any 0 t v) (h : DataW.Trod enc P W 0 (fun _ => true) true t v d ps) (hw : ∀ k ∈ d.weights P t, k ≤ reachBytes) :
    ∃ x, Ty P t [x] ∧ VR (iceM W) x v := by
  obtain ⟨a, len, cap, rfl⟩ := Go.WideShapes.okWide_slice ht hok
  obtain ⟨fuel, hf⟩ := h
  obtain ⟨l, h1, _, h3⟩ := ty_of m hp hf hw
  have h1' : VRs (iceM W) l [.slice a len cap] := by simpa [Value.cells] using h1
  cases h1' with
  | cons a b => cases b; exact ⟨_, h3, a⟩
theorem arg_struct {fs : Array Field} (m : Nat) (hp : plainB P m t = true) (ht : P.underlying t = some (.struct fs)) (hok : Value.okWide P W .any 0 t v) (h : DataW.Trod enc P W 0 (fun _ => true) true t v d ps) (hw : ∀ k ∈ d.weights P t, k ≤ reachBytes) :
    ∃ l, Ty P t l ∧ VR (iceM W) (.agg l) v := by
  simp only [Value.okWide, ht] at hok
  obtain ⟨cs, rfl, _⟩ := hok
  obtain ⟨fuel, hf⟩ := h
  obtain ⟨l, h1, _, h3⟩ := ty_of m hp hf hw
  exact ⟨l, h3, .agg (by simpa [Value.cells] using h1)⟩
end

/-! ### What such cells are -/
theorem Ty.ofBool {t : TypeId} {l : List AV} (hu : P.underlying t = some .bool) (h : Ty P t l) : ∃ b, l = [.bool b] := by
  cases h with
  | bool => exact ⟨_, rfl⟩
  | int e => rw [hu] at e; cases e
  | str e => rw [hu] at e; cases e
  | slice e => rw [hu] at e; cases e
  | struct e => rw [hu] at e; cases e
  | array e => rw [hu] at e; cases e
theorem Ty.ofInt {t : TypeId} {k : IntKind} {l : List AV} (hu : P.underlying t = some (.int k)) (h : Ty P t l) : ∃ n, l = [.int k n] ∧ (Lit.int k n).wf = true := by
  cases h with
  | bool e => rw [hu] at e; cases e
  | int e hw => rw [hu] at e; cases e; exact ⟨_, rfl, hw⟩
  | str e => rw [hu] at e; cases e
  | slice e => rw [hu] at e; cases e
  | struct e => rw [hu] at e; cases e
  | array e => rw [hu] at e; cases e
theorem Ty.ofSlice {t e : TypeId} {l : List AV} (hu : P.underlying t = some (.slice e)) (h : Ty P t l) : ∃ rows : List (List AV), l = [.fz rows.flatten rows.length] ∧ rows.length * P.bytesOf e ≤ reachBytes ∧ TyN P e rows := by
  cases h with
  | bool e => rw [hu] at e; cases e
  | int e => rw [hu] at e; cases e
  | str e => rw [hu] at e; cases e
  | slice e a b => rw [hu] at e; cases e; exact ⟨_, rfl, a, b⟩
  | struct e => rw [hu] at e; cases e
  | array e => rw [hu] at e; cases e
theorem Ty.ofStruct {t : TypeId} {fs : Array Field} {l : List AV} (hu : P.underlying t = some (.struct fs)) (h : Ty P t l) : TyF P (fs.toList.map (·.type)) l := by
  cases h with
  | bool e => rw [hu] at e; cases e
  | int e => rw [hu] at e; cases e
  | str e => rw [hu] at e; cases e
  | slice e => rw [hu] at e; cases e
  | struct e a => rw [hu] at e; cases e; exact a
  | array e => rw [hu] at e; cases e
theorem Ty.ofArray {t : TypeId} {n : Nat} {e : TypeId} {l : List AV} (hu : P.underlying t = some (.array n e)) (h : Ty P t l) : ∃ rows : List (List AV), l = rows.flatten ∧ rows.length = n ∧ TyN P e rows := by
  cases h with
  | bool e => rw [hu] at e; cases e
  | int e => rw [hu] at e; cases e
  | str e => rw [hu] at e; cases e
  | slice e => rw [hu] at e; cases e
  | struct e => rw [hu] at e; cases e
  | array e a b => rw [hu] at e; cases e; exact ⟨_, rfl, a, b⟩
/-- A struct's fields' types; a slice's, an array's element; a number's kind. -/
def fieldsOf (P : Program) (t : TypeId) : Option (List TypeId) := match P.underlying t with | some (.struct fs) => some (fs.toList.map (·.type)) | _ => none
def sliceOf (P : Program) (t : TypeId) : Option TypeId := match P.underlying t with | some (.slice e) => some e | _ => none
def arrOf (P : Program) (t : TypeId) : Option (Nat × TypeId) := match P.underlying t with | some (.array n e) => some (n, e) | _ => none
def kindOf (P : Program) (t : TypeId) : Option IntKind := match P.underlying t with | some (.int k) => some k | _ => none
theorem Ty.fields {t : TypeId} {ts : List TypeId} {l : List AV} (h : fieldsOf P t = some ts) (hT : Ty P t l) : TyF P ts l := by
  unfold fieldsOf at h
  split at h
  · rename_i fs hu; cases h; exact hT.ofStruct hu
  · cases h
theorem Ty.elems {t e : TypeId} {l : List AV} (h : sliceOf P t = some e) (hT : Ty P t l) : ∃ rows : List (List AV), l = [.fz rows.flatten rows.length] ∧ rows.length * P.bytesOf e ≤ reachBytes ∧ TyN P e rows := by
  unfold sliceOf at h
  split at h
  · rename_i fs hu; cases h; exact hT.ofSlice hu
  · cases h
theorem Ty.arr {t : TypeId} {n : Nat} {e : TypeId} {l : List AV} (h : arrOf P t = some (n, e)) (hT : Ty P t l) : ∃ rows : List (List AV), l = rows.flatten ∧ rows.length = n ∧ TyN P e rows := by
  unfold arrOf at h
  split at h
  · rename_i n e hu; cases h; exact hT.ofArray hu
  · cases h
theorem Ty.num {t : TypeId} {k : IntKind} {l : List AV} (h : kindOf P t = some k) (hT : Ty P t l) : ∃ n, l = [.int k n] ∧ (Lit.int k n).wf = true := by
  unfold kindOf at h
  split at h
  · rename_i k hu; cases h; exact hT.ofInt hu
  · cases h
theorem TyF.inv {t : TypeId} {ts : List TypeId} {l : List AV} (h : TyF P (t :: ts) l) : ∃ a r, l = a ++ r ∧ Ty P t a ∧ TyF P ts r := by
  cases h with | cons a b => exact ⟨_, _, rfl, a, b⟩
theorem TyF.end_ {l : List AV} (h : TyF P [] l) : l = [] := by cases h; rfl
/-- Elements, each known to be such. -/
theorem TyN.each {α : Type} {e : TypeId} {f : α → List AV} {Q : α → Prop} (hf : ∀ r, Ty P e r → ∃ a, r = f a ∧ Q a) : ∀ {rows : List (List AV)}, TyN P e rows → ∃ l : List α, rows.flatten = flat f l ∧ rows.length = l.length ∧ ∀ a ∈ l, Q a
  | [], _ => ⟨[], rfl, rfl, fun _ h => by cases h⟩
  | x :: rows, h => by
    cases h with | cons a b =>
    obtain ⟨y, rfl, hy⟩ := hf _ a
    obtain ⟨l, h1, h2, h3⟩ := TyN.each hf b
    refine ⟨y :: l, by rw [List.flatten_cons, h1]; rfl, by simp [h2], fun z hz => ?_⟩
    rcases List.mem_cons.1 hz with rfl | hz
    · exact hy
    · exact h3 z hz
end Go.AM
