/-
  THE MACHINE 'AM': append, copy, clear and store give what the model's give.
-/
import Derived.Test.YtcjilddpkekcgaaAmAppend
namespace Go.AM
variable {P : Program}

/-- What an effect comes to: a value and a heap of the machine's; in a world that fits, the model's run ends in a world that fits. -/
def Gives (P : Program) (A : H) (v : AV) (A' : H) (ρ : RM) (w : World) (s : Sem Value) : Prop :=
  ∃ ρ' w' v', Stp ρ A w ρ' A' w' ∧ Rel ρ' A' w' ∧ VR ρ' v v' ∧ s.run P w = .ok v' w'

theorem zeroCells_size (z : Array Value) (n : Nat) : (Builtin.zeroCells z n).size = n * z.size := by simp [Builtin.zeroCells]

/-- A row that an append has made. -/
theorem ORel.grown {ρ : RM} {l : List AV} {l' : List Value} {esz extra : Nat} (h : VRs ρ l l') (z : Array Value) (hz : z.size = esz) (t : TypeId) (w : World) :
    ORel ρ (.cells l esz false) ⟨w.heap.size, 0, extra⟩ (w.alloc (.cells (l'.toArray ++ Builtin.zeroCells z extra) t)) := by
  have hl := h.length
  refine ⟨_, t, (0, 0), heap_alloc_new w _, ?_, fun i v hv => ?_, fun _ => .zero _ _⟩
  · simp only [Array.size_append, List.size_toArray, zeroCells_size, hz]; omega
  · obtain ⟨v', h1, h2⟩ := h.get i v hv
    refine ⟨v', ?_, h2⟩
    have hi : i < l'.length := (List.getElem?_eq_some_iff.1 h1).1
    simp only [Nat.zero_add]
    rw [Array.getElem?_append_left (by simpa using hi)]
    simpa using h1

theorem Rel.elsewhere {ρ : RM} {A : H} {w w' : World} {r : Nat} (h : Rel ρ A w) (ht : Turned w r w') (hno : ∀ p o rb, A.t.get p = some o → ρ.m p = some rb → rb.blk ≠ r) (hfr : ρ.fr r = none) : Rel ρ A w' :=
  ⟨fun p o rb e er => (h.obj p o rb e er).mono (.refl _) (ht.other _ (hno p o rb e er)), h.inj, fun p rb e => ⟨(h.dom p rb e).1, by rw [ht.size]; exact (h.dom p rb e).2⟩, h.ids, h.glob, fun b c e => ⟨by obtain ⟨d, t, z, h1, h2⟩ := (h.frz b c e).1; exact ⟨d, t, z, (ht.other b (fun eb => by subst eb; rw [hfr] at e; cases e)).trans h1, h2⟩, (h.frz b c e).2⟩⟩

/-- The cells of a slice's first elements. -/
theorem slice_cells {ρ : RM} {A : H} {w : World} (hr : Rel ρ A w) {p : Pos} {cs : List AV} {esz : Nat} {ro : Bool} (hp : A.t.get p = some (.cells cs esz ro)) {rb : RB} (hm : ρ.m p = some rb)
    {off off' m cap' : Nat} {l : List AV} (hn : readN cs off m = some l) (ho : cap' = 0 ∨ off' = rb.shift + off) (h0 : cap' = 0 → m = 0) :
    ∃ l', VRs ρ l l' ∧ ∀ w', w'.heap = w.heap → (loadCells ⟨rb.blk, off', none⟩ m).run P w' = .ok l'.toArray w' := by
  obtain ⟨h1, rfl⟩ := readN_some hn
  obtain ⟨c, ty, fz, hb, hsz, hcell, _⟩ := hr.obj _ _ _ hp hm
  by_cases hm0 : m = 0
  · subst hm0
    exact ⟨[], by simpa using VRs.nil, fun w' _ => by simp [loadCells, loadCellsFrom]⟩
  · have ho' : off' = rb.shift + off := by rcases ho with e | e; · exact absurd (h0 e) hm0
                                           · exact e
    subst ho'
    exact ⟨_, VRs.seg hcell h1 (by omega), fun w' hw => run_loadCells_at (P := P) (by rw [hw]; exact hb) (by omega)⟩

theorem firstCells_slice (size n : Nat) (a : Addr) (x y : Nat) : Builtin.firstCells size n (.slice (some a) x y) = loadCells a (n * size) := rfl

theorem srcCells_sound {ρ : RM} {A : H} {w : World} (hr : Rel ρ A w) {size n m : Nat} {x : AV} {new : List AV} {x' : Value} (h : srcCells A size n x = some new) (hx : VR ρ x x') (hl : srcLen x = some m) (hnm : n ≤ m) (h0 : 0 < size) :
    ∃ new', VRs ρ new new' ∧ new.length = n * size ∧ (Builtin.lenOf x').run P w = .ok m w ∧ ∀ w', w'.heap = w.heap → (Builtin.firstCells size n x').run P w' = .ok new'.toArray w' := by
  unfold srcCells at h
  split at h
  · rename_i p off len cap soft
    simp only [srcLen, Option.some.injEq] at hl; subst hl
    cases hx with | @slice _ _ _ _ _ rb off' cap' hm hcap hoff hlen =>
    split at h
    · rename_i cs esz ro hp
      obtain ⟨l', h1, h2⟩ := slice_cells (P := P) hr hp hm h hoff (fun e => by (have e9 : n = 0 := by omega); rw [e9]; simp)
      refine ⟨l', h1, ?_, by simp [Builtin.lenOf], fun w' hw => by rw [firstCells_slice]; exact h2 w' hw⟩
      obtain ⟨h3, rfl⟩ := readN_some h
      simp; omega
    · cases h
  · simp only [srcLen, Option.some.injEq] at hl; subst hl
    cases hx
    simp only [Option.some.injEq] at h; subst h
    obtain rfl : n = 0 := by omega
    exact ⟨[], .nil, by simp, by simp [Builtin.lenOf], fun w' _ => by simp [Builtin.firstCells]⟩
  · simp only [srcLen, Option.some.injEq] at hl; subst hl
    cases hx with | @e0 a hok =>
    simp only [Option.some.injEq] at h; subst h
    obtain rfl : n = 0 := by omega
    exact ⟨[], .nil, by simp, by simp [Builtin.lenOf], fun w' _ => by cases a <;> simp [Builtin.firstCells, loadCells, loadCellsFrom]⟩
  · simp only [srcLen, Option.some.injEq] at hl; subst hl
    cases hx with | @z1 a cap' hok =>
    simp only [Option.some.injEq] at h; subst h
    obtain rfl : n = 0 := by omega
    exact ⟨[], .nil, by simp, by simp [Builtin.lenOf], fun w' _ => by simp [Builtin.firstCells, loadCells, loadCellsFrom]⟩
  · rename_i cs len
    simp only [srcLen, Option.some.injEq] at hl; subst hl
    obtain ⟨h3, rfl⟩ := readN_some h
    cases hx with
    | @fz _ _ b off cap' c d q1 q2 q3 q4 q5 =>
      rcases ice_row hr q1 q2 q3 with hnil | ⟨e, ty, z, he, hsz, hcell⟩
      · subst hnil
        rcases Nat.mul_eq_zero.1 (show n * size = 0 by simpa using h3) with e1 | e1
        · subst e1; exact ⟨[], by simpa using VRs.nil, by simp, by simp [Builtin.lenOf], fun w' _ => by simp [Builtin.firstCells, loadCells, loadCellsFrom]⟩
        · omega
      · refine ⟨_, VRs.seg hcell h3 (by omega), by simp; omega, by simp [Builtin.lenOf], fun w' hw => ?_⟩
        rw [firstCells_slice, Nat.add_zero]
        exact run_loadCells_at (P := P) (by rw [hw]; exact he) (by omega)
    | @fz0 a cap' hok ha =>
      obtain rfl : n = 0 := by omega
      exact ⟨[], by simpa using VRs.nil, by simp, by simp [Builtin.lenOf], fun w' _ => by cases a <;> simp [Builtin.firstCells, loadCells, loadCellsFrom]⟩
  · rename_i l
    simp only [srcLen, Option.some.injEq] at hl; subst hl
    cases hx; rename_i s
    split at h
    case isFalse => cases h
    rename_i h8
    have h8 : size = 1 := by simpa using h8
    subst h8
    simp only [Option.some.injEq] at h; subst h
    rw [bytesOf_length] at hnm ⊢
    refine ⟨(s.data.toList.take n).map fun b => .int .u8 b.toNat, ?_, by simp [bytesOf_length]; omega, by simp [Builtin.lenOf], fun w' _ => ?_⟩
    · refine VRs.of_get (by simp [bytesOf]) fun i v v' hv hv' => ?_
      simp only [bytesOf, List.getElem?_map, List.getElem?_take] at hv hv'
      split at hv
      · rename_i hi
        rw [if_pos hi] at hv'
        cases hd : s.data.toList[i]? with
        | none => simp [hd] at hv
        | some b => simp [hd] at hv hv'; subst hv; subst hv'; exact .int _ _
      · simp at hv
    · simp only [Builtin.firstCells, Sem.run_pure]
      congr 1
      apply Array.ext'
      simp [List.extract]
  · cases h

theorem appendK_sound {A : H} {size bytes n : Nat} {s : AV} {new : List AV} {k : AV → H → Ans} (h : appendK A size bytes s n new k = .ok) (hsz0 : 0 < size) (hl : new.length = n * size) :
    ∃ v A', k v A' = .ok ∧ ∀ (ρ : RM) (w : World) (s' x' : Value) (new' : List Value) (ts : Array TypeId) (t e ty : TypeId) (i : TypeInfo) (z : Value), Rel ρ A w → VR ρ s s' → VRs ρ new new' → Src P w size n ts bytes z x' new' →
      ts[0]? = some t → P.underlying t = some (.slice e) → P.info? e = some i → i.size = size → i.bytes = bytes → i.zero = some z → z.cells.size = size →
      Gives P A v A' ρ w (Builtin.append_ ts ty #[s', x']) := by
  unfold appendK at h
  split at h
  · -- nil
    split at h
    · rename_i hn
      have hn0 : n = 0 := by simpa using hn
      refine ⟨_, _, h, fun ρ w s' x' new' ts t e ty i z hr hs hnew hsrc ht0 ht hi hsz hby hz hzs => ?_⟩
      cases hs
      have := run_append_room' (base := none) (sLen := 0) (sCap := 0) hsrc ht0 ht hi hsz hby hz (by omega) ty
      refine ⟨ρ, w, _, .refl, hr, .nils, ?_⟩
      rw [this, hn0]
    · rename_i hn
      have hn0 : n ≠ 0 := by simpa using hn
      split at h
      · rename_i hroomy
        rw [fList_eq, H.newK_eq] at h
        refine ⟨_, _, h, fun ρ w s' x' new' ts t e ty i z hr hs hnew hsrc ht0 ht hi hsz hby hz hzs => ?_⟩
        cases hs
        simp only [roomy, Bool.and_eq_true, Nat.ble_eq] at hroomy
        have hrun := run_append_grow' (base := none) (sLen := 0) (sCap := 0) (old := []) hsrc ht0 ht hi hsz hby hz (by omega) (fun w' _ => by simp [Builtin.firstCells]) (by simpa using hroomy.1) (by simpa using hroomy.2) ty
        simp only [Nat.zero_add] at hrun
        have hge := grownCap_bounds w n 0 e
        obtain ⟨hr2, hs2⟩ := (hr.drew).new (.cells new size false) (.cells ((([] : List Value).toArray ++ new'.toArray) ++ Builtin.zeroCells z.cells (grownCap w n 0 e - n)) e) (grownCap w n 0 e - n)
          (by have := ORel.grown (extra := grownCap w n 0 e - n) (hnew.mono (RM.le_at (rb := ⟨w.heap.size, 0, grownCap w n 0 e - n⟩) hr.fresh_none)) z.cells hzs e w.drew
              simpa using this)
        exact ⟨_, _, _, Stp.drew.trans hs2, hr2, .slice (off' := 0) (RM.at_self _ _ _) (by simp; omega) (.inr rfl) (Nat.le_refl _), hrun⟩
      · cases h
  · -- no things, no room
    split at h
    · rename_i hn
      have hn0 : n = 0 := by simpa using hn
      refine ⟨_, _, h, fun ρ w s' x' new' ts t e ty i z hr hs hnew hsrc ht0 ht hi hsz hby hz hzs => ?_⟩
      cases hs with | @e0 a0 hok0 =>
      have := run_append_room' (base := a0) (sLen := 0) (sCap := 0) hsrc ht0 ht hi hsz hby hz (by omega) ty
      refine ⟨ρ, w, _, .refl, hr, .e0 hok0, ?_⟩
      have hnil : new' = [] := List.eq_nil_of_length_eq_zero (by have := hsrc.len; rw [hn0] at this; simpa using this)
      rw [this, hn0, hnil]
      cases a0 <;> simp [storeCells]
    · rename_i hn
      have hn0 : n ≠ 0 := by simpa using hn
      split at h
      · rename_i hroomy
        rw [fList_eq, H.newK_eq] at h
        refine ⟨_, _, h, fun ρ w s' x' new' ts t e ty i z hr hs hnew hsrc ht0 ht hi hsz hby hz hzs => ?_⟩
        cases hs with | @e0 a0 hok0 =>
        simp only [roomy, Bool.and_eq_true, Nat.ble_eq] at hroomy
        have hrun := run_append_grow' (base := a0) (sLen := 0) (sCap := 0) (old := []) hsrc ht0 ht hi hsz hby hz (by omega) (fun w' _ => by cases a0 <;> simp [Builtin.firstCells, loadCells, loadCellsFrom]) (by simpa using hroomy.1) (by simpa using hroomy.2) ty
        simp only [Nat.zero_add] at hrun
        have hge := grownCap_bounds w n 0 e
        obtain ⟨hr2, hs2⟩ := (hr.drew).new (.cells new size false) (.cells ((([] : List Value).toArray ++ new'.toArray) ++ Builtin.zeroCells z.cells (grownCap w n 0 e - n)) e) (grownCap w n 0 e - n)
          (by have := ORel.grown (extra := grownCap w n 0 e - n) (hnew.mono (RM.le_at (rb := ⟨w.heap.size, 0, grownCap w n 0 e - n⟩) hr.fresh_none)) z.cells hzs e w.drew
              simpa using this)
        exact ⟨_, _, _, Stp.drew.trans hs2, hr2, .slice (off' := 0) (RM.at_self _ _ _) (by simp; omega) (.inr rfl) (Nat.le_refl _), hrun⟩
      · cases h
  · -- a slice
    rename_i p off len cap soft
    split at h
    · rename_i hroom
      have hroom' : len + n ≤ cap := by simpa using hroom
      split at h
      · rename_i hn
        have hn0 : n = 0 := by have : n * size = 0 := by simpa using hn
                               rcases Nat.mul_eq_zero.1 this with e | e <;> omega
        subst hn0
        refine ⟨_, _, h, fun ρ w s' x' new' ts t e ty i z hr hs hnew hsrc ht0 ht hi hsz hby hz hzs => ?_⟩
        cases hs with | @slice _ _ _ _ _ rb off' cap' hm hcap hoff hlen =>
        have hnil : new' = [] := List.eq_nil_of_length_eq_zero (by have := hsrc.len; simpa using this)
        have := run_append_room' (base := some ⟨rb.blk, off', none⟩) (sLen := len) (sCap := cap') hsrc ht0 ht hi hsz hby hz (by omega) ty
        refine ⟨ρ, w, _, .refl, hr, .slice hm hcap hoff hroom', ?_⟩
        rw [this, hnil]; simp [storeCells]
      · rename_i hn
        split at h
        · rename_i cs esz hp
          split at h
          · rename_i hc
            simp only [Bool.and_eq_true, Nat.ble_eq] at hc
            rw [setsK_eq, H.setK_eq] at h
            refine ⟨_, _, h, fun ρ w s' x' new' ts t e ty i z hr hs hnew hsrc ht0 ht hi hsz hby hz hzs => ?_⟩
            cases hs with | @slice _ _ _ _ _ rb off' cap' hm hcap hoff hlen =>
            have hnz : n * size ≠ 0 := by simpa using hn
            have hn1 : n ≠ 0 := fun e0 => hnz (by rw [e0]; simp)
            have ho : off' = rb.shift + off := by rcases hoff with e0 | e0 <;> omega
            subst ho
            have hrun := run_append_room' (base := some ⟨rb.blk, rb.shift + off, none⟩) (sLen := len) (sCap := cap') hsrc ht0 ht hi hsz hby hz (by omega) ty
            obtain ⟨w', hst, hr2, hs2⟩ := write_sound (P := P) hr hp hm hnew hc.2 hc.1
            refine ⟨ρ, w', _, hs2, hr2, .slice hm hcap (.inr rfl) hroom', ?_⟩
            rw [hrun]
            simp only [addr_add]
            rw [show rb.shift + off + len * size = rb.shift + (off + len * size) by omega, hst]
            rfl
          · cases h
        · cases h
    · rename_i hroom
      have hroom' : cap < len + n := by have : ¬ (len + n ≤ cap) := by simpa using hroom
                                        omega
      split at h
      · rename_i hroomy
        simp only [roomy, Bool.and_eq_true, Nat.ble_eq] at hroomy
        split at h
        · rename_i cs esz ro hp
          split at h
          · cases h
          · rename_i old hold
            rw [fList_eq] at h
            -- the real slice grows into a new row
            have grow : ∀ (ρ : RM) (A1 : H) (w : World) (x' : Value) (new' : List Value) (ts : Array TypeId) (t e ty : TypeId) (i : TypeInfo) (z : Value) (rb : RB) (off' cap' : Nat), Rel ρ A w → Rel ρ A1 w → Stp ρ A w ρ A1 w →
                ρ.m p = some rb → (cap' = 0 ∨ off' = rb.shift + off) → len ≤ cap' → cap' < len + n → VRs ρ new new' → Src P w size n ts bytes z x' new' →
                ts[0]? = some t → P.underlying t = some (.slice e) → P.info? e = some i → i.size = size → i.bytes = bytes → i.zero = some z → z.cells.size = size →
                Gives P A (.slice A1.next 0 (len + n) (len + n) true) (A1.new (.cells (old ++ new) size false)) ρ w (Builtin.append_ ts ty #[.slice (some ⟨rb.blk, off', none⟩) len cap', x']) := by
              intro ρ A1 w x' new' ts t e ty i z rb off' cap' hr hr1 hs1 hm hoff hlen hlt hnew hsrc ht0 ht hi hsz hby hz hzs
              obtain ⟨old', ho1, ho2⟩ := slice_cells (P := P) hr hp hm hold hoff (fun e0 => by (have e9 : len = 0 := by omega); rw [e9]; simp)
              have hrun := run_append_grow' (base := some ⟨rb.blk, off', none⟩) (sLen := len) (sCap := cap') (old := old') hsrc ht0 ht hi hsz hby hz hlt (fun w' hw => by rw [firstCells_slice]; exact ho2 w' hw) hroomy.1 hroomy.2 ty
              have hge := grownCap_bounds w (len + n) cap' e
              obtain ⟨hr2, hs2⟩ := (hr1.drew).new (.cells (old ++ new) size false) (.cells ((old'.toArray ++ new'.toArray) ++ Builtin.zeroCells z.cells (grownCap w (len + n) cap' e - (len + n))) e) (grownCap w (len + n) cap' e - (len + n))
                (by have := ORel.grown (extra := grownCap w (len + n) cap' e - (len + n)) ((ho1.append hnew).mono (RM.le_at (rb := ⟨w.heap.size, 0, grownCap w (len + n) cap' e - (len + n)⟩) hr1.fresh_none)) z.cells hzs e w.drew
                    simpa using this)
              exact ⟨_, _, _, hs1.trans (Stp.drew.trans hs2), hr2, .slice (off' := 0) (RM.at_self _ _ _) (by simp; omega) (.inr rfl) (Nat.le_refl _), hrun⟩
            split at h
            · -- no spare place: a new row
              rw [H.newK_eq] at h
              refine ⟨_, _, h, fun ρ w s' x' new' ts t e ty i z hr hs hnew hsrc ht0 ht hi hsz hby hz hzs => ?_⟩
              cases hs with | @slice _ _ _ _ _ rb off' cap' hm hcap hoff hlen =>
              simp at hcap
              exact grow ρ A w x' new' ts t e ty i z rb off' cap' hr hr .refl hm hoff (by omega) (by omega) hnew hsrc ht0 ht hi hsz hby hz hzs
            · -- it may have: the old row is let go
              split at h
              · rename_i hc
                simp only [Bool.and_eq_true, Nat.beq_eq, Bool.not_eq_true'] at hc
                obtain ⟨rfl, hend, rfl, hall⟩ := hc
                rw [H.setK_eq, H.newK_eq] at h
                refine ⟨_, _, h, fun ρ w s' x' new' ts t e ty i z hr hs hnew hsrc ht0 ht hi hsz hby hz hzs => ?_⟩
                cases hs with | @slice _ _ _ _ _ rb off' cap' hm hcap hoff hlen =>
                simp at hcap
                by_cases hin : len + n ≤ cap'
                · have ho : off' = rb.shift + off := by rcases hoff with e0 | e0 <;> omega
                  subst ho
                  obtain ⟨c, cty, fz, hb, hcsz, hcell, hfz⟩ := hr.obj _ _ _ hp hm
                  obtain ⟨hle, rfl⟩ := readN_some hold
                  have hnl := hnew.length
                  have hin2 : (len + n) * esz ≤ (cap + rb.extra) * esz := Nat.mul_le_mul_right _ (by omega)
                  have hin3 : (len + n) * esz + (cap' - (len + n)) * esz = (cap + rb.extra) * esz := by rw [← Nat.add_mul]; congr 1; omega
                  simp only [Nat.add_mul] at hin2 hin3
                  have hone := hnew.one' hall
                  obtain ⟨w', c', hst, hturn, hh, hs', hget⟩ := run_storeCells_in (P := P) rb.blk (rb.shift + (off + len * esz)) cty fz new' 0 c w hb (hfz rfl).1 (by omega) hone
                  have hrun := run_append_room' (base := some ⟨rb.blk, rb.shift + off, none⟩) (sLen := len) (sCap := cap') hsrc ht0 ht hi hsz hby hz hin ty
                  obtain ⟨hk, hks⟩ := hr.kill p
                  have hno : ∀ q o rb', (A.set p none).t.get q = some o → ρ.m q = some rb' → rb'.blk ≠ rb.blk := by
                    intro q o rb' hq hq2 hbb
                    simp only [H.set, PT.get_put] at hq
                    by_cases hqp : q = p
                    · simp [hqp] at hq
                    · simp [hqp] at hq
                      rcases hr.inj q p o _ rb' rb hq hp hq2 hm hbb with e0 | ⟨_, e0⟩
                      · exact hqp e0
                      · simp [HObj.isRo] at e0
                  have hk2 := hk.elsewhere hturn hno (hr.unfrozen hp hm rfl)
                  have hblk : rb.blk < w'.heap.size := by rw [hturn.size]; exact (hr.dom _ _ hm).2
                  have hnone : ρ.m (A.set p none).next = none := hk.fresh_none
                  have hr2 := hk2.newAt (.cells ((cs.drop off).take (len * esz) ++ new) esz false) ⟨rb.blk, rb.shift + off, cap' - (len + n)⟩ hblk hno
                    (by
                      refine ⟨c', cty, fz, hh, ?_, fun j v hv => ?_, fun _ => (hfz rfl).size hs'⟩
                      · simp only [List.length_append, List.length_take, List.length_drop, hs', hl]; omega
                      · rw [hget]
                        simp only
                        by_cases hj : j < len * esz
                        · rw [List.getElem?_append_left (by simp; omega), List.getElem?_take, if_pos hj, List.getElem?_drop] at hv
                          obtain ⟨v', e1, e2⟩ := hcell _ _ hv
                          refine ⟨v', ?_, e2.mono (RM.le_at hnone)⟩
                          rw [if_neg (by omega), show rb.shift + off + j = rb.shift + (off + j) by omega]; exact e1
                        · rw [List.getElem?_append_right (by simp; omega)] at hv
                          simp only [List.length_take, List.length_drop] at hv
                          rw [show min (len * esz) (cs.length - off) = len * esz by omega] at hv
                          obtain ⟨v', e1, e2⟩ := hnew.get _ _ hv
                          have hjl : j - len * esz < new'.length := (List.getElem?_eq_some_iff.1 e1).1
                          refine ⟨v', ?_, e2.mono (RM.le_at hnone)⟩
                          rw [if_pos (by omega), show rb.shift + off + j - (rb.shift + (off + len * esz) + 0) = j - len * esz by omega]; exact e1)
                    (fun _ => (show ρ.fr rb.blk = none from hr.unfrozen hp hm rfl))
                  refine ⟨_, w', .slice (some ⟨rb.blk, rb.shift + off, none⟩) (len + n) cap', ?_, hr2, .slice (off := 0) (off' := rb.shift + off) (rb := ⟨rb.blk, rb.shift + off, cap' - (len + n)⟩) (RM.at_self _ _ _) (by simp; omega) (.inr (by simp)) (Nat.le_refl _), ?_⟩
                  · refine ⟨RM.le_at hnone, by simp [H.new, H.set, Pos.idx_succ], by rw [hturn.size]; exact Nat.le_refl _, hturn.os, hturn.output, hturn.tape, fun r _ hno' => hturn.other r (fun e0 => hno' ⟨p, _, rb, hp, rfl, hm, e0.symm⟩), fun r _ hown => ?_, fun q r er hq => ?_, fun _ _ h => .inl h⟩
                    rotate_left
                    · have hne : q ≠ (A.set p none).next := fun e' => by subst e'; exact absurd hq (Nat.lt_irrefl _)
                      rwa [RM.at_ne _ _ _ _ hne] at er
                    obtain ⟨q, o, rb', hq, hqo, hq2, hbb⟩ := hown
                    simp only [H.new, PT.get_put] at hq
                    by_cases hqn : q = (A.set p none).next
                    · subst hqn; rw [RM.at_self] at hq2; cases hq2; subst hbb; exact ⟨p, _, rb, hp, rfl, hm, rfl⟩
                    · rw [if_neg hqn] at hq
                      rw [RM.at_ne _ _ _ _ hqn] at hq2
                      simp only [H.set, PT.get_put] at hq
                      by_cases hqp : q = p
                      · simp [hqp] at hq
                      · simp [hqp] at hq; exact ⟨q, o, rb', hq, hqo, hq2, hbb⟩
                  · rw [hrun]
                    simp only [addr_add]
                    rw [show rb.shift + off + len * esz = rb.shift + (off + len * esz) by omega, hst]
                    rfl
                · obtain ⟨hk, hks⟩ := hr.kill p
                  exact grow ρ (A.set p none) w x' new' ts t e ty i z rb off' cap' hr hk hks hm hoff (by omega) (by omega) hnew hsrc ht0 ht hi hsz hby hz hzs
              · cases h
        · cases h
      · cases h
  · cases h

end Go.AM
