/-
  THE MACHINE 'AM': making a map, and turning its entries.
-/
import Derived.Test.YtcjilddpkekcgaaAmEff
namespace Go.AM
variable {P : Program}

theorem MapRel.get {ρ : RM} : ∀ {es : List (AV × AV × Nat)} {es' : List MapEntry}, MapRel ρ es es' → ∀ (i : Nat) k v b, es[i]? = some (k, v, b) → ∃ k' v', es'[i]? = some { key := k', val := v', born := b } ∧ VR ρ k k' ∧ VR ρ v v'
  | _, _, .nil, i, k, v, b, h => by simp at h
  | _, _, .cons a c _, 0, k, v, b, h => by simp at h; obtain ⟨rfl, rfl, rfl⟩ := h; exact ⟨_, _, rfl, a, c⟩
  | _, _, .cons _ _ hr, i + 1, k, v, b, h => by
    obtain ⟨k', v', h1, h2⟩ := hr.get i k v b (by simpa using h)
    exact ⟨k', v', by simpa using h1, h2⟩
theorem MapRel.set {ρ : RM} {k v : AV} {b : Nat} {k' v' : Value} (hk : VR ρ k k') (hv : VR ρ v v') : ∀ {es : List (AV × AV × Nat)} {es' : List MapEntry}, MapRel ρ es es' → ∀ (i : Nat), MapRel ρ (es.set i (k, v, b)) (es'.set i { key := k', val := v', born := b })
  | _, _, .nil, i => by simpa using MapRel.nil
  | _, _, .cons _ _ hr, 0 => .cons hk hv hr
  | _, _, .cons a c hr, i + 1 => .cons a c (hr.set hk hv i)
theorem MapRel.add {ρ : RM} {k v : AV} {b : Nat} {k' v' : Value} (hk : VR ρ k k') (hv : VR ρ v v') : ∀ {es : List (AV × AV × Nat)} {es' : List MapEntry}, MapRel ρ es es' → MapRel ρ (es ++ [(k, v, b)]) (es' ++ [{ key := k', val := v', born := b }])
  | _, _, .nil => .cons hk hv .nil
  | _, _, .cons a c hr => .cons a c (hr.add hk hv)
theorem MapRel.erase {ρ : RM} : ∀ {es : List (AV × AV × Nat)} {es' : List MapEntry}, MapRel ρ es es' → ∀ (i : Nat), MapRel ρ (es.eraseIdx i) (es'.eraseIdx i)
  | _, _, .nil, i => by simpa using MapRel.nil
  | _, _, .cons _ _ hr, 0 => hr
  | _, _, .cons a c hr, i + 1 => .cons a c (hr.erase i)

theorem findV_at {kt : TypeId} {k : AV} : ∀ {es : List (AV × AV × Nat)} {i j : Nat} {v : AV}, findV P kt k es i = some (some (j, v)) → i ≤ j ∧ ∃ key b, es[j - i]? = some (key, v, b)
  | [], i, j, v, h => by simp [findV] at h
  | (key, u, b) :: es, i, j, v, h => by
    simp only [findV] at h
    split at h
    · simp only [Option.some.injEq, Prod.mk.injEq] at h; obtain ⟨rfl, rfl⟩ := h; exact ⟨Nat.le_refl _, key, b, by simp⟩
    · obtain ⟨h1, key', b', h2⟩ := findV_at h
      exact ⟨by omega, key', b', by rw [show j - i = (j - (i + 1)) + 1 by omega]; simpa using h2⟩
    · cases h

theorem putMap_turned (w : World) (r : Nat) (o : Obj) : Turned w r { w with heap := w.heap.setIfInBounds r o } :=
  ⟨by simp, rfl, rfl, rfl, fun j hj => by simp [Array.getElem?_setIfInBounds_ne (Ne.symm hj)]⟩

/-- A map's entries are turned. -/
theorem Rel.turnMap {ρ : RM} {A : H} {w : World} (hr : Rel ρ A w) {p : Pos} {es : List (AV × AV × Nat)} {clock : Nat} (hp : A.t.get p = some (.map es clock)) {rb : RB} (hm : ρ.m p = some rb) {es2 : List (AV × AV × Nat)} {c2 : Nat} {es2' : Array MapEntry} (h2 : MapRel ρ es2 es2'.toList) :
    (setObj rb.blk (.map es2' c2)).run P w = .ok () { w with heap := w.heap.setIfInBounds rb.blk (.map es2' c2) } ∧ Rel ρ (A.set p (some (.map es2 c2))) { w with heap := w.heap.setIfInBounds rb.blk (.map es2' c2) } ∧
      Stp ρ A w ρ (A.set p (some (.map es2 c2))) { w with heap := w.heap.setIfInBounds rb.blk (.map es2' c2) } := by
  obtain ⟨es', h1, _⟩ := hr.obj _ _ _ hp hm
  have hlt := (hr.dom _ _ hm).2
  exact ⟨Go.MapKept.run_setObj_map _ h1, hr.turn hp hm rfl rfl (putMap_turned w rb.blk _) ⟨es2', by simp [hlt], h2⟩⟩

theorem modify_set {es : Array MapEntry} {i : Nat} {e : MapEntry} (he : es[i]? = some e) (f : MapEntry → MapEntry) : (es.modify i f).toList = es.toList.set i (f e) := by
  apply List.ext_getElem?
  intro j
  have hi : i < es.size := (Array.getElem?_eq_some_iff.1 he).1
  have hie : es[i] = e := (Array.getElem?_eq_some_iff.1 he).2
  rw [Array.getElem?_toList, Array.getElem?_modify, List.getElem?_set]
  by_cases hj : i = j
  · subst hj; simp [hi, hie]
  · simp [hj]

theorem mapUpdateK_sound {A : H} {t : TypeId} {m key v : AV} {k : H → Ans} (h : mapUpdateK P A t m key v k = .ok) :
    ∃ A', k A' = .ok ∧ ∀ (ρ : RM) (w : World) (m' key' v' : Value), Rel ρ A w → VR ρ m m' → VR ρ key key' → VR ρ v v' → ∃ w', Stp ρ A w ρ A' w' ∧ Rel ρ A' w' ∧ (Instr.mapUpdate t m' key' v').run P w = .ok () w' := by
  unfold mapUpdateK at h
  split at h
  · rename_i kt e p hu
    split at h
    · rename_i es clock hp
      split at h
      · rename_i hkk
        simp only [Bool.and_eq_true] at hkk
        obtain ⟨hkk, hok, hlit⟩ := hkk
        split at h
        · rename_i i v0 hf
          split at h
          · rename_i old u born hi
            split at h
            · rename_i hsame
              rw [fList_eq, H.setK_eq] at h
              refine ⟨_, h, fun ρ w m' key' v' hr hm hkey hv => ?_⟩
              cases hm; rename_i rb hm
              obtain ⟨es', h1, h2⟩ := hr.obj _ _ _ hp hm
              obtain ⟨r', g1, g2⟩ := findKey_sound (P := P) hkk hkey h2 hf
              cases g1; rename_i v0' hv0
              obtain ⟨old', u', g3, g4, g5⟩ := h2.get i _ _ _ hi
              have he : old = key := same_eq hsame
              subst he
              have hold : old' = key' := litKey_one hlit g4 hkey
              subst hold
              have g3' : es'[i]? = some { key := old', val := u', born := born } := by simpa using g3
              have hset := modify_set g3' (fun e => { e with key := old', val := v' })
              obtain ⟨s1, s2, s3⟩ := hr.turnMap (P := P) hp hm (c2 := clock) (es2' := es'.modify i fun e => { e with key := old', val := v' }) (by rw [hset]; exact h2.set (b := born) hkey hv i)
              refine ⟨_, s3, s2, ?_⟩
              have hc := checkKey_sound (P := P) (ρ := ρ) false 10000 kt old old' hok hkey w
              have hsb : Instr.sameBits 10000 old' old' = true := sameBits_litKey hlit hkey 9999
              simp only [Instr.mapUpdate, Sem.run_bind, run_underlying hu, Result.andThen_ok, Go.MapKept.run_getObj_map h1, hc, g2, g3', Option.map_some, Option.getD_some, Instr.keyThatStays, hsb, if_true, Sem.run_pure, s1]
            · cases h
          · cases h
        · rename_i hf
          rw [fList_eq, fNat_eq, H.setK_eq] at h
          refine ⟨_, h, fun ρ w m' key' v' hr hm hkey hv => ?_⟩
          cases hm; rename_i rb hm
          obtain ⟨es', h1, h2⟩ := hr.obj _ _ _ hp hm
          obtain ⟨r', g1, g2⟩ := findKey_sound (P := P) hkk hkey h2 hf
          cases g1
          obtain ⟨s1, s2, s3⟩ := hr.turnMap (P := P) hp hm (c2 := clock + 1) (es2' := es'.push { key := key', val := v', born := clock }) (by rw [Array.toList_push]; exact h2.add hkey hv)
          refine ⟨_, s3, s2, ?_⟩
          have hc := checkKey_sound (P := P) (ρ := ρ) false 10000 kt key key' hok hkey w
          simp only [Instr.mapUpdate, Sem.run_bind, run_underlying hu, Result.andThen_ok, Go.MapKept.run_getObj_map h1, hc, g2, s1]
        · cases h
      · cases h
    · cases h
  · cases h

theorem mapEntryK_sound {A : H} {t : TypeId} {m key : AV} {k : AV → H → Ans} (h : mapEntryK P A t m key k = .ok) :
    ∃ v A', k v A' = .ok ∧ ∀ (ρ : RM) (w : World) (m' key' : Value), Rel ρ A w → VR ρ m m' → VR ρ key key' → ∃ w' v', Stp ρ A w ρ A' w' ∧ Rel ρ A' w' ∧ VR ρ v v' ∧ (Instr.mapEntry t m' key').run P w = .ok v' w' := by
  unfold mapEntryK at h
  split at h
  · rename_i kt e p hu
    split at h
    · rename_i es clock hp
      split at h
      · rename_i hkk
        simp only [Bool.and_eq_true] at hkk
        obtain ⟨hkk, hok, hlit⟩ := hkk
        split at h
        · rename_i i v0 hf
          split at h
          · rename_i old u born hi
            split at h
            · rename_i hsame
              rw [fList_eq, H.setK_eq] at h
              refine ⟨_, _, h, fun ρ w m' key' hr hm hkey => ?_⟩
              cases hm; rename_i rb hm
              obtain ⟨es', h1, h2⟩ := hr.obj _ _ _ hp hm
              obtain ⟨r', g1, g2⟩ := findKey_sound (P := P) hkk hkey h2 hf
              cases g1; rename_i v0' hv0
              obtain ⟨old', u', g3, g4, g5⟩ := h2.get i _ _ _ hi
              have he : old = key := same_eq hsame
              subst he
              have hold : old' = key' := litKey_one hlit g4 hkey
              subst hold
              have g3' : es'[i]? = some { key := old', val := u', born := born } := by simpa using g3
              have hset := modify_set g3' (fun e => { e with key := old' })
              obtain ⟨s1, s2, s3⟩ := hr.turnMap (P := P) hp hm (c2 := clock) (es2' := es'.modify i fun e => { e with key := old' }) (by rw [hset]; exact h2.set (b := born) hkey g5 i)
              refine ⟨_, .tuple #[v0', .int .i64 born], s3, s2, .tup (.cons hv0 (.cons (.int _ _) .nil)), ?_⟩
              have hc := checkKey_sound (P := P) (ρ := ρ) false 10000 kt old old' hok hkey w
              have hsb : Instr.sameBits 10000 old' old' = true := sameBits_litKey hlit hkey 9999
              simp only [Instr.mapEntry, Sem.run_bind, run_underlying hu, Result.andThen_ok, Go.MapKept.run_getObj_map h1, hc, g2, g3', Option.map_some, Option.getD_some, Instr.keyThatStays, hsb, if_true, Sem.run_pure, s1, goInt]
            · cases h
          · cases h
        · rename_i hf
          split at h
          · rename_i z hz
            rw [fList_eq, fNat_eq, H.setK_eq] at h
            refine ⟨_, _, h, fun ρ w m' key' hr hm hkey => ?_⟩
            cases hm; rename_i rb hm
            obtain ⟨es', h1, h2⟩ := hr.obj _ _ _ hp hm
            obtain ⟨r', g1, g2⟩ := findKey_sound (P := P) hkk hkey h2 hf
            cases g1
            obtain ⟨z', hz1, hz2⟩ := zeroT_sound (ρ := ρ) hz
            obtain ⟨s1, s2, s3⟩ := hr.turnMap (P := P) hp hm (c2 := clock + 1) (es2' := es'.push { key := key', val := z', born := clock }) (by rw [Array.toList_push]; exact h2.add hkey hz1)
            refine ⟨_, .tuple #[z', .int .i64 clock], s3, s2, .tup (.cons hz1 (.cons (.int _ _) .nil)), ?_⟩
            have hc := checkKey_sound (P := P) (ρ := ρ) false 10000 kt key key' hok hkey w
            simp only [Instr.mapEntry, Sem.run_bind, run_underlying hu, Result.andThen_ok, Go.MapKept.run_getObj_map h1, hc, g2, hz2, s1, Sem.run_pure, goInt]
          · cases h
        · cases h
      · cases h
    · cases h
  · cases h

theorem bornAt_sound {ρ : RM} : ∀ {es : List (AV × AV × Nat)} {es' : List MapEntry} {n i j : Nat}, MapRel ρ es es' → bornAt es n i = some j → i ≤ j ∧ es'.findIdx? (fun e => (e.born : Int) == (n : Int)) = some (j - i)
  | _, _, n, i, j, .nil, h => by simp [bornAt] at h
  | _, _, n, i, j, .cons (b := b) _ _ hr, h => by
    simp only [bornAt] at h
    rw [List.findIdx?_cons]
    split at h
    · rename_i hb
      simp only [Option.some.injEq] at h; subst h
      have hb' : b = n := Nat.eq_of_beq_eq_true hb
      subst hb'
      simp
    · rename_i hb
      obtain ⟨h1, h2⟩ := bornAt_sound hr h
      have hb' : ¬ (b = n) := fun e => hb (by subst e; simp)
      have : ((b : Int) == (n : Int)) = false := by rw [beq_eq_false_iff_ne]; intro e; exact hb' (Int.ofNat_inj.1 e)
      refine ⟨by omega, ?_⟩
      simp only [this, Bool.false_eq_true, if_false, h2, Option.map_some]
      congr 1; omega

theorem entryStoreK_sound {A : H} {m st v : AV} {k : H → Ans} (h : entryStoreK A m st v k = .ok) :
    ∃ A', k A' = .ok ∧ ∀ (ρ : RM) (w : World) (t : TypeId) (m' st' v' : Value), Rel ρ A w → VR ρ m m' → VR ρ st st' → VR ρ v v' → ∃ w', Stp ρ A w ρ A' w' ∧ Rel ρ A' w' ∧ (Instr.entryStore t m' st' v').run P w = .ok () w' := by
  unfold entryStoreK at h
  split at h
  · rename_i p ik n
    split at h
    · rename_i es clock hp
      split at h
      · rename_i i hb
        split at h
        · rename_i key u born hi
          rw [fList_eq, H.setK_eq] at h
          refine ⟨_, h, fun ρ w t m' st' v' hr hm hst hv => ?_⟩
          cases hm; rename_i rb hm
          cases hst
          obtain ⟨es', h1, h2⟩ := hr.obj _ _ _ hp hm
          obtain ⟨_, g1⟩ := bornAt_sound h2 hb
          simp only [Nat.sub_zero] at g1
          obtain ⟨key', u', g3, g4, g5⟩ := h2.get i _ _ _ hi
          have g3' : es'[i]? = some { key := key', val := u', born := born } := by simpa using g3
          have hset := modify_set g3' (fun e => { e with val := v' })
          obtain ⟨s1, s2, s3⟩ := hr.turnMap (P := P) hp hm (c2 := clock) (es2' := es'.modify i fun e => { e with val := v' }) (by rw [hset]; exact h2.set (b := born) g4 hv i)
          refine ⟨_, s3, s2, ?_⟩
          have g1' : es'.findIdx? (fun e => (e.born : Int) == (Int.ofNat n)) = some i := by
            have g2 := g1
            clear g1 g3' hset s1 s2 s3 g3 h1 h2
            rcases es' with ⟨l⟩
            simpa using g2
          simp only [Instr.entryStore, Sem.run_bind, Go.MapKept.run_getObj_map h1, Result.andThen_ok, asInt, asIntOf, Sem.run_pure, g1', s1]
        · cases h
      · cases h
    · cases h
  · cases h

theorem deleteK_sound {A : H} {t : TypeId} {m key : AV} {k : H → Ans} (h : deleteK P A t m key k = .ok) :
    ∃ A', k A' = .ok ∧ ∀ (ρ : RM) (w : World) (m' key' : Value) (ts : Array TypeId) (ty : TypeId), ts[0]? = some t → Rel ρ A w → VR ρ m m' → VR ρ key key' → ∃ w', Stp ρ A w ρ A' w' ∧ Rel ρ A' w' ∧ (Builtin.delete_ ts ty #[m', key']).run P w = .ok (.tuple #[]) w' := by
  unfold deleteK at h
  split at h
  · rename_i kt e hu
    split at h
    · rename_i hok
      refine ⟨_, h, fun ρ w m' key' ts ty ht0 hr hm hkey => ?_⟩
      cases hm
      have hc := checkKey_sound (P := P) (ρ := ρ) true 10000 kt key key' hok hkey w
      exact ⟨w, .refl, hr, by simp [Builtin.delete_, ht0, run_underlying hu, hc]⟩
    · cases h
  · rename_i kt e p hu
    split at h
    · rename_i es clock hp
      split at h
      · rename_i hkk
        simp only [Bool.and_eq_true] at hkk
        obtain ⟨hkk, hok⟩ := hkk
        split at h
        · rename_i i v0 hf
          rw [fList_eq, H.setK_eq] at h
          refine ⟨_, h, fun ρ w m' key' ts ty ht0 hr hm hkey => ?_⟩
          cases hm; rename_i rb hm
          obtain ⟨es', h1, h2⟩ := hr.obj _ _ _ hp hm
          obtain ⟨r', g1, g2⟩ := findKey_sound (P := P) hkk hkey h2 hf
          cases g1; rename_i v0' hv0
          obtain ⟨s1, s2, s3⟩ := hr.turnMap (P := P) hp hm (c2 := clock) (es2' := es'.eraseIdxIfInBounds i) (by
            have : (es'.eraseIdxIfInBounds i).toList = es'.toList.eraseIdx i := by simp
            rw [this]; exact h2.erase i)
          refine ⟨_, s3, s2, ?_⟩
          have hc := checkKey_sound (P := P) (ρ := ρ) es'.isEmpty 10000 kt key key' hok hkey w
          simp [Builtin.delete_, ht0, run_underlying hu, Go.MapKept.run_getObj_map h1, hc, g2, s1]
        · rename_i hf
          rw [H.setK_eq] at h
          refine ⟨_, h, fun ρ w m' key' ts ty ht0 hr hm hkey => ?_⟩
          cases hm; rename_i rb hm
          obtain ⟨es', h1, h2⟩ := hr.obj _ _ _ hp hm
          obtain ⟨r', g1, g2⟩ := findKey_sound (P := P) hkk hkey h2 hf
          cases g1
          obtain ⟨s1, s2, s3⟩ := hr.turnMap (P := P) hp hm (c2 := clock) (es2' := es') h2
          refine ⟨_, s3, s2, ?_⟩
          have hc := checkKey_sound (P := P) (ρ := ρ) es'.isEmpty 10000 kt key key' hok hkey w
          simp [Builtin.delete_, ht0, run_underlying hu, Go.MapKept.run_getObj_map h1, hc, g2, s1]
        · cases h
      · cases h
    · cases h
  · cases h

/-- A new map. -/
theorem makeMap_sound {ρ : RM} {A : H} {w : World} (hr : Rel ρ A w) {t : TypeId} {r : Option Value} (hrr : r = none ∨ ∃ kt e k n, P.underlying t = some (.map kt e) ∧ r = some (.int k n)) :
    ∃ ρ' w' v', Stp ρ A w ρ' (A.new (.map [] 0)) w' ∧ Rel ρ' (A.new (.map [] 0)) w' ∧ VR ρ' (.map A.next) v' ∧ (Instr.makeMap t r).run P w = .ok v' w' := by
  obtain ⟨hr2, hs2⟩ := hr.new (.map [] 0) (.map #[] 0) 0 ⟨#[], heap_alloc_new w _, .nil⟩
  refine ⟨_, _, .map (some w.heap.size), hs2, hr2, .map (RM.at_self _ _ _), ?_⟩
  rcases hrr with rfl | ⟨kt, e, k, n, hu, rfl⟩
  · simp [Instr.makeMap]
  · simp [Instr.makeMap, run_underlying hu, asInt, asIntOf]

end Go.AM
