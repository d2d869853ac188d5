/-
  THE MACHINE 'AM': ranging over a map where the model is left no choice.
-/
import Derived.Test.YtcjilddpkekcgaaAmSIter
namespace Go.AM
variable {P : Program}

theorem MapRel.filter {ρ : RM} (f : Nat → Bool) : ∀ {es : List (AV × AV × Nat)} {es' : List MapEntry}, MapRel ρ es es' → MapRel ρ (es.filter fun e => f e.2.2) (es'.filter fun e => f e.born)
  | _, _, .nil => .nil
  | _, _, .cons (b := b) h1 h2 h => by
    simp only [List.filter_cons]
    cases f b with
    | true => exact .cons h1 h2 (h.filter f)
    | false => exact h.filter f
theorem MapRel.all {ρ : RM} (f : Nat → Bool) : ∀ {es : List (AV × AV × Nat)} {es' : List MapEntry}, MapRel ρ es es' → (es.all fun e => f e.2.2) = (es'.all fun e => f e.born)
  | _, _, .nil => rfl
  | _, _, .cons h1 h2 h => by simp only [List.all_cons]; rw [h.all f]

theorem rangeM_sound {ρ : RM} {A : H} {w : World} (hr : Rel ρ A w) {t kt e : TypeId} (hu : P.underlying t = some (.map kt e)) {x : AV} {x' : Value} (hx : VR ρ x x') {m : Option Pos} {since : Nat}
    (h : (x = .nilm ∧ m = none ∧ since = 0) ∨ ∃ p es, x = .map p ∧ A.t.get p = some (.map es since) ∧ m = some p) :
    ∃ ρ' w' v', Stp ρ A w ρ' (A.new (.miter m since [] since)) w' ∧ Rel ρ' (A.new (.miter m since [] since)) w' ∧ VR ρ' (.ptr A.next 0) v' ∧ (Instr.range t x').run P w = .ok v' w' := by
  rcases h with ⟨rfl, rfl, rfl⟩ | ⟨p, es, rfl, hp, rfl⟩
  · cases hx
    obtain ⟨hr2, hs2⟩ := hr.new (.miter none 0 [] 0) (.mapIter none 0 #[] 0) 0 ⟨rfl, none, rfl, heap_alloc_new w _⟩
    exact ⟨_, _, .pointer (some ⟨w.heap.size, 0, none⟩), hs2, hr2, VR.ptr (off := 0) (RM.at_self _ _ _), by simp [Instr.range, run_underlying hu]⟩
  · cases hx; rename_i rb hm
    obtain ⟨es', h1, h2⟩ := hr.obj _ _ _ hp hm
    obtain ⟨hr2, hs2⟩ := hr.new (.miter (some p) since [] since) (.mapIter (some rb.blk) since #[] since) 0 ⟨rfl, some rb.blk, ⟨rb, (RM.le_at hr.fresh_none).2 _ _ hm, rfl⟩, heap_alloc_new w _⟩
    exact ⟨_, _, .pointer (some ⟨w.heap.size, 0, none⟩), hs2, hr2, VR.ptr (off := 0) (RM.at_self _ _ _), by simp [Instr.range, run_underlying hu, Go.MapKept.run_getObj_map h1]⟩

theorem all_array {es : Array MapEntry} (f : MapEntry → Bool) : es.all f = es.toList.all f := by rw [Array.all_toList]
theorem filter_nil {es : Array MapEntry} {f : MapEntry → Bool} (h : es.toList.filter f = []) : es.filter f = #[] := by
  apply Array.ext'; simpa using h
theorem filter_one {es : Array MapEntry} {f : MapEntry → Bool} {e : MapEntry} (h : es.toList.filter f = [e]) : es.filter f = #[e] := by
  apply Array.ext'; simpa using h

/-- The next step. -/
theorem nextM_sound {ρ : RM} {A : H} {w : World} (hr : Rel ρ A w) {p : Pos} {m : Option Pos} {since last : Nat} {seen : List Nat} (hp : A.t.get p = some (.miter m since seen last)) {rb : RB} (hm : ρ.m p = some rb) (ty : TypeId) :
    (m = none → (Instr.next (.pointer (some ⟨rb.blk, rb.shift + 0, none⟩)) false ty).run P w = .ok (.tuple #[.bool false]) w) ∧
    (∀ q es clock r, m = some q → A.t.get q = some (.map es clock) → mnextV es since seen last = some r →
      (r = none → (Instr.next (.pointer (some ⟨rb.blk, rb.shift + 0, none⟩)) false ty).run P w = .ok (.tuple #[.bool false]) w) ∧
      (∀ k v b, r = some (k, v, b) → ∃ w' v', Stp ρ A w ρ (A.set p (some (.miter m since (seen ++ [b]) clock))) w' ∧ Rel ρ (A.set p (some (.miter m since (seen ++ [b]) clock))) w' ∧ VR ρ (.tup [.bool true, k, v]) v' ∧
        (Instr.next (.pointer (some ⟨rb.blk, rb.shift + 0, none⟩)) false ty).run P w = .ok v' w')) := by
  obtain ⟨h0, m', hmm, h2⟩ := hr.obj _ _ _ hp hm
  have hlt := (hr.dom _ _ hm).2
  refine ⟨fun hn => ?_, fun q es clock r hq hpq hnext => ?_⟩
  · subst hn
    have : m' = none := hmm
    subst this
    simp [Instr.next, h0, getObj, Sem.run, h2, bind, Sem.bind, pure]
  · subst hq
    obtain ⟨rq, hmq, rfl⟩ := hmm
    obtain ⟨es', g1, g2⟩ := hr.obj _ _ _ hpq hmq
    unfold mnextV at hnext
    split at hnext
    · cases hnext
    · rename_i hcond
      have hempty : es.isEmpty = es'.isEmpty := by
        have h1 := g2.length
        rw [Array.length_toList] at h1
        rw [Bool.eq_iff_iff, List.isEmpty_iff, Array.isEmpty_iff]
        constructor
        · rintro rfl; exact Array.eq_empty_of_size_eq_zero h1.symm
        · rintro rfl; exact List.eq_nil_of_length_eq_zero h1
      have hall : (es.all fun e => Nat.ble last e.2.2) = (es'.all fun e => decide (e.born ≥ last)) := by
        rw [g2.all (fun b => Nat.ble last b), all_array]
        congr 1
        funext e
        rw [Bool.eq_iff_iff]; simp
      have hc : (!seen.toArray.isEmpty && !es'.isEmpty && es'.all fun e => decide (e.born ≥ last)) = false := by
        rw [← hempty, ← hall]
        cases hx : (!seen.isEmpty && (!es.isEmpty && es.all fun e => Nat.ble last e.2.2)) with
        | true => exact absurd hx hcond
        | false => rw [← hx]; simp [Bool.and_assoc]
      have hleft : MapRel ρ (es.filter fun e => !seen.any (Nat.beq e.2.2)) (es'.toList.filter fun e => !seen.toArray.contains e.born) := by
        have := g2.filter (fun b => !seen.any (Nat.beq b))
        have e1 : (fun e : MapEntry => !seen.any (Nat.beq e.born)) = fun e : MapEntry => !seen.toArray.contains e.born := by
          funext e
          congr 1
          rw [Bool.eq_iff_iff]
          simp
        rw [e1] at this; exact this
      split at hnext
      · rename_i hl
        simp only [Option.some.injEq] at hnext; subst hnext
        refine ⟨fun _ => ?_, fun k v b h => by cases h⟩
        rw [hl] at hleft
        have hf : es'.filter (fun e => !seen.toArray.contains e.born) = #[] := by
          apply filter_nil
          generalize es'.toList.filter (fun e => !seen.toArray.contains e.born) = x at hleft
          cases hleft; rfl
        have hi : (getObj rb.blk).run P w = .ok (.mapIter (some rq.blk) since seen.toArray last) w := by simp [getObj, Sem.run, h2]
        simp only [Instr.next, h0, Nat.add_zero, Sem.run_bind, hi, Result.andThen_ok, Go.MapKept.run_getObj_map g1, hc, Bool.false_eq_true, if_false, hf]
        simp [choose, Question.forced, Sem.run]
      · rename_i e hl
        split at hnext
        · rename_i hb
          simp only [Option.some.injEq] at hnext; subst hnext
          refine ⟨(fun h => by cases h), fun k v b h => ?_⟩
          cases h
          rw [hl] at hleft
          have hb' : b < since := (blt_iff _ _).1 hb
          obtain ⟨k', v', hk, hv, hf⟩ : ∃ k' v', VR ρ k k' ∧ VR ρ v v' ∧ es'.filter (fun e => !seen.toArray.contains e.born) = #[{ key := k', val := v', born := b }] := by
            generalize hx : es'.toList.filter (fun e => !seen.toArray.contains e.born) = x at hleft
            cases hleft with
            | @cons _ _ _ k' v' _ l' a1 a2 a3 =>
              cases a3
              exact ⟨k', v', a1, a2, filter_one hx⟩
          obtain ⟨hr2, hs2⟩ := hr.turn (o' := .miter (some q) since (seen ++ [b]) clock) hp hm rfl rfl (putIter_turned w rb.blk (.mapIter (some rq.blk) since (seen ++ [b]).toArray clock)) ⟨h0, some rq.blk, ⟨rq, hmq, rfl⟩, by simp [hlt]⟩
          refine ⟨_, .tuple #[.bool true, k', v'], hs2, hr2, .tup (.cons (.bool _) (.cons hk (.cons hv .nil))), ?_⟩
          have hge : ¬ since ≤ b := by omega
          have hi : (getObj rb.blk).run P w = .ok (.mapIter (some rq.blk) since seen.toArray last) w := by simp [getObj, Sem.run, h2]
          simp only [Instr.next, h0, Nat.add_zero, Sem.run_bind, hi, Result.andThen_ok, Go.MapKept.run_getObj_map g1, hc, Bool.false_eq_true, if_false, hf]
          simp [hb', hge, choose, Question.forced, setObj, Sem.run, h2]
        · cases hnext
      · cases hnext

theorem entryM_sound {ρ : RM} {A : H} {w : World} (hr : Rel ρ A w) {p q : Pos} {since clock b : Nat} {seen : List Nat} (hp : A.t.get p = some (.miter (some q) since seen clock)) {rb : RB} (hm : ρ.m p = some rb)
    {es : List (AV × AV × Nat)} (hq : A.t.get q = some (.map es clock)) (hb : seen.getLast? = some b) {k v : AV} (he : mfindV es b = some (k, v)) :
    ∃ v', VR ρ (.tup [k, v]) v' ∧ (Instr.entry (.pointer (some ⟨rb.blk, rb.shift + 0, none⟩))).run P w = .ok v' w := by
  obtain ⟨h0, m', ⟨rq, hmq, rfl⟩, h2⟩ := hr.obj _ _ _ hp hm
  obtain ⟨es', g1, g2⟩ := hr.obj _ _ _ hq hmq
  have hfind : ∃ k' v', VR ρ k k' ∧ VR ρ v v' ∧ es'.toList.find? (fun e => e.born == b) = some { key := k', val := v', born := b } := by
    clear g1 hq
    generalize es'.toList = l at g2
    induction g2 with
    | nil => cases he
    | @cons k0 v0 b0 k0' v0' l l' a1 a2 _ ih =>
      simp only [mfindV] at he
      rw [List.find?_cons]
      split at he
      · rename_i hbe
        simp only [Option.some.injEq, Prod.mk.injEq] at he; obtain ⟨rfl, rfl⟩ := he
        have : b0 = b := by simpa using hbe
        subst this
        exact ⟨_, _, a1, a2, by simp⟩
      · rename_i hbe
        have : (b0 == b) = false := by simpa using hbe
        simp only [this]
        exact ih he
  obtain ⟨k', v', hk, hv, hf⟩ := hfind
  refine ⟨.tuple #[k', v'], .tup (.cons hk (.cons hv .nil)), ?_⟩
  have hback : seen.toArray.back? = some b := by simpa using hb
  have hf' : es'.find? (fun e => e.born == b) = some { key := k', val := v', born := b } := by rw [← Array.find?_toList]; exact hf
  simp [Instr.entry, h0, getObj, Sem.run, h2, g1, hback, hf', bind, Sem.bind, pure]

end Go.AM
