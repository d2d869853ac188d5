/-
  THE MACHINE 'AM': append gives what the model's gives: the model's side.
-/
import Derived.Test.YtcjilddpkekcgaaAmMem
import Derived.Laws.Append
namespace Go.AM
variable {P : Program} {ρ : RM} {w : World}

/-- What is to be appended, ready to be read. -/
structure Src (P : Program) (w : World) (size n : Nat) (ts : Array TypeId) (bytes : Nat) (z : Value) (x : Value) (new : List Value) : Prop where
  len : new.length = n * size
  how : (∃ u du, ts[1]? = some u ∧ P.underlying u = some du ∧ (∀ k, du ≠ .int k) ∧ (Builtin.lenOf x).run P w = .ok n w ∧ ∀ w', w'.heap = w.heap → (Builtin.firstCells size n x).run P w' = .ok new.toArray w') ∨
    (∃ u k k', ts[1]? = some u ∧ P.underlying u = some (.int k) ∧ x = .int k' n ∧ n < 1073741824 ∧ n * bytes ≤ 281474976710656 ∧ new.toArray = Builtin.zeroCells z.cells n ∧ z.cells.size = size)

theorem run_append_room' {ts : Array TypeId} {t e : TypeId} {size bytes n sLen sCap : Nat} {z x : Value} {i : TypeInfo} {new : List Value} {base : Option Addr} (hs : Src P w size n ts bytes z x new) (ht0 : ts[0]? = some t)
    (ht : P.underlying t = some (.slice e)) (hi : P.info? e = some i) (hsz : i.size = size) (hby : i.bytes = bytes) (hz : i.zero = some z) (hroom : sLen + n ≤ sCap) (ty : TypeId) :
    (Builtin.append_ ts ty #[.slice base sLen sCap, x]).run P w =
      match base with
      | some a => ((storeCells (a.add (sLen * size)) new 0).run P w).andThen fun _ w' => .ok (.slice base (sLen + n) sCap) w'
      | none => .ok (.slice none (sLen + n) sCap) w := by
  subst hsz; subst hby
  rcases hs.how with ⟨u, du, hu1, hu2, hni, hlen, hfirst⟩ | ⟨u, k, k', hu1, hu2, rfl, hn1, hn2, hnew, hzs⟩
  · have hf := hfirst w rfl
    have hm : (match du with | .int _ => true | _ => false) = false := by cases du <;> first | rfl | exact absurd rfl (hni _)
    cases base with
    | none => simp [Builtin.append_, ht0, hu1, run_underlying ht, run_underlying hu2, sizeOf, typeInfo, hi, hlen, hroom, hf]
    | some a => simp [Builtin.append_, ht0, hu1, run_underlying ht, run_underlying hu2, sizeOf, typeInfo, hi, hlen, hroom, hf]
  · have hw : IntKind.i64.wrap (n : Int) = n := wrap_in _ _ (ofNat_inK (by show n < 9223372036854775808; omega))
    have h48 : ¬ (281474976710656 < (n : Int) * (i.bytes : Int)) := by
      have h2' : ((n * i.bytes : Nat) : Int) ≤ ((281474976710656 : Nat) : Int) := Int.ofNat_le.2 hn2
      rw [Int.natCast_mul] at h2'; exact Int.not_lt.2 h2'
    have hneg : ¬ ((n : Int) < 0) := by omega
    have hnl : new = [] ∨ ¬ (n * i.size = 0) := by
      by_cases h0 : n * i.size = 0
      · left; apply List.eq_nil_of_length_eq_zero; rw [hs.len, h0]
      · exact .inr h0
    have hnew' : new = (Builtin.zeroCells z.cells n).toList := by rw [← hnew]
    cases base with
    | none =>
      rcases hnl with h0 | h0
      · have : n * i.size = 0 := by rw [← hs.len, h0]; rfl
        simp [Builtin.append_, ht0, hu1, run_underlying ht, run_underlying hu2, sizeOf, typeInfo, hi, asInt, asIntOf, hw, h48, hneg, hroom, this]
      · simp [Builtin.append_, ht0, hu1, run_underlying ht, run_underlying hu2, sizeOf, typeInfo, zeroValue, hi, hz, asInt, asIntOf, hw, h48, hneg, hroom]
    | some a =>
      rcases hnl with h0 | h0
      · have : n * i.size = 0 := by rw [← hs.len, h0]; rfl
        simp [Builtin.append_, ht0, hu1, run_underlying ht, run_underlying hu2, sizeOf, typeInfo, hi, asInt, asIntOf, hw, h48, hneg, hroom, this, h0]
      · simp [Builtin.append_, ht0, hu1, run_underlying ht, run_underlying hu2, sizeOf, typeInfo, zeroValue, hi, hz, asInt, asIntOf, hw, h48, hneg, hroom, h0, hnew']

theorem run_append_grow' {ts : Array TypeId} {t e : TypeId} {size bytes n sLen sCap : Nat} {z x : Value} {i : TypeInfo} {new old : List Value} {base : Option Addr} (hs : Src P w size n ts bytes z x new) (ht0 : ts[0]? = some t)
    (ht : P.underlying t = some (.slice e)) (hi : P.info? e = some i) (hsz : i.size = size) (hby : i.bytes = bytes) (hz : i.zero = some z) (hroom : sCap < sLen + n)
    (hold : ∀ w', w'.heap = w.heap → (Builtin.firstCells size sLen (.slice base sLen sCap)).run P w' = .ok old.toArray w') (h47 : (sLen + n) * bytes ≤ 140737488355328) (h62 : sLen + n ≤ 4611686018427387904) (ty : TypeId) :
    (Builtin.append_ ts ty #[.slice base sLen sCap, x]).run P w =
      .ok (.slice (some ⟨w.heap.size, 0, none⟩) (sLen + n) (grownCap w (sLen + n) sCap e))
        (w.drew.alloc (.cells (old.toArray ++ new.toArray ++ Builtin.zeroCells z.cells (grownCap w (sLen + n) sCap e - (sLen + n))) e)) := by
  subst hsz; subst hby
  have hfit := growslice_fits hroom h47
  have hn : ¬ (sLen + n ≤ sCap) := by omega
  have h63' : ¬ (9223372036854775807 < ((sLen : Int) + (n : Int))) := by omega
  have h48' : ¬ (281474976710656 < Builtin.nextslicecap (sLen + n) sCap * i.bytes) := by omega
  have ho := hold w.drew rfl
  rcases hs.how with ⟨u, du, hu1, hu2, hni, hlen, hfirst⟩ | ⟨u, k, k', hu1, hu2, rfl, hn1, hn2, hnew, hzs⟩
  · have hf := hfirst w.drew rfl
    have hm : (match du with | .int _ => true | _ => false) = false := by cases du <;> first | rfl | exact absurd rfl (hni _)
    simp [Builtin.append_, ht0, hu1, run_underlying ht, run_underlying hu2, sizeOf, typeInfo, zeroValue, hi, hz, hlen, hn, h63', h48', Question.forced, hf, ho, newRow, grownCap]
    exact congrArg (fun c => w.drew.alloc (Obj.cells c e)) (by rw [← Array.toList_inj]; simp)
  · have hw : IntKind.i64.wrap (n : Int) = n := wrap_in _ _ (ofNat_inK (by show n < 9223372036854775808; omega))
    have h48 : ¬ (281474976710656 < (n : Int) * (i.bytes : Int)) := by
      have h2' : ((n * i.bytes : Nat) : Int) ≤ ((281474976710656 : Nat) : Int) := Int.ofNat_le.2 hn2
      rw [Int.natCast_mul] at h2'; exact Int.not_lt.2 h2'
    have hneg : ¬ ((n : Int) < 0) := by omega
    by_cases h0 : n * i.size = 0
    · have hnil : new = [] := by apply List.eq_nil_of_length_eq_zero; rw [hs.len, h0]
      simp [Builtin.append_, ht0, hu1, run_underlying ht, run_underlying hu2, sizeOf, typeInfo, zeroValue, hi, hz, asInt, asIntOf, hw, h48, hneg, hn, h63', h48', Question.forced, ho, h0, hnil, newRow, grownCap]
    · simp [Builtin.append_, ht0, hu1, run_underlying ht, run_underlying hu2, sizeOf, typeInfo, zeroValue, hi, hz, asInt, asIntOf, hw, h48, hneg, hn, h63', h48', Question.forced, ho, h0, ← hnew, newRow, grownCap]
      exact congrArg (fun c => w.drew.alloc (Obj.cells c e)) (by rw [← Array.toList_inj]; simp)

theorem grownCap_bounds (w : World) (need old : Nat) (e : TypeId) : need ≤ grownCap w need old e := by simp [grownCap, Question.cut]

end Go.AM
