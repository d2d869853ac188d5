/-
  THE MACHINE 'AM': oracles for functions without a body: what the model's own entries give.
-/
import Derived.Test.YtcjilddpkekcgaaAmExec
import Derived.Laws.LoneSync
import Derived.Lib.Bytealg
import Derived.Lib.Overlaps
namespace Go.AM
variable {P : Program}

/-- Oracles, by their functions' numbers. -/
noncomputable def mkO : List (Nat × Orc) → PT Orc
  | [] => .leaf
  | (f, o) :: l => PT.put (some o) (Pos.ofNat f) (mkO l)
theorem OrOK.of_list : ∀ {l : List (Nat × Orc)}, (∀ x ∈ l, Good P x.1 x.2) → OrOK P (mkO l)
  | [], _, f, o, h => by simp [mkO, PT.get_leaf] at h
  | (g, q) :: l, hl, f, o, h => by
    simp only [mkO, PT.get_put] at h
    by_cases hf : f = Pos.ofNat g
    · subst hf
      simp only [if_true, Option.some.injEq] at h; subst h
      rw [Pos.idx_ofNat]; exact hl (g, q) (by simp)
    · rw [if_neg hf] at h
      exact OrOK.of_list (fun x hx => hl x (by simp [hx])) f o h

theorem OrOK.nil : OrOK P (mkO []) := .of_list (fun x hx => by cases hx)
theorem OrOK.cons {f : Nat} {o : Orc} {l : List (Nat × Orc)} (h : Good P f o) (hl : OrOK P (mkO l)) : OrOK P (mkO ((f, o) :: l)) := by
  intro g q hg
  simp only [mkO, PT.get_put] at hg
  by_cases hf : g = Pos.ofNat f
  · subst hf
    simp only [if_true, Option.some.injEq] at hg; subst hg
    rw [Pos.idx_ofNat]; exact h
  · rw [if_neg hf] at hg; exact hl g q hg

/-- A function whose calls come to an entry of the model's. -/
structure Ext (P : Program) (f : FuncId) (e : Array Value → Sem Value) : Prop where
  run : ∀ args w, (callFunc f args).run P w = ((e args).run P w).andThen fun v w' => .ok (.value v) w'

theorem Ext.of {f : FuncId} {fn : Func} {e : Array Value → Sem Value} (hf : P.funcs[f]? = some fn) (hname : (fn.name == "runtime.NumGoroutine") = false)
    (hb : fn.body.isNone = true) (hn : Extern.findNext fn = none) (he : Extern.find fn = some e) : Ext P f e :=
  ⟨run_callFunc_extern hf hname hb hn he⟩

/-- An entry that only reckons or reads. -/
theorem Good.ext {f : FuncId} {e : Array Value → Sem Value} (h : Ext P f e) {o : Orc}
    (ho : ∀ args A k els, o args A k els = .ok → els = .ok ∨ ∃ v A', k v A' = .ok ∧ ∀ (ρ : RM) (w : World) (args' : Array Value), Rel ρ A w → VRs ρ args args'.toList → Gives P A v A' ρ w (e args')) : Good P f o := by
  intro args A k els hk
  rcases ho args A k els hk with h1 | ⟨v, A', h1, h2⟩
  · exact .inl h1
  · refine .inr ⟨v, A', h1, fun ρ w args' hr ha => ?_⟩
    obtain ⟨ρ', w', v', q1, q2, q3, q4⟩ := h2 ρ w args' hr ha
    exact .inr (.inl ⟨ρ', w', v', q1, q2, q3, by rw [h.run, q4]; rfl⟩)

theorem VRs.one1 {ρ : RM} {v : AV} {as : Array Value} (h : VRs ρ [v] as.toList) : ∃ v', as = #[v'] ∧ VR ρ v v' := by
  obtain ⟨l⟩ := as
  cases h with
  | cons a b => cases b; exact ⟨_, rfl, a⟩
theorem VRs.two {ρ : RM} {u v : AV} {as : Array Value} (h : VRs ρ [u, v] as.toList) : ∃ u' v', as = #[u', v'] ∧ VR ρ u u' ∧ VR ρ v v' := by
  obtain ⟨l⟩ := as
  cases h with
  | cons a b => cases b with
    | cons b c => cases c; exact ⟨_, _, rfl, a, b⟩
theorem VRs.three {ρ : RM} {u v x : AV} {as : Array Value} (h : VRs ρ [u, v, x] as.toList) : ∃ u' v' x', as = #[u', v', x'] ∧ VR ρ u u' ∧ VR ρ v v' ∧ VR ρ x x' := by
  obtain ⟨l⟩ := as
  cases h with
  | cons a b => cases b with
    | cons b c => cases c with
      | cons c d => cases d; exact ⟨_, _, _, rfl, a, b, c⟩

/-! ### Marks, sameness -/
noncomputable def orcNil : Orc := fun _ A k _ => k (.tup []) A
theorem good_mark0 {f : FuncId} {m : Mark} (h : Ext P f (fun _ => do mark m; pure Extern.Race.none_)) : Good P f orcNil :=
  .ext h fun _ _ _ _ hk => .inr ⟨_, _, hk, fun ρ w _ hr _ => ⟨ρ, w, _, .refl, hr, .tup .nil, rfl⟩⟩

noncomputable def orcMark : Orc := fun args A k els => match args with
  | [.ptr _ _] => k (.tup []) A
  | _ => els
theorem good_marked {f : FuncId} {m : Addr → Mark} (h : Ext P f (Extern.Race.marked m)) : Good P f orcMark :=
  .ext h fun args A k els hk => by
    unfold orcMark at hk
    split at hk
    · refine .inr ⟨_, _, hk, fun ρ w as hr ha => ?_⟩
      obtain ⟨v', rfl, hv⟩ := ha.one1
      cases hv
      exact ⟨ρ, w, _, .refl, hr, .tup .nil, rfl⟩
    · exact .inl hk

noncomputable def orcId : Orc := fun args A k els => match args with
  | [v] => k v A
  | _ => els
theorem good_same {f : FuncId} (h : Ext P f Extern.AbiNoEscape.same) : Good P f orcId :=
  .ext h fun args A k els hk => by
    unfold orcId at hk
    split at hk
    · refine .inr ⟨_, _, hk, fun ρ w as hr ha => ?_⟩
      obtain ⟨v', rfl, hv⟩ := ha.one1
      exact ⟨ρ, w, _, .refl, hr, hv, rfl⟩
    · exact .inl hk

/-! ### Bytes of strings -/
def idxB (c : Nat) : List Nat → Nat → Int
  | [], _ => .negSucc 0
  | b :: l, i => if Nat.beq b c then .ofNat i else idxB c l (i + 1)
def countB (c : Nat) : List Nat → Nat → Nat
  | [], n => n
  | b :: l, n => if Nat.beq b c then countB c l (n + 1) else countB c l n

theorem toUInt8_beq {b : UInt8} {c : Nat} (hc : c < 256) : Nat.beq b.toNat c = (b == c.toUInt8) := by
  rw [Bool.eq_iff_iff, Nat.beq_eq, beq_iff_eq]
  constructor
  · intro h; subst h; simp
  · rintro rfl
    show (UInt8.ofNat c).toNat = c
    rw [UInt8.toNat_ofNat']
    exact Nat.mod_eq_of_lt hc

theorem idxB_eq {c : Nat} (hc : c < 256) : ∀ (l : List UInt8) (i : Nat), idxB c (l.map (·.toNat)) i = if Lib.indexByte l c.toUInt8 == -1 then -1 else Lib.indexByte l c.toUInt8 + i
  | [], i => rfl
  | b :: l, i => by
    simp only [List.map_cons, idxB, toUInt8_beq hc, Lib.indexByte]
    by_cases hb : (b == c.toUInt8) = true
    · simp [hb]
    · have hb' : (b == c.toUInt8) = false := by simpa using hb
      simp only [hb', Bool.false_eq_true, if_false]
      rw [idxB_eq hc l (i + 1)]
      have hge := Lib.indexByte_ge l c.toUInt8
      by_cases h1 : (Lib.indexByte l c.toUInt8 == -1) = true
      · simp [h1]
      · have h1' : (Lib.indexByte l c.toUInt8 == -1) = false := by simpa using h1
        simp only [h1', Bool.false_eq_true, if_false]
        have hne : ¬ Lib.indexByte l c.toUInt8 = -1 := by simpa using h1
        have h2 : (Lib.indexByte l c.toUInt8 + 1 == -1) = false := by rw [beq_eq_false_iff_ne]; omega
        simp only [h2, Bool.false_eq_true, if_false]
        omega
theorem countB_eq {c : Nat} (hc : c < 256) : ∀ (l : List UInt8) (n : Nat), countB c (l.map (·.toNat)) n = Lib.countByte l c.toUInt8 + n
  | [], n => by simp [countB, Lib.countByte]
  | b :: l, n => by
    simp only [List.map_cons, countB, toUInt8_beq hc, Lib.countByte, List.count_cons]
    by_cases hb : (b == c.toUInt8) = true
    · simp only [hb, if_true]; rw [countB_eq hc l (n + 1)]; simp only [Lib.countByte]; omega
    · have hb' : (b == c.toUInt8) = false := by simpa using hb
      simp only [hb', Bool.false_eq_true, if_false]; rw [countB_eq hc l n]; simp [Lib.countByte]

noncomputable def orcIndexByte : Orc := fun args A k els => match args with
  | [.str l, .int .u8 (.ofNat c)] => match Nat.blt c 256 with
    | true => k (.int .i64 (idxB c l 0)) A
    | false => els
  | _ => els
theorem good_indexByte {f : FuncId} (h : Ext P f Extern.BytealgIndexByte.indexByte) : Good P f orcIndexByte :=
  .ext h fun args A k els hk => by
    unfold orcIndexByte at hk
    split at hk
    · rename_i l c
      split at hk
      · rename_i hc
        have hc' : c < 256 := (blt_iff _ _).1 hc
        refine .inr ⟨_, _, hk, fun ρ w as hr ha => ?_⟩
        obtain ⟨u', v', rfl, hu, hv⟩ := ha.two
        cases hu; rename_i s; cases hv
        refine ⟨ρ, w, _, .refl, hr, .int _ _, ?_⟩
        have := Lib.run_indexByteString (P := P) s (.ofNat c) w
        rw [this]
        congr 2
        have e := idxB_eq hc' s.data.toList 0
        have hge := Lib.indexByte_ge s.data.toList c.toUInt8
        show Lib.indexByte s.data.toList c.toUInt8 = idxB c (bytesOf s) 0
        rw [show bytesOf s = s.data.toList.map (·.toNat) from rfl, e]
        split
        · rename_i h1; simpa using h1
        · simp
      · exact .inl hk
    · exact .inl hk

noncomputable def orcCount : Orc := fun args A k els => match args with
  | [.str l, .int .u8 (.ofNat c)] => match Nat.blt c 256 with
    | true => k (.int .i64 (.ofNat (countB c l 0))) A
    | false => els
  | _ => els
theorem good_count {f : FuncId} (h : Ext P f Extern.BytealgCount.count) : Good P f orcCount :=
  .ext h fun args A k els hk => by
    unfold orcCount at hk
    split at hk
    · rename_i l c
      split at hk
      · rename_i hc
        have hc' : c < 256 := (blt_iff _ _).1 hc
        refine .inr ⟨_, _, hk, fun ρ w as hr ha => ?_⟩
        obtain ⟨u', v', rfl, hu, hv⟩ := ha.two
        cases hu; rename_i s; cases hv
        refine ⟨ρ, w, _, .refl, hr, .int _ _, ?_⟩
        have := Lib.run_countString (P := P) s (.ofNat c) w
        rw [this]
        congr 2
        have e := countB_eq hc' s.data.toList 0
        show ((Lib.countByte s.data.toList c.toUInt8 : Nat) : Int) = Int.ofNat (countB c (bytesOf s) 0)
        rw [show bytesOf s = s.data.toList.map (·.toNat) from rfl, e]
        simp
      · exact .inl hk
    · exact .inl hk

end Go.AM
