/-
  THE MACHINE 'AM': its operations that touch no memory, the third part: slices, aggregates, addresses; 'pureV_sound'.
-/
import Derived.Test.YtcjilddpkekcgaaAmPure2
namespace Go.AM
variable {P : Program} {ρ : RM} {w : World}

theorem binV_sound {op : BinOp} {t : TypeId} {x y : Operand} {a b v : AV} {a' b' : Value} (h : binV P op t x y a b = some v) (ha : VR ρ a a') (hb : VR ρ b b') (w : World) :
    ∃ v', VR ρ v v' ∧ (eqGuard op t x y a' b').run P w = .ok () w ∧ (Go.binOp op t a' b').run P w = .ok v' w := by
  unfold binV at h
  split at h
  · rename_i k m k' n
    cases ha; cases hb
    have hg : (eqGuard op t x y (.int k m) (.int k' n)).run P w = .ok () w := by cases op <;> simp [eqGuard]
    split at h
    · obtain ⟨v', h1, h2⟩ := shiftOp_sound (P := P) (ρ := ρ) (.inl rfl) h t w; exact ⟨v', h1, hg, h2⟩
    · obtain ⟨v', h1, h2⟩ := shiftOp_sound (P := P) (ρ := ρ) (.inr rfl) h t w; exact ⟨v', h1, hg, h2⟩
    · split at h
      · rename_i hk; subst hk
        obtain ⟨v', h1, h2⟩ := intOp_sound (P := P) (ρ := ρ) h t w; exact ⟨v', h1, hg, h2⟩
      · cases h
  · cases ha; rename_i s; cases hb; rename_i s'
    obtain ⟨v', h1, h2⟩ := strOp_sound (P := P) (ρ := ρ) h t w
    exact ⟨v', h1, by cases op <;> simp [eqGuard], h2⟩
  · rename_i m n
    cases ha; cases hb; rename_i q hq
    split at h
    · split at h
      · rename_i hle
        simp only [Option.some.injEq] at h; subst h
        refine ⟨_, .bool false, by simp [eqGuard], ?_⟩
        have : m ≤ n := by simpa using hle
        have h2 : ¬ ((m : Int) > (q : Int)) := by omega
        simpa [Go.binOp, Op.intCmp] using h2
      · cases h
    · cases h
  · rename_i lo hi c
    cases ha; cases hb; rename_i q hq1 hq2
    split at h
    · split at h
      · rename_i hlt
        simp only [Option.some.injEq] at h; subst h
        refine ⟨_, .bool true, by simp [eqGuard], ?_⟩
        have : c < lo := (blt_iff _ _).1 hlt
        have h2 : (q : Int) > (c : Int) := by omega
        simpa [Go.binOp, Op.intCmp] using h2
      · split at h
        · rename_i hh
          split at h
          · rename_i hle
            simp only [Option.some.injEq] at h; subst h
            refine ⟨_, .bool false, by simp [eqGuard], ?_⟩
            have h1 := hq2 _ rfl
            have : hh ≤ c := by simpa using hle
            have h2 : ¬ ((q : Int) > (c : Int)) := by omega
            simpa [Go.binOp, Op.intCmp] using h2
          · cases h
        · cases h
    · cases h
  · rename_i hni hns _ _
    split at h
    · split at h
      · rename_i hgf
        cases e : equalV P 10000 t a b with
        | none => simp [e] at h
        | some r =>
          simp only [e, Option.some.injEq] at h; subst h
          have hq := equalV_sound (P := P) (ρ := ρ) 10000 t a b a' b' r e ha hb w
          refine ⟨_, .bool r, guard_sound hgf ha hb w, ?_⟩
          have : Go.binOp .eql t a' b' = (do pure (.bool (← Op.equal t a' b'))) ∨ (∃ k m k' n, a = .int k m ∧ b = .int k' n) ∨ (∃ m n, a = .str m ∧ b = .str n) := by
            cases ha <;> cases hb <;> first | exact .inl rfl | exact .inr (.inl ⟨_, _, _, _, rfl, rfl⟩) | exact .inr (.inr ⟨_, _, rfl, rfl⟩) | skip
            all_goals (simp [guardFree, AV.blind] at hgf)
          rcases this with e1 | ⟨k, m, k', n, rfl, rfl⟩ | ⟨m, n, rfl, rfl⟩
          · rw [e1]; simp [Op.equal, Op.maxDepth, hq]
          · exact absurd rfl (hni _ _ _ _ rfl)
          · exact absurd rfl (hns _ _ rfl)
      · cases h
    · split at h
      · rename_i hgf
        cases e : equalV P 10000 t a b with
        | none => simp [e] at h
        | some r =>
          simp only [e, Option.some.injEq] at h; subst h
          have hq := equalV_sound (P := P) (ρ := ρ) 10000 t a b a' b' r e ha hb w
          refine ⟨_, .bool (!r), guard_sound hgf ha hb w, ?_⟩
          have : Go.binOp .neq t a' b' = (do pure (.bool (!(← Op.equal t a' b')))) ∨ (∃ k m k' n, a = .int k m ∧ b = .int k' n) ∨ (∃ m n, a = .str m ∧ b = .str n) := by
            cases ha <;> cases hb <;> first | exact .inl rfl | exact .inr (.inl ⟨_, _, _, _, rfl, rfl⟩) | exact .inr (.inr ⟨_, _, rfl, rfl⟩) | skip
            all_goals (simp [guardFree, AV.blind] at hgf)
          rcases this with e1 | ⟨k, m, k', n, rfl, rfl⟩ | ⟨m, n, rfl, rfl⟩
          · rw [e1]; simp [Op.equal, Op.maxDepth, hq]
          · exact absurd rfl (hni _ _ _ _ rfl)
          · exact absurd rfl (hns _ _ rfl)
      · cases h
    · cases h

theorem unV_sound {op : UnOp} {a v : AV} {a' : Value} (h : unV op a = some v) (ha : VR ρ a a') (w : World) : ∃ v', VR ρ v v' ∧ (Op.unary op a').run P w = .ok v' w := by
  unfold unV at h
  split at h
  · cases ha; simp only [Option.some.injEq] at h; subst h; exact ⟨_, .bool _, by simp [Op.unary]⟩
  · rename_i k n; cases ha; simp only [Option.some.injEq] at h; subst h; exact ⟨_, .int _ _, by simp [Op.unary, Op.intArith, wrapK_eq, show Int.sub 0 n = -n from Int.zero_sub n]⟩
  · rename_i k n
    split at h
    · rename_i hk
      split at h
      · rename_i hn
        cases ha
        simp only [Option.some.injEq] at h; subst h
        have hhi : inK k (.ofNat (IntKind.hi k - 1)) = true := ofNat_inK (by cases k <;> decide)
        have hx : intOp .xor k (.ofNat (IntKind.hi k - 1)) (.ofNat n) = some (.int k (.ofNat (Nat.xor (IntKind.hi k - 1) n))) := by simp only [intOp, hhi, hn, Bool.and_self, if_true]
        obtain ⟨v', h1, h2⟩ := intOp_sound (P := P) (ρ := ρ) hx 0 w
        refine ⟨v', h1, ?_⟩
        have hm : k.max = (.ofNat (IntKind.hi k - 1) : Int) := by cases k <;> first | (exact absurd hk (by decide)) | decide
        simpa [Op.unary, hk, hm, Go.binOp] using h2
      · cases h
    · rename_i hk
      cases ha
      obtain ⟨v', h1, h2⟩ := bitsSlow_sound (P := P) (ρ := ρ) h 0 w
      exact ⟨v', h1, by simpa [Op.unary, hk, Go.binOp] using h2⟩
  · rename_i k n
    split at h
    · rename_i hk
      cases ha
      obtain ⟨v', h1, h2⟩ := bitsSlow_sound (P := P) (ρ := ρ) h 0 w
      exact ⟨v', h1, by simpa [Op.unary, hk, Go.binOp] using h2⟩
    · cases h
  · cases h

theorem convV_sound {s d : TypeId} {a v : AV} {a' : Value} (h : convV P s d a = some v) (ha : VR ρ a a') (w : World) : ∃ v', VR ρ v v' ∧ (Go.convert s d a').run P w = .ok v' w := by
  unfold convV at h
  cases hs : P.underlying s with
  | none => simp [hs] at h
  | some ds =>
    simp only [hs] at h
    split at h
    · rename_i k k' n hd; cases ha; simp only [Option.some.injEq] at h; subst h
      refine ⟨_, .int _ _, ?_⟩
      have hk : P.intKind d = k := by simp [Program.intKind, hd]
      have := run_convert_int w s d k' n (by rw [hs]; rfl) (by rw [hk]; exact hd)
      rw [hk] at this; rw [this, wrapK_eq]
    · rename_i l hd; cases ha; simp only [Option.some.injEq] at h; subst h
      refine ⟨_, .str _, ?_⟩
      simp only [Go.convert, Sem.run_bind, run_underlying hs, run_underlying hd, Result.andThen_ok]
      cases ds <;> rfl
    · cases h

/-! ### Slices -/
theorem upTo_sound {v : AV} {n m : Nat} {v' : Value} (h : upTo v n = some m) (hv : VR ρ v v') : m ≤ n ∧ ∃ k, v' = .int k m := by
  unfold upTo at h
  split at h
  · split at h
    · rename_i k m' hle; simp only [Option.some.injEq] at h; subst h; cases hv; exact ⟨by simpa using hle, _, rfl⟩
    · cases h
  · cases h
theorem below_sound {v : AV} {n m : Nat} {v' : Value} (h : below v n = some m) (hv : VR ρ v v') : m < n ∧ ∃ k, v' = .int k m := by
  unfold below at h
  split at h
  · split at h
    · rename_i k m' hle; simp only [Option.some.injEq] at h; subst h; cases hv; exact ⟨(blt_iff _ _).1 hle, _, rfl⟩
    · cases h
  · cases h

theorem run_sliceBound {k : IntKind} {m y : Nat} (h : m ≤ y) (c : BoundsCode) (w : World) : (Instr.sliceBound (.int k m) y c).run P w = .ok m w := by
  have : (0 : Int) ≤ (m : Int) ∧ (m : Int) ≤ y := ⟨by omega, by omega⟩
  simp [Instr.sliceBound, asIntOf, this]

inductive OVR (ρ : RM) : Option AV → Option Value → Prop
  | none : OVR ρ none none
  | some {v : AV} {v' : Value} : VR ρ v v' → OVR ρ (some v) (some v')

/-- The bounds, in a world where the capacity is at least as great. -/
theorem bounds_sound {len cap cap' : Nat} {lo hi mx : Option AV} {lo' hi' mx' : Option Value} {l h m : Nat} (hb : bounds len cap lo hi mx = some (l, h, m))
    (hlo : OVR ρ lo lo') (hhi : OVR ρ hi hi') (hmx : OVR ρ mx mx') (hcap : cap ≤ cap') (hlen : len ≤ cap) (b : Bool) (w : World) :
    (Instr.sliceBounds b len cap' lo' hi' mx').run P w = .ok (l, h, if mx.isSome then m else cap') w ∧ l ≤ h ∧ h ≤ m ∧ m ≤ cap ∧ (mx = none → m = cap) := by
  unfold bounds at hb
  cases hmx with
  | none =>
    simp only at hb
    cases hhi with
    | none =>
      simp only at hb
      cases hlo with
      | none => simp only [Option.some.injEq, Prod.mk.injEq] at hb; obtain ⟨rfl, rfl, rfl⟩ := hb; exact ⟨by simp [Instr.sliceBounds], by omega, hlen, by omega, fun _ => rfl⟩
      | some hv =>
        simp only at hb
        split at hb
        · cases hb
        · rename_i lv hu
          simp only [Option.some.injEq, Prod.mk.injEq] at hb; obtain ⟨rfl, rfl, rfl⟩ := hb
          obtain ⟨h1, k, rfl⟩ := upTo_sound hu hv
          exact ⟨by simp [Instr.sliceBounds, run_sliceBound h1], h1, hlen, by omega, fun _ => rfl⟩
    | some hhv =>
      simp only at hb
      split at hb
      · cases hb
      · rename_i hval hhu
        obtain ⟨h2, k2, rfl⟩ := upTo_sound hhu hhv
        cases hlo with
        | none => simp only [Option.some.injEq, Prod.mk.injEq] at hb; obtain ⟨rfl, rfl, rfl⟩ := hb; exact ⟨by simp [Instr.sliceBounds, run_sliceBound (Nat.le_trans h2 hcap)], by omega, h2, by omega, fun _ => rfl⟩
        | some hv =>
          simp only at hb
          split at hb
          · cases hb
          · rename_i lv hu
            simp only [Option.some.injEq, Prod.mk.injEq] at hb; obtain ⟨rfl, rfl, rfl⟩ := hb
            obtain ⟨h1, k, rfl⟩ := upTo_sound hu hv
            exact ⟨by simp [Instr.sliceBounds, run_sliceBound (Nat.le_trans h2 hcap), run_sliceBound h1], h1, h2, by omega, fun _ => rfl⟩
  | some hmv =>
    simp only at hb
    split at hb
    · cases hb
    · rename_i mval hmu
      obtain ⟨h3, k3, rfl⟩ := upTo_sound hmu hmv
      cases hhi with
      | none => simp only at hb; cases hb
      | some hhv =>
        simp only at hb
        split at hb
        · cases hb
        · rename_i hval hhu
          obtain ⟨h2, k2, rfl⟩ := upTo_sound hhu hhv
          cases hlo with
          | none => simp only [Option.some.injEq, Prod.mk.injEq] at hb; obtain ⟨rfl, rfl, rfl⟩ := hb; exact ⟨by simp [Instr.sliceBounds, run_sliceBound (Nat.le_trans h3 hcap), run_sliceBound h2], by omega, h2, h3, fun e => by cases e⟩
          | some hv =>
            simp only at hb
            split at hb
            · cases hb
            · rename_i lv hu
              simp only [Option.some.injEq, Prod.mk.injEq] at hb; obtain ⟨rfl, rfl, rfl⟩ := hb
              obtain ⟨h1, k, rfl⟩ := upTo_sound hu hv
              exact ⟨by simp [Instr.sliceBounds, run_sliceBound (Nat.le_trans h3 hcap), run_sliceBound h2, run_sliceBound h1], h1, h2, h3, fun e => by cases e⟩

theorem bytesOf_extract (s : ByteArray) (l h : Nat) : bytesOf (s.extract l h) = ((bytesOf s).drop l).take (h - l) := by
  simp only [bytesOf, ByteArray.data_extract, Array.toList_extract, List.extract]
  simp [List.map_take, List.map_drop]

theorem addr_add (B o n : Nat) : (⟨B, o, none⟩ : Addr).add n = ⟨B, o + n, none⟩ := by unfold Addr.add; split <;> simp_all

theorem pfs_drop {l : List AV} (h : AV.pfs l = true) (n : Nat) : AV.pfs (l.drop n) = true := by
  rw [AV.pfs_all, List.all_eq_true] at h ⊢
  exact fun x hx => h x (List.mem_of_mem_drop hx)
theorem pfs_take {l : List AV} (h : AV.pfs l = true) (n : Nat) : AV.pfs (l.take n) = true := by
  rw [AV.pfs_all, List.all_eq_true] at h ⊢
  exact fun x hx => h x (List.mem_of_mem_take hx)
theorem pf_get {l : List AV} (h : AV.pfs l = true) {i : Nat} {v : AV} (e : l[i]? = some v) : AV.pf v = true := by
  rw [AV.pfs_all, List.all_eq_true] at h
  exact h v (List.mem_of_getElem? e)
theorem VRs.cut {l : List AV} {d : List Value} (h : VRs ρ l (d.take l.length)) (x y : Nat) : VRs ρ ((l.drop x).take y) ((d.drop x).take ((l.drop x).take y).length) := by
  have h1 := (h.drop x).take y
  have e : ((d.take l.length).drop x).take y = (d.drop x).take ((l.drop x).take y).length := by
    rw [List.drop_take, List.take_take]
    simp only [List.length_take, List.length_drop]
  rwa [e] at h1

theorem sliceV_sound {t : TypeId} {x v : AV} {lo hi mx : Option AV} {x' : Value} {lo' hi' mx' : Option Value} (h : sliceV P t x lo hi mx = some v) (hx : VR ρ x x')
    (hlo : OVR ρ lo lo') (hhi : OVR ρ hi hi') (hmx : OVR ρ mx mx') (w : World) : ∃ v', VR ρ v v' ∧ (Instr.sliceAt t x' lo' hi' mx').run P w = .ok v' w := by
  unfold sliceV at h
  split at h
  · rename_i l hu
    cases hx; rename_i s
    split at h
    · cases h
    · cases hmx
      split at h
      · rename_i a b m hb
        simp only [Option.some.injEq] at h; subst h
        rw [bytesOf_length] at hb
        obtain ⟨h1, h2, h3, h4, _⟩ := bounds_sound (P := P) hb hlo hhi .none (Nat.le_refl _) (Nat.le_refl _) false w
        refine ⟨.string (s.extract a b), ?_, ?_⟩
        · rw [← bytesOf_extract]; exact .str _
        · simp [Instr.sliceAt, run_underlying hu, Instr.slice, h1]
      · cases h
  · rename_i e p off len cap soft hu
    cases hx with | @slice _ _ _ _ _ rb off' cap' hm hcap hoff hlen =>
    split at h
    · rename_i n l hh m hs hb
      simp only [Option.some.injEq] at h; subst h
      have hle : cap ≤ cap' := by rw [hcap]; omega
      obtain ⟨h1, h2, h3, h4, h5⟩ := bounds_sound (P := P) hb hlo hhi hmx hle hlen true w
      refine ⟨.slice (if (if mx.isSome then m else cap') = l then some ⟨rb.blk, off', none⟩ else some ⟨rb.blk, off' + l * n, none⟩) (hh - l) ((if mx.isSome then m else cap') - l), ?_, ?_⟩
      · have hV : ∀ (sf : Bool) o2 c2, c2 = (m - l) + (if sf = true then rb.extra else 0) → (c2 = 0 ∨ o2 = rb.shift + (off + l * n)) →
            VR ρ (.slice p (off + l * n) (hh - l) (m - l) sf) (.slice (some ⟨rb.blk, o2, none⟩) (hh - l) c2) :=
          fun sf o2 c2 hc ho => .slice hm hc ho (by omega)
        cases hmx with
        | none =>
          have := h5 rfl; subst this
          simp only [Option.isSome_none, Bool.false_eq_true, if_false]
          split
          · rename_i e0; exact hV _ _ _ (by rw [hcap] at e0 ⊢; split <;> simp_all <;> omega) (.inl (by omega))
          · rename_i e0; exact hV _ _ _ (by rw [hcap]; omega) (.inr (by rcases hoff with ho | ho <;> omega))
        | some _ =>
          simp only [Option.isSome_some, if_true]
          split
          · exact hV _ _ _ (by simp) (.inl (by omega))
          · rename_i e0; exact hV _ _ _ (by simp) (.inr (by rcases hoff with ho | ho <;> omega))
      · simp only [Instr.sliceAt, Sem.run_bind, run_underlying hu, Result.andThen_ok, Instr.slice, h1, run_sizeT hs, Sem.run_pure, Option.map_some, addr_add]
    · cases h
  · rename_i e hu
    cases hx
    split at h
    · rename_i n q hs hb
      obtain ⟨l, hh, m⟩ := q
      simp only [Option.some.injEq] at h; subst h
      obtain ⟨h1, h2, h3, h4, h5⟩ := bounds_sound (P := P) hb hlo hhi hmx (Nat.le_refl _) (Nat.le_refl _) true w
      have : m = 0 := by omega
      subst this
      obtain rfl : hh = 0 := by omega
      obtain rfl : l = 0 := by omega
      refine ⟨_, .nils, ?_⟩
      have h1' : (Instr.sliceBounds true 0 0 lo' hi' mx').run P w = .ok (0, 0, 0) w := by rw [h1]; cases mx <;> rfl
      simp [Instr.sliceAt, run_underlying hu, Instr.slice, h1', run_sizeT hs]
    · cases h
  · rename_i e hu
    cases hx with | @e0 a hok =>
    split at h
    · rename_i n q hs hb
      obtain ⟨l, hh, m⟩ := q
      simp only [Option.some.injEq] at h; subst h
      obtain ⟨h1, h2, h3, h4, h5⟩ := bounds_sound (P := P) hb hlo hhi hmx (Nat.le_refl _) (Nat.le_refl _) true w
      have : m = 0 := by omega
      subst this
      obtain rfl : hh = 0 := by omega
      obtain rfl : l = 0 := by omega
      refine ⟨_, .e0 hok, ?_⟩
      have h1' : (Instr.sliceBounds true 0 0 lo' hi' mx').run P w = .ok (0, 0, 0) w := by rw [h1]; cases mx <;> rfl
      simp [Instr.sliceAt, run_underlying hu, Instr.slice, h1', run_sizeT hs]
    · cases h
  · rename_i e c0 len hu
    split at h
    · rename_i n l hh m hs hb
      simp only [Option.some.injEq] at h
      have key : ∀ (a : Option Addr) (cap' : Nat), x' = .slice a len cap' → len ≤ cap' → (∀ k, (if mx.isSome then m else cap') = k → ∀ a', a' = (if k = l then a else a.map (·.add (l * n))) → VR ρ v (.slice a' (hh - l) (k - l))) →
          ∃ v', VR ρ v v' ∧ (Instr.sliceAt t x' lo' hi' mx').run P w = .ok v' w := by
        intro a cap' hx' hle hV
        obtain ⟨h1, h2, h3, h4, h5⟩ := bounds_sound (P := P) hb hlo hhi hmx hle (Nat.le_refl _) true w
        refine ⟨_, hV _ rfl _ rfl, ?_⟩
        subst hx'
        simp only [Instr.sliceAt, Sem.run_bind, run_underlying hu, Result.andThen_ok, Instr.slice, h1, run_sizeT hs, Sem.run_pure]
      cases hx with
      | @fz _ _ b off cap' c d hfr hd hvs hle hpf =>
        refine key _ _ rfl hle fun k hk a' ha' => ?_
        obtain ⟨h1, h2, h3, h4, h5⟩ := bounds_sound (P := P) hb hlo hhi hmx hle (Nat.le_refl _) true w
        have hkm : m ≤ k := by
          rw [← hk]; split
          · exact Nat.le_refl _
          · omega
        have empty : hh - l = 0 → VR ρ (.fz ((c0.drop (l * n)).take ((hh - l) * n)) (hh - l)) (.slice a' (hh - l) (k - l)) := by
          intro e0
          rw [e0, Nat.zero_mul, List.take_zero]
          subst ha'
          refine .fz0 ?_ fun e1 => ?_
          · split
            · exact okA.some _ _
            · show okA (some ((⟨b, off, none⟩ : Addr).add (l * n)))
              rw [addr_add]; exact okA.some _ _
          · split at e1 <;> cases e1
        have full : 0 < hh - l → VR ρ (.fz ((c0.drop (l * n)).take ((hh - l) * n)) (hh - l)) (.slice a' (hh - l) (k - l)) := by
          intro e0
          rw [if_neg (by omega)] at ha'
          subst ha'
          show VR ρ _ (.slice (some ((⟨b, off, none⟩ : Addr).add (l * n))) _ _)
          rw [addr_add]
          refine .fz hfr rfl ?_ (by omega) (pfs_take (pfs_drop hpf _) _)
          rw [← List.drop_drop, hd]
          exact hvs.cut _ _
        split at h
        · rename_i hmx' hm0
          subst h
          have hm1 : m - l = 0 := hm0
          have hk' : k = m := by simpa using hk.symm
          rw [show hh - l = 0 by omega, show k - l = 0 by omega]
          subst ha'
          refine .e0 ?_
          split
          · exact okA.some _ _
          · show okA (some ((⟨b, off, none⟩ : Addr).add (l * n)))
            rw [addr_add]; exact okA.some _ _
        · subst h
          by_cases e0 : hh - l = 0
          · exact empty e0
          · exact full (by omega)
      | @fz0 a cap' hok ha =>
        refine key _ _ rfl (Nat.zero_le _) fun k hk a' ha' => ?_
        obtain ⟨h1, h2, h3, h4, h5⟩ := bounds_sound (P := P) hb hlo hhi hmx (Nat.zero_le cap') (Nat.le_refl _) true w
        obtain rfl : m = 0 := by omega
        obtain rfl : hh = 0 := by omega
        obtain rfl : l = 0 := by omega
        split at h
        · subst h
          have hk' : k = 0 := by simpa using hk.symm
          subst hk'
          rw [if_pos rfl] at ha'
          subst ha'
          exact .e0 hok
        · subst h
          simp only [Nat.zero_mul, List.drop_zero, Nat.sub_zero, List.take_zero]
          subst ha'
          refine .fz0 ?_ fun e1 => ?_
          · split
            · exact hok
            · cases a with
              | none => exact okA.none
              | some x => trivial
          split at e1
          · rename_i e2; exact e2
          · cases a with
            | none =>
              have := ha rfl
              subst this
              split at hk <;> omega
            | some _ => cases e1
    · cases h
  · rename_i k e p off hu
    cases hx; rename_i rb hm
    split at h
    · rename_i n l hh m hs hb
      simp only [Option.some.injEq] at h; subst h
      obtain ⟨h1, h2, h3, h4, h5⟩ := bounds_sound (P := P) hb hlo hhi hmx (Nat.le_refl _) (Nat.le_refl _) false w
      have h1' : (Instr.sliceBounds false k k lo' hi' mx').run P w = .ok (l, hh, m) w := by
        rw [h1]; cases mx with
        | none => simp [h5 rfl]
        | some _ => rfl
      refine ⟨.slice (some (if m = l then ⟨rb.blk, rb.shift + off, none⟩ else ⟨rb.blk, rb.shift + off + l * n, none⟩)) (hh - l) (m - l), ?_, ?_⟩
      · split
        · exact .slice hm (by simp) (.inl (by omega)) (by omega)
        · exact .slice hm (by simp) (.inr (by omega)) (by omega)
      · simp only [Instr.sliceAt, Sem.run_bind, run_underlying hu, Result.andThen_ok, Instr.sureAddr, Sem.run_pure, h1', run_sizeT hs, addr_add]
    · cases h
  · cases h

/-! ### Aggregates -/
theorem layIn_length (cs : List AV) (off : Nat) (v : List AV) (h : off + v.length ≤ cs.length) : (layIn cs off v).length = cs.length := by
  simp [layIn]; omega

theorem take_set_succ {α : Type} (v : α) : ∀ (l : List α) (a : Nat), a < l.length → (l.set a v).take (a + 1) = l.take a ++ [v]
  | [], _, h => by simp at h
  | _ :: _, 0, _ => by simp
  | _ :: l, a + 1, h => by simp [take_set_succ v l a (by simpa using h)]
theorem foldl_setIfInBounds : ∀ (vs : List Value) (k off : Nat) (cs : Array Value), off + k + vs.length ≤ cs.size →
    ((vs.zipIdx k).foldl (fun cs (c, j) => cs.setIfInBounds (off + j) c) cs).toList = cs.toList.take (off + k) ++ vs ++ cs.toList.drop (off + k + vs.length)
  | [], k, off, cs, h => by simp
  | v :: vs, k, off, cs, h => by
    simp only [List.zipIdx_cons, List.foldl_cons]
    simp only [List.length_cons] at h
    have hsz : (cs.setIfInBounds (off + k) v).size = cs.size := Array.size_setIfInBounds
    rw [foldl_setIfInBounds vs (k + 1) off _ (by rw [hsz]; omega), Array.toList_setIfInBounds, show off + (k + 1) = off + k + 1 from rfl,
      take_set_succ _ _ _ (by rw [Array.length_toList]; omega), List.drop_set_of_lt (by omega), List.append_assoc, List.length_cons, show off + k + 1 + vs.length = off + k + (vs.length + 1) by omega]
    simp

/-- Parts with their places. -/
inductive PVs (ρ : RM) : List (Nat × AV) → List (Nat × Value) → Prop
  | nil : PVs ρ [] []
  | cons {i : Nat} {v : AV} {v' : Value} {l : List (Nat × AV)} {l' : List (Nat × Value)} : VR ρ v v' → PVs ρ l l' → PVs ρ ((i, v) :: l) ((i, v') :: l')

theorem fillV_sound {place place' : Nat → Option (Nat × Nat)} (hp : ∀ i q, place i = some q → place' i = some q) : ∀ {parts : List (Nat × AV)} {parts' : List (Nat × Value)} {cs r : List AV} {cs' : Array Value},
    fillV place cs parts = some r → VRs ρ cs cs'.toList → PVs ρ parts parts' →
    ∃ r', Instr.fill place' cs' parts' = some r' ∧ VRs ρ r r'.toList
  | [], parts', cs, r, cs', h, hc, hl => by
    cases hl; simp only [fillV, Option.some.injEq] at h; subst h; exact ⟨cs', rfl, hc⟩
  | (i, v) :: rest, parts', cs, r, cs', h, hc, hl => by
    cases hl with
    | @cons _ _ v' _ l' h2 hr =>
      simp only [fillV] at h
      cases e : place i with
      | none => simp [e] at h
      | some q =>
        obtain ⟨off, size⟩ := q
        simp only [e] at h
        split at h
        · rename_i hc2
          obtain ⟨hany, hs, hle⟩ := hc2
          have hcells := h2.cells hany
          have hlen : v.cells.length = v'.cells.size := by simpa using hcells.length
          have hlen2 : cs.length = cs'.size := by simpa using hc.length
          have hnew : VRs ρ (layIn cs off v.cells) ((v'.cells.zipIdx.foldl (fun cs (c, j) => cs.setIfInBounds (off + j) c) cs')).toList := by
            have := foldl_setIfInBounds v'.cells.toList 0 off cs' (by simp; omega)
            simp only [Nat.add_zero] at this
            rw [← Array.foldl_toList, Array.toList_zipIdx, this]
            have := ((hc.take off).append hcells).append (hc.drop (off + v.cells.length))
            simpa [layIn, hlen] using this
          obtain ⟨r', h3, h4⟩ := fillV_sound hp h hnew hr
          refine ⟨r', ?_, h4⟩
          simp only [Instr.fill, hp i _ e]
          rw [if_neg (by simp [← hlen, hs, ← hlen2]; omega)]
          exact h3
        · cases h

theorem evParts_sound {tm : Tm} {a : Act} : ∀ {l : List (Nat × Operand)} {r : List (Nat × AV)}, OpdRel ρ tm a (l.map (·.2)) → evParts tm l = some r →
    PVs ρ r (l.map fun (i, x) => (i, a.eval x))
  | [], r, _, h => by simp [evParts] at h; subst h; exact .nil
  | (i, x) :: l, r, ho, h => by
    simp only [evParts] at h
    cases e : ev tm x with
    | none => simp [e] at h
    | some v =>
      cases e2 : evParts tm l with
      | none => simp [e, e2] at h
      | some q => simp [e, e2] at h; subst h; exact .cons (ho x (by simp) v e) (evParts_sound (fun y hy => ho y (by simp only [List.map_cons, List.mem_cons]; exact .inr hy)) e2)

theorem zeroT_sound {t : TypeId} {z : AV} (h : zeroT P t = some z) : ∃ z', VR ρ z z' ∧ ∀ w, (zeroValue t).run P w = .ok z' w := by
  unfold zeroT at h
  cases hi : P.info? t with
  | none => simp [hi] at h
  | some i =>
    simp only [hi] at h
    cases hz : i.zero with
    | none => simp [hz] at h
    | some v => simp only [hz] at h; exact ⟨v, VR.ofConst h, fun w => by simp [zeroValue, typeInfo, hi, hz]⟩

theorem run_mapM_sizes {fs : List Field} (h : fs.all (fun f => (sizeT P f.type).isSome) = true) (w : World) :
    (fs.mapM (fun f => do pure (f.offset, ← sizeOf f.type)) : Sem (List (Nat × Nat))).run P w = .ok (fs.map fun f => (f.offset, (sizeT P f.type).getD 0)) w := by
  induction fs with
  | nil => simp
  | cons f fs ih =>
    simp only [List.all_cons, Bool.and_eq_true] at h
    obtain ⟨n, hn⟩ := Option.isSome_iff_exists.1 h.1
    simp only [List.mapM_cons, Sem.run_bind, run_sizeT hn, Result.andThen_ok, Sem.run_pure, ih h.2, List.map_cons, hn, Option.getD_some]

theorem buildV_sound {t : TypeId} {parts : List (Nat × AV)} {parts' : List (Nat × Value)} {v : AV} (h : buildV P t parts = some v) (hp : PVs ρ parts parts') (w : World) :
    ∃ v', VR ρ v v' ∧ (Instr.build t parts'.toArray).run P w = .ok v' w := by
  unfold buildV at h
  cases hz : zeroT P t with
  | none => simp [hz] at h
  | some z =>
    simp only [hz] at h
    obtain ⟨z', hzr, hzrun⟩ := zeroT_sound (ρ := ρ) hz
    cases hu : P.underlying t with
    | none => simp [hu] at h
    | some d =>
      simp only [hu] at h
      split at h
      · rename_i fs e; simp only [Option.some.injEq] at e; subst e
        split at h
        · rename_i cs hf
          split at h
          · rename_i hall
            simp only [Option.some.injEq] at h; subst h
            have hall' : fs.toList.all (fun f => (sizeT P f.type).isSome) = true := by simpa using hall
            obtain ⟨r', hr1, hr2⟩ := fillV_sound (ρ := ρ) (place' := fun i => ((fs.toList.map fun f => (f.offset, (sizeT P f.type).getD 0)).toArray)[i]?) (fun i q hq => by
              split at hq
              · rename_i f hfi
                split at hq
                · rename_i n hn; simp only [Option.some.injEq] at hq; subst hq; simp [hfi, hn]
                · cases hq
              · cases hq) hf (hzr.cells (zeroT_isAny hz)) hp
            refine ⟨.agg r', .agg hr2, ?_⟩
            simp only [Instr.build, Sem.run_bind, hzrun, run_underlying hu, Result.andThen_ok]
            rw [Array.mapM_eq_mapM_toList]
            simp only [Sem.run_map, run_mapM_sizes hall', Result.andThen_ok]
            simp only [List.getElem?_toArray, List.getElem?_map, Array.getElem?_toList] at hr1
            simp [hr1]
          · cases h
        · cases h
      · rename_i n e he; simp only [Option.some.injEq] at he; subst he
        split at h
        · rename_i s hs
          split at h
          · rename_i cs hf
            simp only [Option.some.injEq] at h; subst h
            obtain ⟨r', hr1, hr2⟩ := fillV_sound (ρ := ρ) (place' := fun i => some (i * s, s)) (fun i q hq => hq) hf (hzr.cells (zeroT_isAny hz)) hp
            refine ⟨.agg r', .agg hr2, ?_⟩
            simp [Instr.build, hzrun, run_underlying hu, run_sizeT hs, hr1]
          · cases h
        · cases h
      · cases h

end Go.AM
