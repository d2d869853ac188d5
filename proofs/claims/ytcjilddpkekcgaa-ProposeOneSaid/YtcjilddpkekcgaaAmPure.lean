/-
  THE MACHINE 'AM': its operations that touch no memory give what the model's give.
-/
import Derived.Test.YtcjilddpkekcgaaAmRel
import Derived.Laws.StructEq
namespace Go.AM
variable {P : Program} {ρ : RM} {w : World}

/-! ### Types -/
theorem run_sizeT {t : TypeId} {n : Nat} (h : sizeT P t = some n) (w : World) : (sizeOf t).run P w = .ok n w := by
  unfold sizeT at h
  cases hi : P.info? t with
  | none => simp [hi] at h
  | some i => simp [hi] at h; simp [sizeOf, typeInfo, hi, h]
theorem run_typeInfoT {t : TypeId} {i : TypeInfo} (h : P.info? t = some i) (w : World) : (typeInfo t).run P w = .ok i w := by simp [typeInfo, h]
theorem run_isAggT {t : TypeId} {d : TypeDesc} (h : P.underlying t = some d) (w : World) : (isAgg t).run P w = .ok (isAggT P t) w := by
  simp only [isAgg, Sem.run_bind, run_underlying h, Result.andThen_ok, isAggT, h]
  cases d <;> rfl

theorem VRs.ofConsts : ∀ {l : List Value} {r : List AV}, (∀ v a, ofConst1 v = some a → VR ρ a v) → ofConsts l = some r → VRs ρ r l
  | [], r, _, h => by simp [Go.AM.ofConsts] at h; subst h; exact .nil
  | v :: l, r, h1, h => by
    simp only [Go.AM.ofConsts] at h
    cases e : ofConst1 v with
    | none => simp [e] at h
    | some a =>
      cases e2 : Go.AM.ofConsts l with
      | none => simp [e, e2] at h
      | some q => simp [e, e2] at h; subst h; exact .cons (h1 v a e) (VRs.ofConsts h1 e2)

theorem VR.ofConst1 {v : Value} {a : AV} (h : Go.AM.ofConst1 v = some a) : VR ρ a v := by
  unfold Go.AM.ofConst1 at h
  split at h <;> first | (cases h; constructor) | cases h

theorem VR.ofConst {v : Value} {a : AV} (h : Go.AM.ofConst v = some a) : VR ρ a v := by
  unfold Go.AM.ofConst at h
  split at h
  · split at h
    · rename_i l e; cases h; exact .agg (VRs.ofConsts (fun _ _ => VR.ofConst1) e)
    · cases h
  · split at h
    · rename_i l e; cases h; exact .iface (.agg (VRs.ofConsts (fun _ _ => VR.ofConst1) e))
    · cases h
  · split at h
    · rename_i a e; cases h; exact .iface (VR.ofConst1 e)
    · cases h
  · exact VR.ofConst1 h

theorem ofConst1_isAny {v : Value} {a : AV} (h : Go.AM.ofConst1 v = some a) : a.isAny = false := by
  unfold Go.AM.ofConst1 at h
  split at h <;> first | (cases h; rfl) | cases h
theorem ofConst_isAny {v : Value} {a : AV} (h : Go.AM.ofConst v = some a) : a.isAny = false := by
  unfold Go.AM.ofConst at h
  split at h
  · split at h <;> cases h; rfl
  · split at h <;> cases h; rfl
  · split at h <;> cases h; rfl
  · exact ofConst1_isAny h
theorem zeroT_isAny {t : TypeId} {z : AV} (h : zeroT P t = some z) : z.isAny = false := by
  unfold zeroT at h
  split at h
  · split at h
    · exact ofConst_isAny h
    · cases h
  · cases h

theorem VR.ev {tm : Tm} {a : Act} (ht : TmRel ρ tm a.tmps) {x : Operand} {v : AV} (h : Go.AM.ev tm x = some v) : VR ρ v (a.eval x) := by
  cases x with
  | tmp t =>
    obtain ⟨v', h1, h2⟩ := ht _ _ h
    rw [Pos.idx_ofNat] at h1
    have : a.eval (.tmp t) = v' := by simp [Act.eval, Array.getD_eq_getD_getElem?, h1]
    rw [this]; exact h2
  | const c => exact VR.ofConst h
  | global g =>
    simp only [Go.AM.ev, Option.some.injEq] at h
    subst h
    exact .gptr g 0
  | func f =>
    simp only [Go.AM.ev, Option.some.injEq] at h
    subst h
    have := VR.func (ρ := ρ) (f := Pos.ofNat f) (fs := []) (cs := []) (fs' := #[]) (cs' := #[]) .nil .nil
    rw [Pos.idx_ofNat] at this
    exact this

/-- The operands that are there stand for the activation's. -/
def OpdRel (ρ : RM) (tm : Tm) (a : Act) (l : List Operand) : Prop := ∀ x ∈ l, ∀ v, Go.AM.ev tm x = some v → VR ρ v (a.eval x)
theorem OpdRel.of_tm {tm : Tm} {a : Act} (ht : TmRel ρ tm a.tmps) (l : List Operand) : OpdRel ρ tm a l := fun _ _ _ h => VR.ev ht h

theorem VRs.evs' {tm : Tm} {a : Act} : ∀ {l : List Operand} {r : List AV}, OpdRel ρ tm a l → Go.AM.evs tm l = some r → VRs ρ r (l.map a.eval)
  | [], r, _, h => by simp [Go.AM.evs] at h; subst h; exact .nil
  | x :: l, r, ho, h => by
    simp only [Go.AM.evs] at h
    cases e : Go.AM.ev tm x with
    | none => simp [e] at h
    | some v =>
      cases e2 : Go.AM.evs tm l with
      | none => simp [e, e2] at h
      | some q => simp [e, e2] at h; subst h; exact .cons (ho x (by simp) v e) (VRs.evs' (fun y hy => ho y (by simp [hy])) e2)

theorem VRs.evs {tm : Tm} {a : Act} (ht : TmRel ρ tm a.tmps) : ∀ {l : List Operand} {r : List AV}, Go.AM.evs tm l = some r → VRs ρ r (l.map a.eval)
  | [], r, h => by simp [Go.AM.evs] at h; subst h; exact .nil
  | x :: l, r, h => by
    simp only [Go.AM.evs] at h
    cases e : Go.AM.ev tm x with
    | none => simp [e] at h
    | some v =>
      cases e2 : Go.AM.evs tm l with
      | none => simp [e, e2] at h
      | some q => simp [e, e2] at h; subst h; exact .cons (VR.ev ht e) (VRs.evs ht e2)

/-! ### A part of an aggregate -/
theorem run_part {t : TypeId} {cs : List AV} {off : Nat} {v : AV} {cs' : Array Value} (h : partV P t cs off = some v) (hc : VRs ρ cs cs'.toList) (w : World) :
    ∃ v', VR ρ v v' ∧ (part t cs' off).run P w = .ok v' w := by
  unfold partV at h
  cases hu : P.underlying t with
  | none => simp [hu] at h
  | some d =>
    have hagg : (isAggT P t = true) → ∃ n, sizeT P t = some n ∧ v = .agg ((cs.drop off).take n) := by
      intro ha
      simp only [isAggT, hu] at ha
      cases d <;> simp at ha <;> (simp only [hu] at h; cases hs : sizeT P t with
        | none => simp [hs] at h
        | some n => simp [hs] at h; exact ⟨n, rfl, h.symm⟩)
    by_cases ha : isAggT P t = true
    · obtain ⟨n, hn, rfl⟩ := hagg ha
      refine ⟨.agg (cs'.extract off (off + n)), .agg ?_, ?_⟩
      · have := (hc.drop off).take n
        simpa [Array.toList_extract, List.extract] using this
      · simp [part, run_isAggT hu, ha, run_sizeT hn]
    · have h2 : cs[off]? = some v := by
        simp only [isAggT, hu] at ha
        cases d <;> simp at ha <;> simpa [hu] using h
      obtain ⟨v', h3, h4⟩ := hc.get off v h2
      have h5 : cs'[off]? = some v' := by simpa using h3
      exact ⟨v', h4, by simp [part, run_isAggT hu, ha, h5]⟩

/-! ### Numbers -/
theorem blt_iff (a b : Nat) : Nat.blt a b = true ↔ a < b := by simp only [Nat.blt, Nat.ble_eq]; exact Iff.rfl
theorem wrap_in (k : IntKind) (n : Int) (h : inK k n = true) : k.wrap n = n := by
  have e8 : (2 : Int) ^ 8 = 256 := by decide
  have e16 : (2 : Int) ^ 16 = 65536 := by decide
  have e32 : (2 : Int) ^ 32 = 4294967296 := by decide
  have e64 : (2 : Int) ^ 64 = 18446744073709551616 := by decide
  have e7 : (2 : Int) ^ 7 = 128 := by decide
  have e15 : (2 : Int) ^ 15 = 32768 := by decide
  have e31 : (2 : Int) ^ 31 = 2147483648 := by decide
  have e63 : (2 : Int) ^ 63 = 9223372036854775808 := by decide
  have hb : -(IntKind.lo k : Int) ≤ n ∧ n < (IntKind.hi k : Int) := by
    cases n with
    | ofNat m => simp only [inK, Nat.blt, Nat.ble_eq] at h; simp only [Int.ofNat_eq_natCast]; omega
    | negSucc m => simp only [inK, Nat.blt, Nat.ble_eq] at h; rw [Int.negSucc_eq]; have h0 : (0 : Int) ≤ (IntKind.hi k : Int) := Int.natCast_nonneg _; have h1 : ((m + 1 : Nat) : Int) ≤ (IntKind.lo k : Int) := Int.ofNat_le.2 h; constructor <;> omega
  obtain ⟨h1, h2⟩ := hb
  cases k <;> simp only [IntKind.lo, IntKind.hi] at h1 h2 <;> simp only [IntKind.wrap, IntKind.bits, IntKind.signed, Bool.true_and, Bool.false_and, Nat.reduceSub, e8, e16, e32, e64, e7, e15, e31, e63] <;> (try simp only [decide_eq_true_eq, Bool.false_eq_true, if_false]) <;> (try split) <;> omega

theorem wrap_unsigned (k : IntKind) (m : Nat) (h : k.signed = false) : k.wrap (.ofNat m) = .ofNat (m % IntKind.hi k) := by
  have e8 : (2 : Int) ^ 8 = 256 := by decide
  have e16 : (2 : Int) ^ 16 = 65536 := by decide
  have e32 : (2 : Int) ^ 32 = 4294967296 := by decide
  have e64 : (2 : Int) ^ 64 = 18446744073709551616 := by decide
  cases k <;> first | (exact absurd h (by decide)) | (simp only [IntKind.wrap, IntKind.bits, IntKind.signed, IntKind.hi, Bool.false_and, e8, e16, e32, e64, Int.ofNat_eq_natCast]; simp)

theorem wrapK_eq (k : IntKind) (n : Int) : wrapK k n = k.wrap n := by
  unfold wrapK
  cases h : inK k n with
  | true => exact (wrap_in k n h).symm
  | false =>
    cases n with
    | ofNat m => cases k <;> first | rfl | exact (wrap_unsigned _ m rfl).symm
    | negSucc m => cases k <;> rfl

theorem inK_ofNat {k : IntKind} {a : Nat} (h : inK k (.ofNat a) = true) : a < IntKind.hi k := by
  simp only [inK, Nat.blt, Nat.ble_eq] at h; omega
theorem ofNat_inK {k : IntKind} {a : Nat} (h : a < IntKind.hi k) : inK k (.ofNat a) = true := by
  simp only [inK, Nat.blt, Nat.ble_eq]; omega
theorem hi_le (k : IntKind) : IntKind.hi k ≤ 2 ^ k.bits := by cases k <;> decide
theorem hi_pow (k : IntKind) : ∃ b, IntKind.hi k = 2 ^ b := by
  cases k <;> first | exact ⟨7, rfl⟩ | exact ⟨15, rfl⟩ | exact ⟨31, rfl⟩ | exact ⟨63, rfl⟩ | exact ⟨8, rfl⟩ | exact ⟨16, rfl⟩ | exact ⟨32, rfl⟩ | exact ⟨64, rfl⟩

theorem bits_ofInt (k : IntKind) (a : Nat) (h : a < IntKind.hi k) : (BitVec.ofInt k.bits (.ofNat a)).toNat = a := by
  have := Nat.lt_of_lt_of_le h (hi_le k)
  simp [Nat.mod_eq_of_lt this]

theorem bitsSlow_sound {op : BinOp} {k : IntKind} {x y : Int} {v : AV} (h : bitsSlow op k x y = some v) (t : TypeId) (w : World) :
    ∃ v', VR ρ v v' ∧ (Go.binOp op t (.int k x) (.int k y)).run P w = .ok v' w := by
  cases op <;> simp only [bitsSlow, Option.some.injEq] at h <;> first | (cases h; done) | (subst h; exact ⟨_, .int _ _, by simp [Go.binOp, Op.intBits]⟩)

theorem intOp_sound {op : BinOp} {k : IntKind} {x y : Int} {v : AV} (h : intOp op k x y = some v) (t : TypeId) (w : World) :
    ∃ v', VR ρ v v' ∧ (Go.binOp op t (.int k x) (.int k y)).run P w = .ok v' w := by
  cases op with
  | add => simp only [intOp, Option.some.injEq] at h; subst h; exact ⟨_, .int _ _, by simp [Go.binOp, Op.intArith, wrapK_eq]⟩
  | sub => simp only [intOp, Option.some.injEq] at h; subst h; exact ⟨_, .int _ _, by simp [Go.binOp, Op.intArith, wrapK_eq, show Int.sub x y = x - y from rfl]⟩
  | mul => simp only [intOp, Option.some.injEq] at h; subst h; exact ⟨_, .int _ _, by simp [Go.binOp, Op.intArith, wrapK_eq]⟩
  | quo =>
    simp only [intOp, ieq_iff] at h
    by_cases hy : y = 0
    · simp [hy] at h
    · simp only [beq_iff_eq, hy, if_false] at h
      refine ⟨.int k (k.wrap (x.tdiv y)), ?_, by simp [Go.binOp, Op.intDiv, hy]⟩
      cases x <;> cases y <;> simp only [Option.some.injEq] at h <;> subst h <;> (try rw [wrapK_eq]) <;> exact .int _ _
  | rem =>
    simp only [intOp, ieq_iff] at h
    by_cases hy : y = 0
    · simp [hy] at h
    · simp only [beq_iff_eq, hy, if_false] at h
      refine ⟨.int k (x.tmod y), ?_, by simp [Go.binOp, Op.intDiv, hy]⟩
      cases x <;> cases y <;> simp only [Option.some.injEq] at h <;> subst h <;> exact .int _ _
  | eql => simp only [intOp, Option.some.injEq] at h; subst h; exact ⟨_, .bool _, by simp [Go.binOp, Op.intCmp, ieq_iff]⟩
  | neq => simp only [intOp, Option.some.injEq] at h; subst h; exact ⟨_, .bool _, by simp [Go.binOp, Op.intCmp, ieq_iff, bne]⟩
  | lss => simp only [intOp, Option.some.injEq] at h; subst h; exact ⟨_, .bool _, by simp [Go.binOp, Op.intCmp, ilt_iff]⟩
  | leq => simp only [intOp, Option.some.injEq] at h; subst h; exact ⟨_, .bool _, by simp only [Go.binOp, Op.intCmp, ilt_iff]; rw [← decide_not, show decide (¬ y < x) = decide (x ≤ y) from decide_eq_decide.2 (by omega)]; simp⟩
  | gtr => simp only [intOp, Option.some.injEq] at h; subst h; exact ⟨_, .bool _, by simp [Go.binOp, Op.intCmp, ilt_iff]⟩
  | geq => simp only [intOp, Option.some.injEq] at h; subst h; exact ⟨_, .bool _, by simp only [Go.binOp, Op.intCmp, ilt_iff]; rw [← decide_not, show decide (¬ x < y) = decide (x ≥ y) from decide_eq_decide.2 (by omega)]; simp⟩
  | and =>
    cases x with
    | negSucc a => cases y <;> (simp only [intOp] at h; exact bitsSlow_sound h t w)
    | ofNat a => cases y with
      | negSucc b => simp only [intOp] at h; exact bitsSlow_sound h t w
      | ofNat b =>
        simp only [intOp] at h
        by_cases hk : (inK k (.ofNat a) && inK k (.ofNat b)) = true
        · rw [if_pos hk] at h
          simp only [Bool.and_eq_true] at hk
          have ha := inK_ofNat hk.1; have hb := inK_ofNat hk.2
          simp only [Option.some.injEq] at h; subst h
          refine ⟨_, .int _ _, ?_⟩
          simp only [Go.binOp, Op.intBits, ne_eq, not_true_eq_false, if_false, Sem.run_pure, BitVec.toNat_and, bits_ofInt k a ha, bits_ofInt k b hb]
          rw [show ((a &&& b : Nat) : Int) = .ofNat (Nat.land a b) from rfl, wrap_in]
          exact ofNat_inK (Nat.lt_of_le_of_lt Nat.and_le_left ha)
        · rw [if_neg hk] at h; cases h
  | or =>
    cases x with
    | negSucc a => cases y <;> (simp only [intOp] at h; exact bitsSlow_sound h t w)
    | ofNat a => cases y with
      | negSucc b => simp only [intOp] at h; exact bitsSlow_sound h t w
      | ofNat b =>
        simp only [intOp] at h
        by_cases hk : (inK k (.ofNat a) && inK k (.ofNat b)) = true
        · rw [if_pos hk] at h
          simp only [Bool.and_eq_true] at hk
          have ha := inK_ofNat hk.1; have hb := inK_ofNat hk.2
          simp only [Option.some.injEq] at h; subst h
          refine ⟨_, .int _ _, ?_⟩
          simp only [Go.binOp, Op.intBits, ne_eq, not_true_eq_false, if_false, Sem.run_pure, BitVec.toNat_or, bits_ofInt k a ha, bits_ofInt k b hb]
          rw [show ((a ||| b : Nat) : Int) = .ofNat (Nat.lor a b) from rfl, wrap_in]
          obtain ⟨e, he⟩ := hi_pow k
          rw [he] at ha hb
          exact ofNat_inK (by rw [he]; exact Nat.or_lt_two_pow ha hb)
        · rw [if_neg hk] at h; cases h
  | xor =>
    cases x with
    | negSucc a => cases y <;> (simp only [intOp] at h; exact bitsSlow_sound h t w)
    | ofNat a => cases y with
      | negSucc b => simp only [intOp] at h; exact bitsSlow_sound h t w
      | ofNat b =>
        simp only [intOp] at h
        by_cases hk : (inK k (.ofNat a) && inK k (.ofNat b)) = true
        · rw [if_pos hk] at h
          simp only [Bool.and_eq_true] at hk
          have ha := inK_ofNat hk.1; have hb := inK_ofNat hk.2
          simp only [Option.some.injEq] at h; subst h
          refine ⟨_, .int _ _, ?_⟩
          simp only [Go.binOp, Op.intBits, ne_eq, not_true_eq_false, if_false, Sem.run_pure, BitVec.toNat_xor, bits_ofInt k a ha, bits_ofInt k b hb]
          rw [show ((a ^^^ b : Nat) : Int) = .ofNat (Nat.xor a b) from rfl, wrap_in]
          obtain ⟨e, he⟩ := hi_pow k
          rw [he] at ha hb
          exact ofNat_inK (by rw [he]; exact Nat.xor_lt_two_pow ha hb)
        · rw [if_neg hk] at h; cases h
  | andNot =>
    cases x with
    | negSucc a => cases y <;> (simp only [intOp] at h; exact bitsSlow_sound h t w)
    | ofNat a => cases y with
      | negSucc b => simp only [intOp] at h; exact bitsSlow_sound h t w
      | ofNat b =>
        simp only [intOp] at h
        by_cases hk : (inK k (.ofNat a) && inK k (.ofNat b)) = true
        · rw [if_pos hk] at h
          simp only [Bool.and_eq_true] at hk
          have ha := inK_ofNat hk.1; have hb := inK_ofNat hk.2
          simp only [Option.some.injEq] at h; subst h
          refine ⟨_, .int _ _, ?_⟩
          have e : ∀ (n : Nat) (p q : BitVec n), p &&& ~~~q = p ^^^ (p &&& q) := by
            intro n p q
            apply BitVec.eq_of_getLsbD_eq
            intro i hi
            simp [hi]
            cases p[i] <;> cases q[i] <;> rfl
          simp only [Go.binOp, Op.intBits, ne_eq, not_true_eq_false, if_false, Sem.run_pure, e, BitVec.toNat_xor, BitVec.toNat_and, bits_ofInt k a ha, bits_ofInt k b hb]
          rw [show ((a ^^^ (a &&& b) : Nat) : Int) = .ofNat (Nat.xor a (Nat.land a b)) from rfl, wrap_in]
          obtain ⟨e, he⟩ := hi_pow k
          rw [he] at ha hb
          exact ofNat_inK (by rw [he]; exact Nat.xor_lt_two_pow ha (Nat.lt_of_le_of_lt Nat.and_le_left ha))
        · rw [if_neg hk] at h; cases h
  | shl => simp [intOp] at h
  | shr => simp [intOp] at h

theorem shiftOp_sound {op : BinOp} (hop : op = .shl ∨ op = .shr) {k k' : IntKind} {x y : Int} {v : AV} (h : shiftOp op k x y = some v) (t : TypeId) (w : World) :
    ∃ v', VR ρ v v' ∧ (Go.binOp op t (.int k x) (.int k' y)).run P w = .ok v' w := by
  cases y with
  | negSucc m => cases hop with | inl e => subst e; simp [shiftOp] at h | inr e => subst e; simp [shiftOp] at h
  | ofNat m =>
    have hmin : (if Nat.blt m k.bits then m else k.bits) = min m k.bits := by
      by_cases hb : m < k.bits
      · rw [if_pos ((blt_iff _ _).2 hb)]; omega
      · rw [if_neg (fun e => hb ((blt_iff _ _).1 e))]; omega
    have hneg : ¬ ((m : Int) < 0) := by omega
    rcases hop with e | e <;> subst e <;> cases x with
    | negSucc a => simp [shiftOp] at h
    | ofNat a =>
      simp only [shiftOp, hmin, Option.some.injEq] at h
      subst h
      refine ⟨_, .int _ _, ?_⟩
      simp only [Go.binOp, Op.shift, Int.ofNat_eq_natCast, hneg, if_false, Sem.run_pure, Int.toNat_natCast, wrapK_eq]
      first
        | (rw [show Nat.shiftLeft a (min m k.bits) = a * 2 ^ (min m k.bits) from Nat.shiftLeft_eq _ _]; simp)
        | (rw [show Nat.shiftRight a (min m k.bits) = a / 2 ^ (min m k.bits) from Nat.shiftRight_eq_div_pow _ _]; simp only [Int.natCast_ediv, Int.natCast_pow, Int.cast_ofNat_Int]; rw [Int.fdiv_eq_ediv_of_nonneg _ (Int.pow_nonneg (by omega))])

/-! ### Strings -/
theorem bytesOf_toList (s : ByteArray) : bytesOf s = s.toList.map (·.toNat) := by rw [ByteArray.toList_eq]; rfl
theorem bytesOf_length (s : ByteArray) : (bytesOf s).length = s.size := by simp only [bytesOf, List.length_map, Array.length_toList]; rfl
theorem bytesOf_append (a b : ByteArray) : bytesOf (a ++ b) = bytesOf a ++ bytesOf b := by simp [bytesOf]
theorem map_toNat_beq : ∀ (a b : List UInt8), (a.map (·.toNat) == b.map (·.toNat)) = (a == b)
  | [], [] => rfl
  | [], _ :: _ => rfl
  | _ :: _, [] => rfl
  | a :: x, b :: y => by
    have ih := map_toNat_beq x y
    have e : (a.toNat == b.toNat) = (a == b) := by rw [Bool.eq_iff_iff]; simp [UInt8.toNat_inj]
    show (a.toNat == b.toNat && (x.map (·.toNat) == y.map (·.toNat))) = (a == b && (x == y))
    rw [ih, e]
theorem lless_map : ∀ (a b : List UInt8), lless (a.map (·.toNat)) (b.map (·.toNat)) = Op.bytesLess a b
  | _, [] => by simp [lless, Op.bytesLess]
  | [], _ :: _ => rfl
  | a :: x, b :: y => by
    have ih := lless_map x y
    simp only [List.map_cons, lless, Op.bytesLess, ih]
    have e1 : Nat.blt a.toNat b.toNat = decide (a < b) := by rw [Bool.eq_iff_iff, blt_iff]; simp [UInt8.lt_iff_toNat_lt]
    have e2 : Nat.beq a.toNat b.toNat = (a == b) := by rw [Bool.eq_iff_iff, Nat.beq_eq]; simp [UInt8.toNat_inj]
    rw [e1, e2]

theorem strOp_sound {op : BinOp} {a b : ByteArray} {v : AV} (h : strOp op (bytesOf a) (bytesOf b) = some v) (t : TypeId) (w : World) :
    ∃ v', VR ρ v v' ∧ (Go.binOp op t (.string a) (.string b)).run P w = .ok v' w := by
  have e1 : lbeq (bytesOf a) (bytesOf b) = (a.toList == b.toList) := by rw [lbeq_iff, bytesOf_toList, bytesOf_toList, map_toNat_beq]
  have e2 : lless (bytesOf a) (bytesOf b) = Op.bytesLess a.toList b.toList := by rw [bytesOf_toList, bytesOf_toList, lless_map]
  cases op <;> simp only [strOp] at h <;> first | (cases h; done) | skip
  case add =>
    by_cases hl : Nat.blt ((bytesOf a).length + (bytesOf b).length) 9223372036854775808 = true
    · rw [if_pos hl] at h
      simp only [Option.some.injEq] at h; subst h
      rw [← bytesOf_append]
      simp only [bytesOf_length, Nat.blt, Nat.ble_eq] at hl
      refine ⟨_, .str _, ?_⟩
      have : ¬ (((a.size + b.size : Nat) : Int) > IntKind.i64.max) := by
        have : IntKind.i64.max = 9223372036854775807 := by decide
        omega
      simp only [Go.binOp, Op.stringOp, this, if_false, Sem.run_pure]
    · rw [if_neg hl] at h; cases h
  all_goals
    simp only [Option.some.injEq] at h; subst h
    refine ⟨_, .bool _, ?_⟩
    simp only [Go.binOp, Op.stringOp, Sem.run_pure, e1, e2]

end Go.AM
