/-
  THE MACHINE 'AM': A ROW THAT STAYS AS IT IS FROM NOW ON ('ice'): told by what stands in it, no more by its place.
-/
import Derived.Test.YtcjilddpkekcgaaAmAny
namespace Go.AM
variable {P : Program}

/-! ### Values told so -/
mutual
noncomputable def AV.ice (p : Pos) (l : List AV) (esz : Nat) : AV → AV
  | .ptr q off => match Pos.beq q p with
    | true => .fp l off
    | false => .ptr q off
  | .slice q off len cap soft => match Pos.beq q p with
    | true => match Nat.ble (off + len * esz) l.length with
      | true => .fz ((l.drop off).take (len * esz)) len
      | false => .slice q off len cap soft
    | false => .slice q off len cap soft
  | .func f a b => .func f (AV.ices p l esz a) (AV.ices p l esz b)
  | .iface t v => .iface t (AV.ice p l esz v)
  | .agg a => .agg (AV.ices p l esz a)
  | .tup a => .tup (AV.ices p l esz a)
  | v => v
noncomputable def AV.ices (p : Pos) (l : List AV) (esz : Nat) : List AV → List AV
  | [] => []
  | v :: r => AV.ice p l esz v :: AV.ices p l esz r
end
theorem AV.ices_eq (p : Pos) (l : List AV) (esz : Nat) : ∀ r : List AV, AV.ices p l esz r = r.map (AV.ice p l esz)
  | [] => rfl
  | v :: r => by simp [AV.ices, AV.ices_eq p l esz r]
mutual
theorem AV.ice_pf (p : Pos) (l : List AV) (esz : Nat) : ∀ v : AV, AV.pf v = true → AV.ice p l esz v = v
  | .ptr _ _, h | .slice _ _ _ _ _, h | .map _, h | .yield _, h => by cases h
  | .func f a b, h => by
    simp only [AV.pf, Bool.and_eq_true] at h
    show AV.func f (AV.ices p l esz a) (AV.ices p l esz b) = _
    rw [AV.ices_pf p l esz a h.1, AV.ices_pf p l esz b h.2]
  | .iface t v, h => by
    show AV.iface t (AV.ice p l esz v) = _
    rw [AV.ice_pf p l esz v (by simpa [AV.pf] using h)]
  | .agg a, h => by
    show AV.agg (AV.ices p l esz a) = _
    rw [AV.ices_pf p l esz a (by simpa [AV.pf] using h)]
  | .tup a, h => by
    show AV.tup (AV.ices p l esz a) = _
    rw [AV.ices_pf p l esz a (by simpa [AV.pf] using h)]
  | .bool _, _ | .int _ _, _ | .str _, _ | .nilp, _ | .nils, _ | .nilm, _ | .nilf, _ | .nili, _ | .opq _, _ | .gptr _ _, _ | .ge _, _ | .rng _ _, _ | .osl _ _, _ | .any, _ | .fz _ _, _ | .fp _ _, _ | .e0, _ | .z1, _ => rfl
theorem AV.ices_pf (p : Pos) (l : List AV) (esz : Nat) : ∀ r : List AV, AV.pfs r = true → AV.ices p l esz r = r
  | [], _ => rfl
  | v :: r, h => by
    simp only [AV.pfs, Bool.and_eq_true] at h
    show AV.ice p l esz v :: AV.ices p l esz r = _
    rw [AV.ice_pf p l esz v h.1, AV.ices_pf p l esz r h.2]
end
theorem AV.map_ice_pf (p : Pos) (l : List AV) (esz : Nat) {r : List AV} (h : AV.pfs r = true) : r.map (AV.ice p l esz) = r := by rw [← AV.ices_eq, AV.ices_pf p l esz r h]

mutual
theorem AV.ren_pf (σ : Pos → Pos) : ∀ v : AV, AV.pf v = true → AV.ren σ v = v
  | .ptr _ _, h | .slice _ _ _ _ _, h | .map _, h | .yield _, h => by cases h
  | .func f a b, h => by
    simp only [AV.pf, Bool.and_eq_true] at h
    show AV.func f (AV.rens σ a) (AV.rens σ b) = _
    rw [AV.rens_pf σ a h.1, AV.rens_pf σ b h.2]
  | .iface t v, h => by
    show AV.iface t (AV.ren σ v) = _
    rw [AV.ren_pf σ v (by simpa [AV.pf] using h)]
  | .agg a, h => by
    show AV.agg (AV.rens σ a) = _
    rw [AV.rens_pf σ a (by simpa [AV.pf] using h)]
  | .tup a, h => by
    show AV.tup (AV.rens σ a) = _
    rw [AV.rens_pf σ a (by simpa [AV.pf] using h)]
  | .bool _, _ | .int _ _, _ | .str _, _ | .nilp, _ | .nils, _ | .nilm, _ | .nilf, _ | .nili, _ | .opq _, _ | .gptr _ _, _ | .ge _, _ | .rng _ _, _ | .osl _ _, _ | .any, _ | .fz _ _, _ | .fp _ _, _ | .e0, _ | .z1, _ => rfl
theorem AV.rens_pf (σ : Pos → Pos) : ∀ r : List AV, AV.pfs r = true → AV.rens σ r = r
  | [], _ => rfl
  | v :: r, h => by
    simp only [AV.pfs, Bool.and_eq_true] at h
    show AV.ren σ v :: AV.rens σ r = _
    rw [AV.ren_pf σ v h.1, AV.rens_pf σ r h.2]
end
theorem AV.map_ren_pf (σ : Pos → Pos) {r : List AV} (h : AV.pfs r = true) : r.map (AV.ren σ) = r := by rw [← AV.rens_eq, AV.rens_pf σ r h]
theorem cells_ren_pf (σ : Pos → Pos) {r : List AV} (h : AV.pfs r = true) (esz : Nat) (ro : Bool) : (HObj.cells r esz ro).ren σ = .cells r esz ro := by
  show HObj.cells (r.map (AV.ren σ)) esz ro = _
  rw [AV.map_ren_pf σ h]

/-- The row lies there, and stays. -/
structure Iced (ρ : RM) (p : Pos) (l : List AV) : Prop where
  ok : ∀ rb, ρ.m p = some rb → ∃ c, ρ.fr rb.blk = some c ∧ VRs ρ l ((c.drop rb.shift).take l.length)
  pf : AV.pfs l = true

mutual
theorem VR.ice {ρ : RM} {p : Pos} {l : List AV} {esz : Nat} (hi : Iced ρ p l) : ∀ {v : AV} {x : Value}, VR ρ v x → VR ρ (v.ice p l esz) x
  | _, _, .bool b => .bool b
  | _, _, .int k n => .int k n
  | _, _, .str s => .str s
  | _, _, .nilp => .nilp
  | _, _, @VR.ptr _ q off rb h => by
    show VR ρ (match Pos.beq q p with | true => .fp l off | false => .ptr q off) _
    split
    · rename_i e
      have := Pos.beq_eq e; subst this
      obtain ⟨c, h2, h3⟩ := hi.ok _ h
      exact .fp h2 rfl h3 hi.pf
    · exact .ptr h
  | _, _, .nils => .nils
  | _, _, @VR.slice _ q off len cap soft rb off' cap' h a b c => by
    have hsl : VR ρ (.slice q off len cap soft) (.slice (some ⟨rb.blk, off', none⟩) len cap') := .slice h a b c
    show VR ρ (match Pos.beq q p with
      | true => match Nat.ble (off + len * esz) l.length with
        | true => .fz ((l.drop off).take (len * esz)) len
        | false => .slice q off len cap soft
      | false => .slice q off len cap soft) _
    split
    · rename_i e
      have := Pos.beq_eq e; subst this
      split
      · rename_i hle
        obtain ⟨cs, h2, h3⟩ := hi.ok _ h
        by_cases h0 : len = 0
        · subst h0
          rw [Nat.zero_mul, List.take_zero]
          exact .fz0 (okA.some _ _) (fun e => by cases e)
        · have ho : off' = rb.shift + off := by rcases b with e | e <;> omega
          subst ho
          refine .fz h2 rfl ?_ (by omega) (pfs_take (pfs_drop hi.pf _) _)
          rw [← List.drop_drop]
          exact h3.cut _ _
      · exact hsl
    · exact hsl
  | _, _, .nilm => .nilm
  | _, _, .map h => .map h
  | _, _, .nilf => .nilf
  | _, _, .func a b => .func (VRs.ice hi a) (VRs.ice hi b)
  | _, _, .yield h => .yield h
  | _, _, .nili => .nili
  | _, _, .iface h => .iface (VR.ice hi h)
  | _, _, .agg h => .agg (VRs.ice hi h)
  | _, _, .tup h => .tup (VRs.ice hi h)
  | _, _, .opq i => .opq i
  | _, _, .gptr g off => .gptr g off
  | _, _, .ge h => .ge h
  | _, _, .any v => .any v
  | _, _, .rng a b => .rng a b
  | _, _, .osl a b => .osl a b
  | _, _, .fz a b c d e => .fz a b c d e
  | _, _, .fz0 a b => .fz0 a b
  | _, _, .fp a b c d => .fp a b c d
  | _, _, .e0 h => .e0 h
  | _, _, .z1 h => .z1 h
theorem VRs.ice {ρ : RM} {p : Pos} {l : List AV} {esz : Nat} (hi : Iced ρ p l) : ∀ {r : List AV} {x : List Value}, VRs ρ r x → VRs ρ (AV.ices p l esz r) x
  | _, _, .nil => .nil
  | _, _, .cons a b => .cons (VR.ice hi a) (VRs.ice hi b)
end

noncomputable def HObj.ice (p : Pos) (l : List AV) (esz : Nat) : HObj → HObj
  | .cells c e ro => .cells (c.map (AV.ice p l esz)) e ro
  | .map es clock => .map (es.map fun e => (e.1.ice p l esz, e.2.1.ice p l esz, e.2.2)) clock
  | o => o
theorem HObj.isRo_ice (p : Pos) (l : List AV) (esz : Nat) (o : HObj) : (o.ice p l esz).isRo = o.isRo := by cases o <;> rfl
theorem MapRel.ice {ρ : RM} {p : Pos} {l : List AV} {esz : Nat} (hi : Iced ρ p l) : ∀ {es : List (AV × AV × Nat)} {es' : List MapEntry}, MapRel ρ es es' → MapRel ρ (es.map fun e => (e.1.ice p l esz, e.2.1.ice p l esz, e.2.2)) es'
  | _, _, .nil => .nil
  | _, _, .cons a b h => .cons (a.ice hi) (b.ice hi) (h.ice hi)
theorem ORel.ice {ρ : RM} {p : Pos} {l : List AV} {esz : Nat} (hi : Iced ρ p l) {o : HObj} {rb : RB} {w : World} (h : ORel ρ o rb w) : ORel ρ (o.ice p l esz) rb w := by
  cases o with
  | cells c e ro =>
    obtain ⟨d, t, fz, h1, h2, h3, h4⟩ := h
    refine ⟨d, t, fz, h1, by rw [List.length_map]; exact h2, fun i v hv => ?_, h4⟩
    rw [List.getElem?_map] at hv
    cases hx : c[i]? with
    | none => rw [hx] at hv; cases hv
    | some u => rw [hx] at hv; cases hv; obtain ⟨v', a, b⟩ := h3 i u hx; exact ⟨v', a, b.ice hi⟩
  | map es clock => obtain ⟨es', h1, h2⟩ := h; exact ⟨es', h1, h2.ice hi⟩
  | dfr b => exact h
  | loop st pend tm fn nt ps as bd d => exact h
  | siter l pos => exact h
  | miter m since seen stepped => exact h

/-- **The row is let go; all else is told anew.** -/
theorem Rel.iced {ρ : RM} {A B : H} {w : World} (h : Rel ρ A w) {p : Pos} {l : List AV} {esz : Nat} (hp : A.t.get p = some (.cells l esz false)) (hpf : AV.pfs l = true)
    (hB : ∀ q o, B.t.get q = some o → q ≠ p ∧ ∃ o0, A.t.get q = some o0 ∧ o = o0.ice p l esz) (hn : B.next = A.next) (hng : B.ng = A.ng) :
    ∃ ρ', Iced ρ' p l ∧ ρ.le ρ' ∧ Rel ρ' B w ∧ Stp ρ A w ρ' B w := by
  have key : ∃ ρ', Iced ρ' p l ∧ ρ.le ρ' ∧ Rel ρ' (A.set p none) w ∧ Stp ρ A w ρ' (A.set p none) w := by
    cases hm : ρ.m p with
    | none =>
      obtain ⟨hr, hs⟩ := h.kill p
      exact ⟨ρ, ⟨fun rb e => (by rw [hm] at e; cases e), hpf⟩, .refl _, hr, hs⟩
    | some rb =>
      obtain ⟨c, t, fz, h1, h2, h3, _⟩ := h.obj _ _ _ hp hm
      obtain ⟨hr, hs⟩ := h.freeze hp hm rfl h1
      have hle := RM.le_ice h h1
      refine ⟨_, ⟨fun rb' e => ?_, hpf⟩, hle, hr, hs⟩
      have e' : ρ.m p = some rb' := e
      rw [hm] at e'; cases e'
      refine ⟨c.toList, by show (if rb.blk = rb.blk then some c.toList else _) = _; rw [if_pos rfl], ?_⟩
      refine VRs.mono hle ?_
      have := VRs.seg (off := 0) (n := l.length) h3 (by omega) (by omega)
      simpa using this
  obtain ⟨ρ', hi, hle, hr, hs⟩ := key
  refine ⟨ρ', hi, hle, ⟨fun q o rb' e er => ?_, fun q q' o o' rb1 rb2 e e' er er' hb => ?_, fun q rb' e => hn ▸ hr.dom q rb' e, fun q o e => ?_, fun g hg => hr.glob g (by rw [hng] at hg; exact hg), fun b d e => ⟨(hr.frz b d e).1, fun q o rb' e1 e2 e3 => ?_⟩⟩, ?_⟩
  all_goals
    have hk : ∀ q o, B.t.get q = some o → ∃ o0, (A.set p none).t.get q = some o0 ∧ o = o0.ice p l esz := fun q o e => by
      obtain ⟨g1, o0, g2, g3⟩ := hB q o e
      exact ⟨o0, by simp only [H.set, PT.get_put]; rw [if_neg g1]; exact g2, g3⟩
  · obtain ⟨o0, g2, rfl⟩ := hk q o e
    exact (hr.obj q o0 rb' g2 er).ice hi
  · obtain ⟨o0, g2, rfl⟩ := hk q o e
    obtain ⟨o1, g3, rfl⟩ := hk q' o' e'
    rw [HObj.isRo_ice, HObj.isRo_ice]
    exact hr.inj q q' o0 o1 rb1 rb2 g2 g3 er er' hb
  · obtain ⟨o0, g2, rfl⟩ := hk q o e
    rw [hn]; exact hr.ids q o0 g2
  · obtain ⟨o0, g2, rfl⟩ := hk q o e1
    rw [HObj.isRo_ice] at e3
    exact (hr.frz b d e).2 q o0 rb' g2 e2 e3
  · refine ⟨hs.le, by rw [hn]; exact hs.next, hs.size, hs.os, hs.output, hs.tape, hs.keep, fun r hlt ho => ?_, hs.fresh, hs.frz⟩
    obtain ⟨q, o, rb', e, ho, er, hb⟩ := ho
    obtain ⟨o0, g2, rfl⟩ := hk q o e
    rw [HObj.isRo_ice] at ho
    exact hs.own r hlt ⟨q, o0, rb', g2, ho, er, hb⟩

/-- **A call's row stays from then on.** -/
theorem FunOK.iced {f : FuncId} {args : List AV} {v v' : AV} {A A1 B : H} (h : FunOK P f args A v A1) {p : Pos} {l : List AV} {esz : Nat} (hp : A1.t.get p = some (.cells l esz false)) (hpf : AV.pfs l = true)
    (hB : ∀ q o, B.t.get q = some o → q ≠ p ∧ ∃ o0, A1.t.get q = some o0 ∧ o = o0.ice p l esz) (hn : B.next = A1.next) (hng : B.ng = A1.ng) (hv : v.ice p l esz = v') : FunOK P f args A v' B := by
  intro ρ w args' hr ha
  have key : ∀ {ρ1 : RM} {w1 : World} {u : Value}, Stp ρ A w ρ1 A1 w1 → Rel ρ1 A1 w1 → VR ρ1 v u → ∃ ρ', Stp ρ A w ρ' B w1 ∧ Rel ρ' B w1 ∧ VR ρ' v' u := fun h1 h2 h3 => by
    obtain ⟨ρ', g1, g2, g3, g4⟩ := h2.iced hp hpf hB hn hng
    exact ⟨ρ', h1.trans g4, g3, by rw [← hv]; exact (h3.mono g2).ice g1⟩
  rcases h ρ w args' hr ha with ⟨g, as, h1, h2⟩ | ⟨ρ1, w1, u, h1, h2, h3, h4⟩ | ⟨l, f, tmps, as, bd, h1, h2⟩
  · refine .inl ⟨g, as, h1, fun n => (h2 n).mono ?_⟩
    rintro e w1 ⟨ρ1, u, q1, q2, q3, q4⟩
    obtain ⟨ρ', g1, g2, g3⟩ := key q2 q3 q4
    exact ⟨ρ', u, q1, g1, g2, g3⟩
  · obtain ⟨ρ', g1, g2, g3⟩ := key h1 h2 h3
    exact .inr (.inl ⟨ρ', w1, u, g1, g2, g3, h4⟩)
  · refine .inr (.inr ⟨l, f, tmps, as, bd, h1, fun n => (h2 n).mono ?_⟩)
    rintro e w1 ⟨ρ1, u, q1, q2, q3, q4⟩
    obtain ⟨ρ', g1, g2, g3⟩ := key q2 q3 q4
    exact ⟨ρ', u, q1, g1, g2, g3⟩

/-! ### On lists -/
/-- The i-th object let go, the others told anew. -/
noncomputable def iceL (i : Nat) (l : List AV) (esz : Nat) (F : HL) : HL := F.mapIdx fun j o => match Nat.beq j i with | true => none | false => o.map (HObj.ice (.ofNat i) l esz)
theorem FunOK.ice {f : FuncId} {args : List AV} {v v' : AV} {L F G : HL} (h : FunOK P f args (mkH L) v (mkH F)) (i : Nat) {l : List AV} {esz : Nat} (hp : F[i]? = some (some (.cells l esz false))) (hpf : AV.pfs l = true)
    (hG : iceL i l esz F = G) (hv : v.ice (.ofNat i) l esz = v') : FunOK P f args (mkH L) v' (mkH G) := by
  subst hG
  refine h.iced (p := .ofNat i) (l := l) (esz := esz) (by rw [mkH_get, Pos.idx_ofNat, hp]; rfl) hpf (fun q o e => ?_) ?_ rfl hv
  · have e' := mkH_some e
    simp only [iceL, List.getElem?_mapIdx] at e'
    cases hx : F[q.idx]? with
    | none => rw [hx] at e'; cases e'
    | some y =>
      rw [hx] at e'
      simp only [Option.map_some, Option.some.injEq] at e'
      split at e'
      · cases e'
      · rename_i hb
        refine ⟨fun e2 => ?_, ?_⟩
        · subst e2; rw [Pos.idx_ofNat] at hb; simp at hb
        · cases y with
          | none => cases e'
          | some o0 => simp only [Option.map_some, Option.some.injEq] at e'; exact ⟨o0, by rw [mkH_get, hx]; rfl, e'.symm⟩
  · refine Pos.idx_inj ?_
    rw [mkH_next, mkH_next, iceL, List.length_mapIdx]

/-! ### Rows -/
theorem pfs_map {α : Type} {f : α → AV} (h : ∀ a, AV.pf (f a) = true) (l : List α) : AV.pfs (l.map f) = true := by
  rw [AV.pfs_all, List.all_eq_true]
  intro x hx
  obtain ⟨a, _, rfl⟩ := List.mem_map.1 hx
  exact h a
theorem pfs_append {a b : List AV} (ha : AV.pfs a = true) (hb : AV.pfs b = true) : AV.pfs (a ++ b) = true := by
  rw [AV.pfs_all, List.all_append, ← AV.pfs_all, ← AV.pfs_all, ha, hb]; rfl
/-- Bytes as a row. -/
def u8s (l : List Nat) : List AV := l.map fun n => .int .u8 (.ofNat n)
theorem u8s_len (l : List Nat) : (u8s l).length = l.length := by simp [u8s]
theorem u8s_get (l : List Nat) (i : Nat) : (u8s l)[i]? = (l[i]?).map fun n => .int .u8 (.ofNat n) := by simp [u8s]
theorem u8s_drop (l : List Nat) (n : Nat) : (u8s l).drop n = u8s (l.drop n) := by simp [u8s]
theorem u8s_take (l : List Nat) (n : Nat) : (u8s l).take n = u8s (l.take n) := by simp [u8s]
theorem u8s_app (a b : List Nat) : u8s a ++ u8s b = u8s (a ++ b) := by simp [u8s]
theorem u8s_pf (l : List Nat) : AV.pfs (u8s l) = true := pfs_map (fun _ => rfl) l
theorem u8s_ones (l : List Nat) : onesF (u8s l) = true := by
  rw [onesF_eq, List.all_eq_true]
  intro x hx
  simp only [u8s, List.mem_map] at hx
  obtain ⟨s, _, rfl⟩ := hx
  rfl
def isBytes (l : List Nat) : Prop := ∀ n ∈ l, n < 256
theorem toBytes_u8s : ∀ {l : List Nat}, isBytes l → toBytes (u8s l) = some l
  | [], _ => rfl
  | n :: l, h => by
    have h1 : Nat.blt n 256 = true := blt_true (h n (by simp))
    have h2 := toBytes_u8s (l := l) fun m hm => h m (by simp [hm])
    show (match Nat.blt n 256 with
      | true => match toBytes (u8s l) with | some r => some (n :: r) | none => none
      | false => none) = _
    rw [h1, h2]
theorem ints_pf (l : List Int) : AV.pfs (ints l) = true := pfs_map (fun _ => rfl) l
theorem strs_pf (l : List (List Nat)) : AV.pfs (strs l) = true := pfs_map (fun _ => rfl) l
/-- Booleans as a row. -/
def bools (l : List Bool) : List AV := l.map .bool
theorem bools_len (l : List Bool) : (bools l).length = l.length := by simp [bools]
theorem bools_get (l : List Bool) (i : Nat) : (bools l)[i]? = (l[i]?).map .bool := by simp [bools]
theorem bools_pf (l : List Bool) : AV.pfs (bools l) = true := pfs_map (fun _ => rfl) l
theorem bools_set (l : List Bool) (i : Nat) (b : Bool) : (bools l).set i (.bool b) = bools (l.set i b) := by simp [bools, List.map_set]

/-- Things of some cells each, one behind the other. -/
def flat {α : Type} (f : α → List AV) (l : List α) : List AV := l.flatMap f
theorem flat_nil {α : Type} (f : α → List AV) : flat f [] = [] := rfl
theorem flat_cons {α : Type} (f : α → List AV) (a : α) (l : List α) : flat f (a :: l) = f a ++ flat f l := rfl
theorem flat_app {α : Type} (f : α → List AV) (a b : List α) : flat f (a ++ b) = flat f a ++ flat f b := by simp [flat]
theorem flat_snoc {α : Type} (f : α → List AV) (l : List α) (a : α) : flat f (l ++ [a]) = flat f l ++ f a := by simp [flat]
theorem flat_pf {α : Type} {f : α → List AV} (h : ∀ a, AV.pfs (f a) = true) : ∀ l : List α, AV.pfs (flat f l) = true
  | [] => rfl
  | a :: l => pfs_append (h a) (flat_pf h l)
section
variable {α : Type} {f : α → List AV} {N : Nat} (hN : ∀ a, (f a).length = N)
include hN
theorem flat_length : ∀ l : List α, (flat f l).length = l.length * N
  | [] => by simp [flat]
  | a :: l => by rw [flat_cons, List.length_append, hN, flat_length l, List.length_cons, Nat.add_mul]; omega
theorem flat_drop : ∀ (l : List α) (i : Nat), (flat f l).drop (i * N) = flat f (l.drop i)
  | l, 0 => by simp
  | [], i + 1 => by simp [flat]
  | a :: l, i + 1 => by
    rw [flat_cons, List.drop_append, hN, show (i + 1) * N - N = i * N by rw [Nat.add_mul]; omega, flat_drop l i, List.drop_of_length_le (by rw [hN, Nat.add_mul]; omega)]
    rfl
theorem flat_take : ∀ (l : List α) (i : Nat), (flat f l).take (i * N) = flat f (l.take i)
  | l, 0 => by simp [flat]
  | [], i + 1 => by simp [flat]
  | a :: l, i + 1 => by
    rw [flat_cons, List.take_append, hN, show (i + 1) * N - N = i * N by rw [Nat.add_mul]; omega, flat_take l i, List.take_of_length_le (by rw [hN, Nat.add_mul]; omega)]
    rfl
theorem flat_at {l : List α} {i : Nat} {a : α} (h : l[i]? = some a) {j : Nat} (hj : j < N) : (flat f l)[i * N + j]? = (f a)[j]? := by
  have hi := (List.getElem?_eq_some_iff.1 h).1
  rw [← List.getElem?_drop, flat_drop hN, List.drop_eq_getElem_cons hi, flat_cons, List.getElem?_append_left (by rw [hN]; exact hj)]
  have : l[i] = a := (List.getElem?_eq_some_iff.1 h).2
  rw [this]
theorem flat_part {l : List α} {i : Nat} {a : α} (h : l[i]? = some a) {j n : Nat} (hj : j + n ≤ N) : ((flat f l).drop (i * N + j)).take n = ((f a).drop j).take n := by
  have hi := (List.getElem?_eq_some_iff.1 h).1
  rw [← List.drop_drop, flat_drop hN, List.drop_eq_getElem_cons hi, flat_cons]
  have : l[i] = a := (List.getElem?_eq_some_iff.1 h).2
  rw [this, List.drop_append, List.take_append_of_le_length (by rw [List.length_drop, hN]; omega)]
theorem flat_whole {l : List α} {i : Nat} {a : α} (h : l[i]? = some a) : ((flat f l).drop (i * N)).take N = f a := by
  have := flat_part hN h (j := 0) (n := N) (by omega)
  rw [Nat.add_zero, List.drop_zero, List.take_of_length_le (l := f a) (by rw [hN]; exact Nat.le_refl _)] at this
  exact this
end

/-! ### Less told -/
/-- Whatever the first one stands for, the second one does. -/
def Wk (v v' : AV) : Prop := ∀ (ρ : RM) (x : Value), VR ρ v x → VR ρ v' x
theorem Wk.refl (v : AV) : Wk v v := fun _ _ h => h
theorem Wk.nils : Wk .nils (.fz [] 0) := fun _ _ h => by cases h; exact .fz0 okA.none (fun _ => rfl)
theorem Wk.e0 : Wk .e0 (.fz [] 0) := fun _ _ h => by cases h; rename_i a h; exact .fz0 h (fun _ => rfl)
theorem Wk.z1 : Wk .z1 (.fz [] 0) := fun _ _ h => by cases h; rename_i a c h; exact .fz0 h (fun e => by cases e)
inductive Wks : List AV → List AV → Prop
  | nil : Wks [] []
  | cons {v v' : AV} {l l' : List AV} : Wk v v' → Wks l l' → Wks (v :: l) (v' :: l')
theorem Wks.refl : ∀ l, Wks l l
  | [] => .nil
  | v :: l => .cons (.refl v) (Wks.refl l)
theorem Wks.app : ∀ {a a' b b' : List AV}, Wks a a' → Wks b b' → Wks (a ++ b) (a' ++ b')
  | _, _, _, _, .nil, h => h
  | _, _, _, _, .cons a b, h => .cons a (b.app h)
theorem Wks.rel {ρ : RM} : ∀ {l l' : List AV} {x : List Value}, Wks l l' → VRs ρ l x → VRs ρ l' x
  | _, _, _, .nil, h => by cases h; exact .nil
  | _, _, _, .cons a b, h => by cases h with | cons c d => exact .cons (a _ _ c) (b.rel d)
theorem Wks.length : ∀ {l l' : List AV}, Wks l l' → l.length = l'.length
  | _, _, .nil => rfl
  | _, _, .cons _ b => by simp [b.length]
theorem Wks.get : ∀ {l l' : List AV}, Wks l l' → ∀ (i : Nat) (v' : AV), l'[i]? = some v' → ∃ v, l[i]? = some v ∧ Wk v v'
  | _, _, .nil, i, v, h => by simp at h
  | _, _, .cons a _, 0, v, h => by simp at h; subst h; exact ⟨_, rfl, a⟩
  | _, _, .cons _ b, i + 1, v, h => by simpa using b.get i v (by simpa using h)
theorem Wk.agg {l l' : List AV} (h : Wks l l') : Wk (.agg l) (.agg l') := fun _ _ hx => by cases hx; rename_i cs hc; exact .agg (h.rel hc)
theorem Wk.tup {l l' : List AV} (h : Wks l l') : Wk (.tup l) (.tup l') := fun _ _ hx => by cases hx; rename_i cs hc; exact .tup (h.rel hc)
/-- .. of a heap. -/
inductive WkL : HL → HL → Prop
  | nil : WkL [] []
  | same {o : Option HObj} {F G : HL} : WkL F G → WkL (o :: F) (o :: G)
  | cells {c c' : List AV} {e : Nat} {r : Bool} {F G : HL} : Wks c c' → WkL F G → WkL (some (.cells c e r) :: F) (some (.cells c' e r) :: G)
  | gone {o : HObj} {F G : HL} : WkL F G → WkL (some o :: F) (none :: G)
theorem WkL.refl : ∀ F, WkL F F
  | [] => .nil
  | _ :: F => .same (WkL.refl F)
theorem WkL.length : ∀ {F G : HL}, WkL F G → F.length = G.length
  | _, _, .nil => rfl
  | _, _, .same h => by simp [h.length]
  | _, _, .cells _ h => by simp [h.length]
  | _, _, .gone h => by simp [h.length]
theorem WkL.get : ∀ {F G : HL}, WkL F G → ∀ (i : Nat) (o : HObj), G[i]? = some (some o) → ∃ o0, F[i]? = some (some o0) ∧ (o = o0 ∨ ∃ c c' e r, o0 = .cells c e r ∧ o = .cells c' e r ∧ Wks c c')
  | _, _, .nil, i, o, h => by simp at h
  | _, _, .same _, 0, o, h => by simp at h; subst h; exact ⟨o, rfl, .inl rfl⟩
  | _, _, .cells hc _, 0, o, h => by simp at h; subst h; exact ⟨_, rfl, .inr ⟨_, _, _, _, rfl, rfl, hc⟩⟩
  | _, _, .gone _, 0, o, h => by simp at h
  | _, _, .same h, i + 1, o, e => by simpa using h.get i o (by simpa using e)
  | _, _, .cells _ h, i + 1, o, e => by simpa using h.get i o (by simpa using e)
  | _, _, .gone h, i + 1, o, e => by simpa using h.get i o (by simpa using e)
theorem ORel.wk {ρ : RM} {rb : RB} {w : World} {c c' : List AV} {e : Nat} {r : Bool} (hc : Wks c c') (h : ORel ρ (.cells c e r) rb w) : ORel ρ (.cells c' e r) rb w := by
  obtain ⟨d, t, z, h1, h2, h3, h4⟩ := h
  refine ⟨d, t, z, h1, by rw [← hc.length]; exact h2, fun i v hv => ?_, h4⟩
  obtain ⟨u, g1, g2⟩ := hc.get i v hv
  obtain ⟨v', g3, g4⟩ := h3 i u g1
  exact ⟨v', g3, g2 _ _ g4⟩
theorem Rel.wk {ρ : RM} {F G : HL} {w : World} (hw : WkL F G) (h : Rel ρ (mkH F) w) : Rel ρ (mkH G) w := by
  have key : ∀ q o, (mkH G).t.get q = some o → ∃ o0, (mkH F).t.get q = some o0 ∧ o.isRo = o0.isRo ∧ ∀ rb, ORel ρ o0 rb w → ORel ρ o rb w := by
    intro q o e
    obtain ⟨o0, g1, g2⟩ := hw.get _ _ (mkH_some e)
    refine ⟨o0, by rw [mkH_get, g1]; rfl, ?_⟩
    rcases g2 with rfl | ⟨c, c', e, r, rfl, rfl, hc⟩
    · exact ⟨rfl, fun _ h => h⟩
    · exact ⟨rfl, fun _ h => h.wk hc⟩
  have hn : (mkH F).next = (mkH G).next := Pos.idx_inj (by rw [mkH_next, mkH_next, hw.length])
  refine ⟨fun q o rb e er => ?_, fun q q' o o' rb rb' e e' er er' hb => ?_, fun q rb e => hn ▸ h.dom q rb e, fun q o e => ?_, fun g hg => absurd hg (Nat.not_lt_zero _), fun b c e => ⟨(h.frz b c e).1, fun q o rb e1 e2 e3 => ?_⟩⟩
  · obtain ⟨o0, g1, _, g3⟩ := key q o e
    exact g3 _ (h.obj q o0 rb g1 er)
  · obtain ⟨o0, g1, g2, _⟩ := key q o e
    obtain ⟨o1, g1', g2', _⟩ := key q' o' e'
    rw [g2, g2']; exact h.inj q q' o0 o1 rb rb' g1 g1' er er' hb
  · obtain ⟨o0, g1, _⟩ := key q o e
    exact hn ▸ h.ids q o0 g1
  · obtain ⟨o0, g1, g2, _⟩ := key q o e1
    rw [g2] at e3
    exact (h.frz b c e).2 q o0 rb g1 e2 e3
theorem Owned.wk {ρ : RM} {F G : HL} (hw : WkL F G) {r : Nat} (h : Owned ρ (mkH G) r) : Owned ρ (mkH F) r := by
  obtain ⟨q, o, rb, e, ho, er, hb⟩ := h
  obtain ⟨o0, g1, g2⟩ := hw.get _ _ (mkH_some e)
  refine ⟨q, o0, rb, by rw [mkH_get, g1]; rfl, ?_, er, hb⟩
  rcases g2 with rfl | ⟨c, c', e, r, rfl, rfl, hc⟩ <;> exact ho
theorem Stp.wk {ρ ρ' : RM} {A : H} {F G : HL} {w w' : World} (hw : WkL F G) (h : Stp ρ A w ρ' (mkH F) w') : Stp ρ A w ρ' (mkH G) w' :=
  ⟨h.le, by have := h.next; rw [mkH_next] at this ⊢; rw [← hw.length]; exact this, h.size, h.os, h.output, h.tape, h.keep, fun r hr ho => h.own r hr (ho.wk hw), h.fresh, h.frz⟩
/-- Less told of what a call comes to. -/
theorem FunOK.wk {f : FuncId} {args : List AV} {A : H} {v v' : AV} {F G : HL} (h : FunOK P f args A v (mkH F)) (hv : Wk v v') (hw : WkL F G) : FunOK P f args A v' (mkH G) := by
  intro ρ w args' hr ha
  have key : ∀ {ρ1 : RM} {w1 : World} {u : Value}, Stp ρ A w ρ1 (mkH F) w1 → Rel ρ1 (mkH F) w1 → VR ρ1 v u → ∃ ρ', Stp ρ A w ρ' (mkH G) w1 ∧ Rel ρ' (mkH G) w1 ∧ VR ρ' v' u := fun h1 h2 h3 => ⟨_, h1.wk hw, h2.wk hw, hv _ _ h3⟩
  rcases h ρ w args' hr ha with ⟨g, as, h1, h2⟩ | ⟨ρ1, w1, u, h1, h2, h3, h4⟩ | ⟨l, f, tmps, as, bd, h1, h2⟩
  · refine .inl ⟨g, as, h1, fun n => (h2 n).mono ?_⟩
    rintro e w1 ⟨ρ1, u, q1, q2, q3, q4⟩
    obtain ⟨ρ', g1, g2, g3⟩ := key q2 q3 q4
    exact ⟨ρ', u, q1, g1, g2, g3⟩
  · obtain ⟨ρ', g1, g2, g3⟩ := key h1 h2 h3
    exact .inr (.inl ⟨ρ', w1, u, g1, g2, g3, h4⟩)
  · refine .inr (.inr ⟨l, f, tmps, as, bd, h1, fun n => (h2 n).mono ?_⟩)
    rintro e w1 ⟨ρ1, u, q1, q2, q3, q4⟩
    obtain ⟨ρ', g1, g2, g3⟩ := key q2 q3 q4
    exact ⟨ρ', u, q1, g1, g2, g3⟩
/-- More told of the arguments. -/
theorem FunOK.more {f : FuncId} {args args2 : List AV} {A A' : H} {v : AV} (h : FunOK P f args A v A') (ha : Wks args2 args) : FunOK P f args2 A v A' := fun ρ w args' hr hx => h ρ w args' hr (ha.rel hx)
/-- A slice that may be nil. -/
theorem FunOK.fz1 {f : FuncId} {l : List AV} {n : Nat} {A A' : H} {v : AV} (hl : n = 0 → l = []) (h0 : n = 0 → FunOK P f [.nils] A v A') (h1 : n = 0 → FunOK P f [.z1] A v A') (h2 : 0 < n → AV.pfs l = true → FunOK P f [.fz l n] A v A') : FunOK P f [.fz l n] A v A' := by
  intro ρ w args' hr ha
  obtain ⟨args'⟩ := args'
  cases ha with
  | cons hv hnil =>
    cases hnil
    by_cases hn : n = 0
    · have hl' := hl hn
      subst hn; subst hl'
      have hx := hv
      cases hv with
      | fz a b c d e => exact h1 rfl ρ w _ hr (.cons (.z1 (okA.some _ _)) .nil)
      | @fz0 a cap hok hc =>
        cases a with
        | none =>
          obtain rfl := hc rfl
          exact h0 rfl ρ w _ hr (.cons .nils .nil)
        | some a => exact h1 rfl ρ w _ hr (.cons (.z1 hok) .nil)
    · have hpf : AV.pfs l = true := by
        cases hv with
        | fz a b c d e => exact e
        | fz0 => rfl
      exact h2 (by omega) hpf ρ w _ hr (.cons hv .nil)

end Go.AM
