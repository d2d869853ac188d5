/-
  THE MACHINE 'AM': its operations on memory give what the model's give.
-/
import Derived.Test.YtcjilddpkekcgaaAmMaps
import Derived.Laws.BytesArg
import Derived.Laws.LoneSync
namespace Go.AM
variable {P : Program} {ρ : RM} {w : World}

/-! ### Lists against lists -/
theorem VRs.of_get : ∀ {l : List AV} {l' : List Value}, l.length = l'.length → (∀ (i : Nat) (v : AV) (v' : Value), l[i]? = some v → l'[i]? = some v' → VR ρ v v') → VRs ρ l l'
  | [], [], _, _ => .nil
  | [], _ :: _, h, _ => by simp at h
  | _ :: _, [], h, _ => by simp at h
  | v :: l, v' :: l', h, hg => .cons (hg 0 v v' rfl rfl) (VRs.of_get (by simpa using h) fun i a b ha hb => hg (i + 1) a b (by simpa using ha) (by simpa using hb))

theorem VRs.seg {l : List AV} {c : Array Value} {s : Nat} (h : ∀ i v, l[i]? = some v → ∃ v', c[s + i]? = some v' ∧ VR ρ v v') {off n : Nat} (hle : off + n ≤ l.length) (hc : s + l.length ≤ c.size) :
    VRs ρ ((l.drop off).take n) ((c.toList.drop (s + off)).take n) := by
  refine VRs.of_get (by simp; omega) fun i v v' hv hv' => ?_
  rw [List.getElem?_take] at hv hv'
  split at hv
  · rename_i hi
    rw [if_pos hi] at hv'
    rw [List.getElem?_drop] at hv hv'
    obtain ⟨u, h1, h2⟩ := h _ _ hv
    have : c.toList[s + off + i]? = some u := by rw [show s + off + i = s + (off + i) by omega]; simpa using h1
    rw [this] at hv'; cases hv'; exact h2
  · cases hv

theorem readN_some {cs l : List AV} {off n : Nat} (h : readN cs off n = some l) : off + n ≤ cs.length ∧ l = (cs.drop off).take n := by
  unfold readN at h
  split at h
  · rename_i hb; simp only [Option.some.injEq] at h; exact ⟨by simpa using hb, h.symm⟩
  · cases h

/-! ### Reading -/
theorem run_loadCells_at {B o n : Nat} {c : Array Value} {t : TypeId} {fz : Nat × Nat} {w : World} (hb : w.heap[B]? = some (.cells c t fz)) (hle : o + n ≤ c.size) :
    (loadCells ⟨B, o, none⟩ n).run P w = .ok ((c.toList.drop o).take n).toArray w := by
  have hlen : ((c.toList.drop o).take n).length = n := by simp; omega
  have := run_loadCells_list (P := P) w ⟨B, o, none⟩ ((c.toList.drop o).take n) (fun j v hj => by
    rw [List.getElem?_take] at hj
    split at hj
    · rw [List.getElem?_drop] at hj
      rw [addr_add]
      simp only [World.cell?, hb, Option.isSome_none, Bool.false_eq_true, if_false]
      simpa using hj
    · cases hj)
  rwa [hlen] at this

theorem ptrOf_sound {A : H} {x : AV} {x' : Value} {p : Pos} {off : Nat} (h : ptrOf A x = some (p, off)) (hr : Rel ρ A w) (hx : VR ρ x x') : ∃ rb, ρ.m p = some rb ∧ x' = .pointer (some ⟨rb.blk, rb.shift + off, none⟩) := by
  unfold ptrOf at h
  split at h
  · simp only [Option.some.injEq, Prod.mk.injEq] at h; obtain ⟨rfl, rfl⟩ := h
    cases hx; rename_i rb hm; exact ⟨rb, hm, rfl⟩
  · rename_i g o
    split at h
    · rename_i hg
      simp only [Option.some.injEq, Prod.mk.injEq] at h; obtain ⟨rfl, rfl⟩ := h
      cases hx
      exact ⟨_, hr.glob g ((blt_iff _ _).1 hg), by simp⟩
    · cases h
  · cases h

/-- What stands in a block's part. -/
theorem loadG_sound {fit : TypeDesc → AV → Bool} {t : TypeId} {cs : List AV} {off : Nat} {v : AV} (h : loadG fit P t cs off = some v) {b sh : Nat} {c : Array Value} {ty : TypeId} {fz : Nat × Nat} (hb : w.heap[b]? = some (.cells c ty fz)) (hsz : sh + cs.length ≤ c.size)
    (hcell : ∀ i v, cs[i]? = some v → ∃ v', c[sh + i]? = some v' ∧ VR ρ v v') : ∃ v', VR ρ v v' ∧ (Instr.loadAt t (.pointer (some ⟨b, sh + off, none⟩))).run P w = .ok v' w := by
  unfold loadG at h
  cases hu : P.underlying t with
  | none => simp [hu] at h
  | some d =>
    have hagg : isAggT P t = true → ∃ n l, sizeT P t = some n ∧ readN cs off n = some l ∧ v = .agg l := by
      intro ha
      simp only [isAggT, hu] at ha
      cases d <;> simp at ha <;> (simp only [hu] at h; cases hs : sizeT P t with
        | none => simp [hs] at h
        | some n => cases hn : readN cs off n with
          | none => simp [hs, hn] at h
          | some l => simp [hs, hn] at h; exact ⟨n, l, rfl, hn, h.symm⟩)
    by_cases ha : isAggT P t = true
    · obtain ⟨n, l, hn, hl, rfl⟩ := hagg ha
      obtain ⟨h1, rfl⟩ := readN_some hl
      refine ⟨.agg ((c.toList.drop (sh + off)).take n).toArray, .agg (by simpa using VRs.seg hcell h1 (by omega)), ?_⟩
      simp [Instr.loadAt, Instr.sureAddr, loadVar, run_isAggT hu, ha, run_sizeT hn, run_loadCells_at (P := P) (o := sh + off) (n := n) hb (by omega)]
    · have h2 : cs[off]? = some v := by
        simp only [isAggT, hu] at ha
        have key : ∀ (q : Option AV) (g : AV → Bool), (match q with | some u => (match g u with | true => some u | false => Option.none) | Option.none => Option.none) = some v → q = some v := by
          intro q g h
          cases q with
          | none => cases h
          | some u =>
            have h' : (match g u with | true => some u | false => Option.none) = some v := h
            split at h'
            · exact h'
            · cases h'
        cases d <;> simp at ha <;> (simp only [hu] at h; exact key cs[off]? _ h)
      obtain ⟨v', h3, h4⟩ := hcell off v h2
      refine ⟨v', h4, ?_⟩
      have hcl : w.cell? ⟨b, sh + off, none⟩ = some v' := by simp [World.cell?, hb, h3]
      simp [Instr.loadAt, Instr.sureAddr, loadVar, run_isAggT hu, ha, hcl]

theorem loadH_sound {A : H} {t : TypeId} {x v : AV} {x' : Value} (h : loadH P A t x = some v) (hr : Rel ρ A w) (hx : VR ρ x x') : ∃ v', VR ρ v v' ∧ (Instr.loadAt t x').run P w = .ok v' w := by
  unfold loadH at h
  split at h
  · rename_i p off hpt
    obtain ⟨rb, hm, rfl⟩ := ptrOf_sound hpt hr hx
    split at h
    · rename_i cs esz ro hp
      obtain ⟨c, ty, fz, hb, hsz, hcell, _⟩ := hr.obj _ _ _ hp hm
      exact loadG_sound (fit := fitS A.st) h hb (by omega) hcell
    · cases h
  · cases h
/-- Where a frozen row stands. -/
theorem ice_row {A : H} (hr : Rel ρ A w) {b sh : Nat} {l : List AV} {c d : List Value} (h1 : ρ.fr b = some c) (h2 : c.drop sh = d) (h3 : VRs ρ l (d.take l.length)) : l = [] ∨
    ∃ e ty z, w.heap[b]? = some (.cells e ty z) ∧ sh + l.length ≤ e.size ∧ ∀ i v, l[i]? = some v → ∃ v', e[sh + i]? = some v' ∧ VR ρ v v' := by
  obtain ⟨e, ty, z, he, hc⟩ := (hr.frz b c h1).1
  have hlen := h3.length
  rw [List.length_take] at hlen
  have hd : d.length = c.length - sh := by rw [← h2, List.length_drop]
  have hce : c.length = e.size := by rw [← hc, Array.length_toList]
  by_cases h0 : l = []
  · exact .inl h0
  right
  have hpos : 0 < l.length := List.length_pos_iff.2 h0
  refine ⟨e, ty, z, he, by omega, fun i v hi => ?_⟩
  obtain ⟨v', g1, g2⟩ := h3.get i v hi
  have hil := (List.getElem?_eq_some_iff.1 hi).1
  rw [List.getElem?_take, if_pos hil, ← h2, List.getElem?_drop, ← hc, Array.getElem?_toList] at g1
  exact ⟨v', g1, g2⟩
theorem loadV_sound {A : H} {t : TypeId} {x v : AV} {x' : Value} (h : loadV P A t x = some v) (hr : Rel ρ A w) (hx : VR ρ x x') : ∃ v', VR ρ v v' ∧ (Instr.loadAt t x').run P w = .ok v' w := by
  unfold loadV at h
  split at h
  · rename_i cs off
    cases hx with | @fp _ b sh _ c d h1 h2 h3 h4 =>
    rcases ice_row hr h1 h2 h3 with h0 | ⟨e, ty, z, he, hsz, hcell⟩
    · subst h0
      unfold loadL loadG at h
      cases hu : P.underlying t with
      | none => simp [hu] at h
      | some d' =>
        have hagg : isAggT P t = true ∧ sizeT P t = some 0 ∧ v = .agg [] := by
          cases d' <;> simp only [hu] at h <;> first
            | (cases hs : sizeT P t with
              | none => simp [hs] at h
              | some n => cases hn : readN [] off n with
                | none => simp [hs, hn] at h
                | some l =>
                  obtain ⟨g1, g2⟩ := readN_some hn
                  simp at g1
                  obtain rfl : n = 0 := by omega
                  simp at g2; subst g2
                  simp [hs, hn] at h
                  exact ⟨by simp [isAggT, hu], rfl, h.symm⟩)
            | (simp at h; done)
        obtain ⟨ha, hs, rfl⟩ := hagg
        have hl := run_loadCells_list (P := P) w ⟨b, sh + off, none⟩ [] (fun j v hj => by simp at hj)
        refine ⟨.agg #[], .agg .nil, ?_⟩
        simp only [List.length_nil] at hl
        simp [Instr.loadAt, Instr.sureAddr, loadVar, run_isAggT hu, ha, run_sizeT hs, hl]
    · exact loadG_sound h he hsz hcell
  · exact loadH_sound h hr hx

theorem toBytes_cons (a : AV) (l : List AV) : toBytes (a :: l) = (match a with
      | .int .u8 (.ofNat b) => match Nat.blt b 256 with
        | true => match toBytes l with | some r => some (b :: r) | none => none
        | false => none
      | _ => none) := rfl
theorem toBytes_sound : ∀ {l : List AV} {r : List Nat}, toBytes l = some r → ∀ {l' : List Value}, VRs ρ l l' → ∃ xs : List Int, l' = xs.map (Value.int .u8) ∧ bytesOf (strOfNums xs) = r
  | [], r, h, l', hl => by
    have h' : (some [] : Option (List Nat)) = some r := h
    cases h'; cases hl; exact ⟨[], rfl, rfl⟩
  | a :: l, r, h, l', hl => by
    rw [toBytes_cons] at h
    split at h
    · rename_i b
      split at h
      · rename_i hb
        split at h
        · rename_i q hq
          cases h
          cases hl with
          | cons ha hr =>
            cases ha
            obtain ⟨xs, rfl, h2⟩ := toBytes_sound hq hr
            refine ⟨(b : Int) :: xs, rfl, ?_⟩
            have hb' : b < 256 := (blt_iff _ _).1 hb
            have e : bytesOf (strOfNums ((b : Int) :: xs)) = (UInt8.ofNat b).toNat :: bytesOf (strOfNums xs) := by simp [bytesOf, strOfNums]
            rw [e, h2]
            simp [Nat.mod_eq_of_lt hb']
        · cases h
      · cases h
    · cases h

/-- A row's end is marked as a string's bytes'. -/
theorem mark_sound {A : H} (hr : Rel ρ A w) {p : Pos} {cs : List AV} (hp : A.t.get p = some (.cells cs 1 false)) {rb : RB} (hm : ρ.m p = some rb) (o : Nat) :
    ∃ w', (markStringish ⟨rb.blk, o, none⟩).run P w = .ok () w' ∧ Rel ρ A w' ∧ Stp ρ A w ρ A w' := by
  obtain ⟨c, ty, fz, hb, hsz, hcell, hfz⟩ := hr.obj _ _ _ hp hm
  obtain ⟨hf1, _, hf3⟩ := hfz rfl
  obtain ⟨lo, hi⟩ := fz
  let fz' : Nat × Nat := if lo == hi then (c.size, c.size + 1) else (min lo c.size, max hi (c.size + 1))
  let w' : World := w.freeze ⟨rb.blk, c.size, none⟩ 1
  have hlt := (hr.dom _ _ hm).2
  have hw : w'.heap[rb.blk]? = some (.cells c ty fz') := by
    simp only [w', World.freeze, Nat.succ_ne_zero, if_false, Array.getElem?_modify, if_true, hb, Option.map_some]
    rfl
  have ht : Turned w rb.blk w' := by
    refine ⟨by simp [w', World.freeze], by simp [w', World.freeze], by simp [w', World.freeze], by simp [w', World.freeze], fun k hk => ?_⟩
    simp only [w', World.freeze, Nat.succ_ne_zero, if_false, Array.getElem?_modify, if_neg (Ne.symm hk)]
  have hturn := hr.turn (o' := .cells cs 1 false) hp hm rfl rfl ht ⟨c, ty, fz', hw, hsz, hcell, fun _ => ⟨?_, fun h => absurd rfl h, ?_⟩⟩
  · have hget : ∀ q, (A.set p (some (.cells cs 1 false))).t.get q = A.t.get q := fun q => by
      simp only [H.set, PT.get_put]
      by_cases hq : q = p
      · subst hq; simp [hp]
      · simp [hq]
    exact ⟨w', (by simp [markStringish, shape, Sem.run, World.shape?, hb, freeze, w', bind, Sem.bind]), hturn.1.congr hget rfl rfl, hturn.2.congr hget rfl⟩
  · intro i h1 h2
    simp only [fz'] at h1 h2
    split at h1
    · exact h1
    · rename_i hne
      have hne' : lo ≠ hi := by simpa using hne
      have := hf1 lo (Nat.le_refl _) (by simp only at hf3 ⊢; omega)
      simp only at h1
      omega
  · simp only [fz']
    split
    · simp
    · simp only at hf3 ⊢; omega

theorem run_convert_empty (w : World) (src e : TypeId) (hs : P.underlying src = some (.slice e)) (he : P.underlying e = some (.int .u8)) (a : Addr) (cap : Nat) :
    ∀ dst, P.underlying dst = some .string → (convert src dst (.slice (some a) 0 cap)).run P w = .ok (.string (strOfNums [])) w := by
  intro dst hd
  have hl : (loadCells a 0).run P w = .ok (([] : List Int).map (Value.int .u8)).toArray w := by
    simpa using run_loadCells_list (P := P) w a [] (fun j v hj => by simp at hj)
  rw [run_convert_bytes_string w src dst e _ 0 cap hs he hd, run_bytesToString w _ 0 cap [] hl, foldl_push_bytes]
  simp [strOfNums, ByteArray.empty, ByteArray.emptyWithCapacity]
  rfl

theorem bytesV_sound {A : H} {s d : TypeId} {x v : AV} {x' : Value} (h : bytesV P A s d x = some v) (hr : Rel ρ A w) (hx : VR ρ x x') : ∃ w' v', Stp ρ A w ρ A w' ∧ Rel ρ A w' ∧ VR ρ v v' ∧ (Go.convert s d x').run P w = .ok v' w' := by
  unfold bytesV at h
  split at h
  · rename_i e hs hd
    split at h
    · rename_i he
      simp only [Option.some.injEq] at h; subst h
      cases hx
      exact ⟨w, _, .refl, hr, .str ByteArray.empty, run_convert_bytes_nil w s e hs he 0 0 d hd⟩
    · rename_i he
      simp only [Option.some.injEq] at h; subst h
      cases hx with | @e0 a hok =>
      cases a with
      | none => exact ⟨w, _, .refl, hr, .str ByteArray.empty, run_convert_bytes_nil w s e hs he 0 0 d hd⟩
      | some a =>
        exact ⟨w, _, .refl, hr, .str (strOfNums []), run_convert_empty w s e hs he a 0 d hd⟩
    · rename_i cs len he
      split at h
      · rename_i l hl
        split at h
        · rename_i r hr2
          simp only [Option.some.injEq] at h; subst h
          obtain ⟨h1, rfl⟩ := readN_some hl
          cases hx with
          | @fz _ _ b off cap' c d' q1 q2 q3 q4 q5 =>
            obtain ⟨e', ty, z, he', hc'⟩ := (hr.frz b c q1).1
            have hseg : VRs ρ ((cs.drop 0).take len) (d'.take len) := by
              have := q3.take len
              rw [List.take_take] at this
              rw [List.drop_zero]
              have e1 : min len cs.length = len := by omega
              rwa [e1] at this
            obtain ⟨xs, hxs, hby⟩ := toBytes_sound hr2 hseg
            have hlen2 : xs.length = len := by
              have := congrArg List.length hxs
              have h3 := hseg.length
              simp at this h3; omega
            refine ⟨w, .string (strOfNums xs), .refl, hr, by rw [← hby]; exact .str _, run_convert_bytes_arg w s e hs he b off len cap' xs hlen2 (fun i hi => ?_) d hd⟩
            have hg : (d'.take len)[i]? = (xs.map (Value.int .u8))[i]? := by rw [hxs]
            rw [List.getElem?_take, if_pos hi, ← q2, List.getElem?_drop, ← hc', Array.getElem?_toList] at hg
            simp only [World.cell?, he', Option.isSome_none, Bool.false_eq_true, if_false]
            have hi2 : i < xs.length := by omega
            simp [hi2] at hg
            simp [hg, hi2, List.getD]
          | @fz0 a cap' hok ha =>
            have hnil : r = [] := by simp [toBytes] at hr2; first | exact hr2.symm | exact hr2
            subst hnil
            cases a with
            | none =>
              obtain rfl := ha rfl
              exact ⟨w, _, .refl, hr, .str ByteArray.empty, run_convert_bytes_nil w s e hs he 0 0 d hd⟩
            | some a =>
              exact ⟨w, _, .refl, hr, .str (strOfNums []), run_convert_empty w s e hs he a cap' d hd⟩
        · cases h
      · cases h
    · rename_i p off len cap soft he
      cases hx with | @slice _ _ _ _ _ rb off' cap' hm hcap hoff hlen =>
      split at h
      · rename_i cs esz ro hp
        split at h
        · rename_i l hl
          split at h
          · rename_i r hr2
            simp only [Option.some.injEq] at h; subst h
            obtain ⟨h1, rfl⟩ := readN_some hl
            by_cases h0 : len = 0
            · subst h0
              have hnil : r = [] := by simp [toBytes] at hr2; first | exact hr2.symm | exact hr2
              subst hnil
              refine ⟨w, _, .refl, hr, .str (strOfNums []), run_convert_bytes_arg w s e hs he rb.blk off' 0 cap' [] rfl (fun i hi => by omega) d hd⟩
            · have ho : off' = rb.shift + off := by rcases hoff with e0 | e0 <;> omega
              subst ho
              obtain ⟨c, ty, fz, hb, hsz, hcell, _⟩ := hr.obj _ _ _ hp hm
              obtain ⟨xs, hxs, hby⟩ := toBytes_sound hr2 (VRs.seg hcell h1 (by omega))
              have hlen2 : xs.length = len := by
                have := congrArg List.length hxs
                simp at this; omega
              refine ⟨w, .string (strOfNums xs), .refl, hr, by rw [← hby]; exact .str _, run_convert_bytes_arg w s e hs he rb.blk (rb.shift + off) len cap' xs hlen2 (fun i hi => ?_) d hd⟩
              have hg : ((c.toList.drop (rb.shift + off)).take len)[i]? = (xs.map (Value.int .u8))[i]? := by rw [hxs]
              rw [List.getElem?_take, if_pos hi, List.getElem?_drop] at hg
              simp only [World.cell?, hb, Option.isSome_none, Bool.false_eq_true, if_false]
              have hi2 : i < xs.length := by omega
              simp [hi2] at hg
              simp [hg, hi2, List.getD]
          · cases h
        · cases h
      · cases h
    · cases h
  · rename_i e0 e hs hd
    split at h
    · rename_i p off len cap soft
      split at h
      · rename_i cs hsd he hp
        simp only [Option.some.injEq] at h; subst h
        cases hx with | @slice _ _ _ _ _ rb off' cap' hm hcap hoff hlen =>
        obtain ⟨w', hrun, hr2, hs2⟩ := mark_sound (P := P) hr hp hm off'
        refine ⟨w', _, hs2, hr2, .slice hm hcap hoff hlen, ?_⟩
        have hsd' : (s == d) = true := by simpa using hsd
        simp only [Go.convert, Sem.run_bind, run_underlying hs, run_underlying hd, run_underlying he, Result.andThen_ok, hsd', hrun, Sem.run_pure]
      · cases h
    · cases h
  · rename_i t hs hd
    split at h
    · rename_i p off
      split at h
      · rename_i cs esz ro n hp hz
        split at h
        · rename_i u hu
          simp only [Option.some.injEq] at h; subst h
          cases hx; rename_i rb hm
          obtain ⟨c, ty, fz, hb, hsz, hcell, _⟩ := hr.obj _ _ _ hp hm
          obtain ⟨u', h1, h2⟩ := hcell _ _ hu
          refine ⟨w, _, .refl, hr, .ptr hm, run_convert_to_unsafe hs hd ?_ (v := u') (by simp [World.cell?, hb, h1])⟩
          unfold sizeT at hz
          cases hi : P.info? t with
          | none => simp [hi] at hz
          | some i => simp [hi] at hz; simp [hz]
        · cases h
      · cases h
    · cases h
  · cases h

theorem readV_sound {A : H} {tm : Tm} {o : Oper} {v : AV} (h : readV P tm A o.op = some v) {a : Act} (ht : OpdRel ρ tm a o.op.operands.toList) (hr : Rel ρ A w) :
    ∃ w' v', Stp ρ A w ρ A w' ∧ Rel ρ A w' ∧ VR ρ v v' ∧ (execOp a.eval o).run P w = .ok (.value v') w' := by
  unfold readV at h
  split at h
  · rename_i t x ho
    split at h
    · rename_i u e
      obtain ⟨v', h1, h2⟩ := loadV_sound (P := P) h hr (ht _ (by simp [ho, Op.operands]) _ e)
      exact ⟨w, v', .refl, hr, h1, by simp [execOp, ho, h2]⟩
    · cases h
  · rename_i s d x ho
    split at h
    · rename_i u e
      obtain ⟨w', v', q1, q2, h1, h2⟩ := bytesV_sound (P := P) h hr (ht _ (by simp [ho, Op.operands]) _ e)
      exact ⟨w', v', q1, q2, h1, by simp [execOp, ho, h2]⟩
    · cases h
  · rename_i t x k ok ho
    split at h
    · rename_i v1 j e1 e2
      obtain ⟨v', h1, h2⟩ := lookupV_sound (P := P) hr h (ht _ (by simp [ho, Op.operands]) _ e1) (ht _ (by simp [ho, Op.operands]) _ e2)
      exact ⟨w, v', .refl, hr, h1, by simp [execOp, ho, h2]⟩
    · cases h
  · rename_i args argTypes ho
    split at h
    · rename_i x t hx htt
      split at h
      · rename_i m kt e e1 hu
        split at h
        · rename_i es hes
          simp only [Option.some.injEq] at h; subst h
          have hc := ht _ (by simp [ho, Op.operands, Call.operands, Array.mem_of_getElem? hx]) _ e1
          rcases mapOf_sound hr hes hc with ⟨hb, rfl⟩ | ⟨b, es', clock, hb, hw, hm⟩
          · exact ⟨w, _, .refl, hr, .int _ _, by simp [execOp, ho, resolve, invoke, Go.builtin, Builtin.len_, htt, hx, hb, run_underlying hu, goInt]⟩
          · have hlen : es.length = es'.size := by simpa using hm.length
            exact ⟨w, _, .refl, hr, .int _ _, by simp [execOp, ho, resolve, invoke, Go.builtin, Builtin.len_, htt, hx, hb, run_underlying hu, Go.MapKept.run_getObj_map hw, goInt, hlen]⟩
        · cases h
      · cases h
    · cases h
  · cases h

/-! ### Making memory -/
theorem VRs.flatten_replicate (n : Nat) {l : List AV} {l' : List Value} (h : VRs ρ l l') : VRs ρ (List.replicate n l).flatten (List.replicate n l').flatten := by
  induction n with
  | zero => exact .nil
  | succ n ih => simp only [List.replicate_succ, List.flatten_cons]; exact h.append ih

theorem zeros_list (z : Array Value) (n : Nat) (_hz : 0 < z.size) : ((Array.range (n * z.size)).map (z[· % z.size]!)).toList = (List.replicate n z.toList).flatten := by
  induction n with
  | zero => simp
  | succ n ih =>
    rw [show (n + 1) * z.size = n * z.size + z.size by rw [Nat.add_mul]; omega]
    have e1 : (Array.range (n * z.size + z.size)).map (z[· % z.size]!) = (Array.range (n * z.size)).map (z[· % z.size]!) ++ z := by
      apply Array.ext'
      simp only [Array.toList_map, Array.toList_range, Array.toList_append, List.range_add, List.map_append, List.map_map]
      congr 1
      apply List.ext_getElem?
      intro i
      by_cases hi : i < z.size
      · simp [hi, Nat.add_mod, Nat.mul_mod_left, Nat.mod_eq_of_lt hi]
      · simp [hi]
    rw [e1, Array.toList_append, ih, List.replicate_succ']
    simp

theorem ORel.cells_new {ρ : RM} {l : List AV} {c : Array Value} {t : TypeId} {w : World} {esz : Nat} (h : VRs ρ l c.toList) : ORel ρ (.cells l esz false) ⟨w.heap.size, 0, 0⟩ (w.alloc (.cells c t)) := by
  have hl : l.length = c.size := by simpa using h.length
  refine ⟨c, t, (0, 0), heap_alloc_new w _, by simp; omega, fun i v hv => ?_, fun _ => .zero _ _⟩
  obtain ⟨v', h1, h2⟩ := h.get i v hv
  exact ⟨v', by simpa using h1, h2⟩

/-- **Making memory**: one new block. -/
theorem allocV_sound {tm : Tm} {o : Oper} {cs : List AV} {esz : Nat} {mk : Pos → AV} (h : allocV P tm o.op = some (cs, esz, mk)) {a : Act} (ht : OpdRel ρ tm a o.op.operands.toList) :
    ∃ (c : Array Value) (t : TypeId), VRs ρ cs c.toList ∧ ∀ w, ∃ mk' : Nat → Value, (execOp a.eval o).run P w = .ok (.value (mk' w.heap.size)) (w.alloc (.cells c t)) ∧
      ∀ (ρ' : RM) p, ρ'.m p = some ⟨w.heap.size, 0, 0⟩ → VR ρ' (mk p) (mk' w.heap.size) := by
  unfold allocV at h
  split at h
  · rename_i e ho
    split at h
    · rename_i z n hz hs
      simp only [Option.some.injEq, Prod.mk.injEq] at h; obtain ⟨rfl, rfl, rfl⟩ := h
      obtain ⟨z', hz1, hz2⟩ := zeroT_sound (ρ := ρ) hz
      refine ⟨z'.cells, e, (hz1.cells (zeroT_isAny hz)), fun w => ⟨fun b => .pointer (some ⟨b, 0, none⟩), ?_, fun ρ' p hp => ?_⟩⟩
      · simp [execOp, ho, Instr.alloc, hz2, newVar, newRow]
      · exact VR.ptr (off := 0) hp
    · cases h
  · rename_i e x ho
    split at h
    · rename_i v n hv hs
      split at h
      · cases h
      rename_i hany
      simp only [Option.some.injEq, Prod.mk.injEq] at h; obtain ⟨rfl, rfl, rfl⟩ := h
      refine ⟨(a.eval x).cells, e, (ht _ (by simp [ho, Op.operands]) _ hv).cells (by simpa using hany), fun w => ⟨fun b => .pointer (some ⟨b, 0, none⟩), ?_, fun ρ' p hp => ?_⟩⟩
      · simp [execOp, ho, Instr.box, newVar, newRow]
      · exact VR.ptr (off := 0) hp
    · cases h
  · rename_i t len ps ho
    split at h
    · rename_i e hu
      split at h
      · rename_i n z l hs hz hl
        split at h
        · rename_i hc
          obtain ⟨hc1, hc2, hc3⟩ := hc
          split at h
          · rename_i r hf
            simp only [Option.some.injEq, Prod.mk.injEq] at h; obtain ⟨rfl, rfl, rfl⟩ := h
            obtain ⟨z', hz1, hz2⟩ := zeroT_sound (ρ := ρ) hz
            have hzl : z'.cells.size = n := by have := (hz1.cells (zeroT_isAny hz)).length; simp at this; omega
            have hbase : VRs ρ (List.replicate len z.cells).flatten (((Array.range (len * n)).map (z'.cells[· % z'.cells.size]!))).toList := by
              have := zeros_list z'.cells len (by omega)
              rw [hzl] at this ⊢
              rw [this]
              exact VRs.flatten_replicate len (hz1.cells (zeroT_isAny hz))
            obtain ⟨r', hr1, hr2⟩ := fillV_sound (ρ := ρ) (place' := fun i => some (i * n, n)) (fun i q hq => hq) hf hbase (evParts_sound (fun x hx => ht x (by simpa [ho, Op.operands] using hx)) hl)
            refine ⟨r', e, hr2, fun w => ⟨fun b => .slice (some ⟨b, 0, none⟩) len len, ?_, fun ρ' p hp => ?_⟩⟩
            · have e2 : ps.map (fun (x : Nat × Operand) => match x with | (i, x) => (i, a.eval x)) = (ps.toList.map fun (i, x) => (i, a.eval x)).toArray := by rw [← Array.toList_inj]; simp
              have hbig : ¬ (len * n > 2 ^ 24) := by omega
              simp only [execOp, ho, Sem.run_bind, Instr.buildSlice, run_underlying hu, Result.andThen_ok, run_sizeT hs, hbig, if_false, Sem.run_pure, e2]
              by_cases h0 : len * n = 0
              · have : len = 0 := by rcases Nat.mul_eq_zero.1 h0 with h0 | h0 <;> omega
                subst this
                simp only [Nat.zero_mul, if_true, Sem.run_bind, Sem.run_pure, Result.andThen_ok] at hr1 ⊢
                have e3 : (Array.map (fun x => (#[] : Array Value)[x % (#[] : Array Value).size]!) (Array.range 0)) = Array.map (fun x => z'.cells[x % z'.cells.size]!) (Array.range 0) := by simp
                rw [e3]
                simp [hr1, newRow]
              · simp only [h0, if_false, Sem.run_bind, hz2, Result.andThen_ok, Sem.run_pure]
                simp [hr1, newRow]
            · exact VR.slice (off := 0) hp (by simp) (.inr rfl) (Nat.le_refl _)
          · cases h
        · cases h
      · cases h
    · cases h
  · rename_i t l c ho
    split at h
    · rename_i e lv cv hu hl hc
      split at h
      · rename_i n b z cn hs hb hz hcn
        split at h
        · rename_i ln hln
          split at h
          · rename_i hcond
            obtain ⟨h1, h2, h3⟩ := hcond
            simp only [Option.some.injEq, Prod.mk.injEq] at h; obtain ⟨rfl, rfl, rfl⟩ := h
            obtain ⟨hc1, kc, hcv⟩ := upTo_sound hcn (ht _ (by simp [ho, Op.operands]) _ hc)
            obtain ⟨hl1, kl, hlv⟩ := upTo_sound hln (ht _ (by simp [ho, Op.operands]) _ hl)
            obtain ⟨z', hz1, hz2⟩ := zeroT_sound (ρ := ρ) hz
            have hzl : z'.cells.size = n := by have := (hz1.cells (zeroT_isAny hz)).length; simp at this; omega
            refine ⟨(Array.range (cn * n)).map (z'.cells[· % z'.cells.size]!), e, ?_, fun w => ⟨fun b => .slice (some ⟨b, 0, none⟩) ln cn, ?_, fun ρ' p hp => ?_⟩⟩
            · have := zeros_list z'.cells cn (by omega)
              rw [hzl] at this ⊢
              rw [this]
              exact VRs.flatten_replicate cn (hz1.cells (zeroT_isAny hz))
            · have hwl : IntKind.i64.wrap (ln : Int) = ln := wrap_in _ _ (ofNat_inK (by show ln < 9223372036854775808; omega))
              have hwc : IntKind.i64.wrap (cn : Int) = cn := wrap_in _ _ (ofNat_inK (by show cn < 9223372036854775808; omega))
              unfold bytesT at hb
              cases hi : P.info? e with
              | none => simp [hi] at hb
              | some i =>
                simp only [hi, Option.map_some, Option.some.injEq] at hb
                have hsmall : ¬ ((i.bytes : Int) * (cn : Int) > 2 ^ 48) := by
                  rw [hb]
                  have h2' : ((b * cn : Nat) : Int) ≤ ((281474976710656 : Nat) : Int) := Int.ofNat_le.2 h2
                  have e48 : (2 : Int) ^ 48 = ((281474976710656 : Nat) : Int) := by decide
                  rw [e48, ← Int.natCast_mul]; exact Int.not_lt.2 h2'
                simp only [execOp, ho, Sem.run_bind, Instr.makeSlice, run_underlying hu, Result.andThen_ok, hlv, hcv, asInt, asIntOf, Sem.run_pure, run_typeInfoT hi, hwl, hwc]
                have hcneg : ¬ ((cn : Int) < 0) := by omega
                have hlneg : ¬ ((ln : Int) < 0) := by omega
                have hlc : ¬ ((ln : Int) > (cn : Int)) := by omega
                simp only [hcneg, hlneg, hlc, hsmall, decide_false, Bool.or_self, Bool.false_eq_true, if_false, Int.toNat_natCast]
                by_cases h0 : cn * n = 0
                · have : cn = 0 := by rcases Nat.mul_eq_zero.1 h0 with h0 | h0 <;> omega
                  subst this
                  simp [newRow, run_sizeT hs]
                  try exact congrArg (fun c => w.alloc (Obj.cells c e)) (by rw [← Array.toList_inj]; simp)
                · simp [h0, hz2, newRow, run_sizeT hs]
            · exact VR.slice (off := 0) hp (by simp) (.inr rfl) hl1
          · cases h
        · cases h
      · cases h
    · cases h
  · cases h

/-! ### Writing -/
theorem setCell_heap {w : World} {g j : Nat} {v : Value} {cur : Array Value} {t : TypeId} {fz : Nat × Nat} (hg : w.heap[g]? = some (.cells cur t fz)) :
    (w.setCell ⟨g, j, none⟩ v).heap[g]? = some (.cells (cur.setIfInBounds j v) t fz) := by
  simp [World.setCell, Array.getElem?_modify, hg]
theorem setCell_turned (w : World) (g j : Nat) (v : Value) : Turned w g (w.setCell ⟨g, j, none⟩ v) := by
  refine ⟨World.size_setCell _ _ _, rfl, rfl, rfl, fun k hk => ?_⟩
  simp only [World.setCell, Array.getElem?_modify]
  rw [if_neg (fun e => hk e.symm)]
theorem Turned.trans {w w1 w2 : World} {r : Nat} (h : Turned w r w1) (h' : Turned w1 r w2) : Turned w r w2 :=
  ⟨h'.size.trans h.size, h'.os.trans h.os, h'.output.trans h.output, h'.tape.trans h.tape, fun k hk => (h'.other k hk).trans (h.other k hk)⟩
theorem Turned.refl (w : World) (r : Nat) : Turned w r w := ⟨rfl, rfl, rfl, rfl, fun _ _ => rfl⟩

theorem run_storeCells_in (g o : Nat) (t : TypeId) (fz : Nat × Nat) : ∀ (vs : List Value) (i : Nat) (cur : Array Value) (w : World), w.heap[g]? = some (.cells cur t fz) → frozenFree cur fz → o + i + vs.length ≤ cur.size →
    (∀ v ∈ vs, v.oneCell' = true) → ∃ w' c', (storeCells ⟨g, o, none⟩ vs i).run P w = .ok () w' ∧ Turned w g w' ∧ w'.heap[g]? = some (.cells c' t fz) ∧ c'.size = cur.size ∧
      (∀ j, c'[j]? = if o + i ≤ j ∧ j < o + i + vs.length then vs[j - (o + i)]? else cur[j]?)
  | [], i, cur, w, hg, _, _, _ => ⟨w, cur, by simp [storeCells], .refl _ _, hg, rfl, fun j => by rw [if_neg (by simp only [List.length_nil]; omega)]⟩
  | v :: rest, i, cur, w, hg, hf, hl, h1 => by
    simp only [List.length_cons] at hl
    have hi : o + i < cur.size := by omega
    have hcell : w.cell? ⟨g, o + i, none⟩ = some cur[o + i] := by simp [World.cell?, hg, hi]
    have hfro : w.frozen? ⟨g, o + i, none⟩ = false := by
      simp only [World.frozen?, hg]
      rw [Bool.and_eq_false_iff, decide_eq_false_iff_not, decide_eq_false_iff_not]
      by_cases h3 : fz.1 ≤ o + i
      · right; intro h4; have := hf _ h3 h4; omega
      · exact .inl h3
    have hst : (store ((⟨g, o, none⟩ : Addr).add i) v).run P w = .ok () (w.setCell ⟨g, o + i, none⟩ v) := by
      rw [addr_add, run_store P w _ v _ (h1 v (by simp)), hcell]
      simp [hfro]
    have hsz : (cur.setIfInBounds (o + i) v).size = cur.size := by simp
    obtain ⟨w', c', hr, ht, hh, hs, hget⟩ := run_storeCells_in g o t fz rest (i + 1) (cur.setIfInBounds (o + i) v) _ (setCell_heap hg) (fun k a b => by rw [hsz]; exact hf k a b) (by rw [hsz]; omega) (fun x hx => h1 x (by simp [hx]))
    refine ⟨w', c', by simp only [storeCells, Sem.run_bind, hst, Result.andThen_ok, hr], (setCell_turned _ _ _ _).trans ht, hh, hs.trans hsz, fun j => ?_⟩
    rw [hget j]
    simp only [List.length_cons]
    rcases Nat.lt_trichotomy j (o + i) with hj | hj | hj
    · rw [if_neg (by omega), if_neg (by omega), Array.getElem?_setIfInBounds_ne (by omega)]
    · subst hj; rw [if_neg (by omega), if_pos (by omega)]; simp [hi]
    · by_cases h5 : j < o + i + (rest.length + 1)
      · rw [if_pos (by omega), if_pos (by omega), show j - (o + i) = (j - (o + (i + 1))) + 1 by omega]; simp
      · rw [if_neg (by omega), if_neg (by omega), Array.getElem?_setIfInBounds_ne (by omega)]

theorem sets_get : ∀ (vs l : List AV) (i : Nat), i + vs.length ≤ l.length → ∀ j, (sets vs l i)[j]? = if i ≤ j ∧ j < i + vs.length then vs[j - i]? else l[j]?
  | [], l, i, _, j => by simp only [sets, List.length_nil]; rw [if_neg (by omega)]
  | v :: vs, l, i, h, j => by
    simp only [sets, List.length_cons] at h ⊢
    rw [sets_get vs _ _ (by simp; omega) j]
    rcases Nat.lt_trichotomy j i with hj | hj | hj
    · rw [if_neg (by omega), if_neg (by omega), List.getElem?_set_ne (by omega)]
    · subst hj; rw [if_neg (by omega), if_pos (by omega), List.getElem?_set_self (by omega)]; simp
    · by_cases h5 : j < i + (vs.length + 1)
      · rw [if_pos (by omega), if_pos (by omega), show j - i = (j - (i + 1)) + 1 by omega]; simp
      · rw [if_neg (by omega), if_neg (by omega), List.getElem?_set_ne (by omega)]
theorem sets_length : ∀ (vs l : List AV) (i : Nat), (sets vs l i).length = l.length
  | [], _, _ => rfl
  | v :: vs, l, i => by simp only [sets]; rw [sets_length vs _ _]; simp

theorem VR.one' {v : AV} {v' : Value} (h : VR ρ v v') (h1 : v.one = true) : v'.oneCell' = true := by
  obtain ⟨a, b⟩ := h.one h1
  cases v' <;> first | rfl | exact absurd rfl (a _) | exact absurd rfl (b _)

theorem VRs.one' : ∀ {l : List AV} {l' : List Value}, VRs ρ l l' → l.all AV.one = true → ∀ v ∈ l', v.oneCell' = true
  | _, _, .nil, _, v, hv => by cases hv
  | _, _, .cons a b, h, v, hv => by
    simp only [List.all_cons, Bool.and_eq_true] at h
    rcases List.mem_cons.1 hv with rfl | hv
    · exact a.one' h.1
    · exact b.one' h.2 v hv

/-- **Cells are written into a row.** -/
theorem write_sound {A : H} (hr : Rel ρ A w) {p : Pos} {cs : List AV} {esz : Nat} (hp : A.t.get p = some (.cells cs esz false)) {rb : RB} (hm : ρ.m p = some rb) {new : List AV} {new' : List Value} (hn : VRs ρ new new')
    (h1 : new.all AV.one = true) {off : Nat} (hle : off + new.length ≤ cs.length) :
    ∃ w', (storeCells ⟨rb.blk, rb.shift + off, none⟩ new').run P w = .ok () w' ∧ Rel ρ (A.set p (some (.cells (sets new cs off) esz false))) w' ∧ Stp ρ A w ρ (A.set p (some (.cells (sets new cs off) esz false))) w' := by
  obtain ⟨c, t, fz, hb, hsz, hcell, hfz⟩ := hr.obj _ _ _ hp hm
  have hlen := hn.length
  obtain ⟨w', c', hrun, ht, hh, hs, hget⟩ := run_storeCells_in (P := P) rb.blk (rb.shift + off) t fz new' 0 c w hb (hfz rfl).1 (by omega) (hn.one' h1)
  refine ⟨w', hrun, hr.turn hp hm rfl rfl ht ⟨c', t, fz, hh, by rw [sets_length, hs]; exact hsz, fun i v hv => ?_, fun e => (hfz e).size hs⟩⟩
  rw [sets_get _ _ _ hle] at hv
  rw [hget]
  split at hv
  · rename_i hi
    rw [if_pos (by omega), show rb.shift + i - (rb.shift + off + 0) = i - off by omega]
    exact hn.get _ _ hv
  · rename_i hi
    rw [if_neg (by omega)]
    exact hcell i v hv

end Go.AM
