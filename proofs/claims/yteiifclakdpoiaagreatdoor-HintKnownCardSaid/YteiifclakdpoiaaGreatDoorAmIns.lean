/-
  THE MACHINE 'AM': slices.Insert where it is not known whether there is room: its own body is run at each capacity that matters, in a small heap; all runs come to the same row. The old row is let go.
-/
import Derived.Test.YteiifclakdpoiaaGreatDoorAmOrc2
import Derived.Test.YteiifclakdpoiaaGreatDoorAmFast4
namespace Go.AM
variable {P : Program}

theorem VR.str_inv {ρ : RM} {l : List Nat} {x : Value} (h : VR ρ (.str l) x) : ∃ s, x = .string s ∧ bytesOf s = l := by
  generalize e : AV.str l = v at h
  cases h <;> cases e
  exact ⟨_, rfl, rfl⟩

mutual
/-- What a value of the machine's stands for is known by its own places alone. -/
theorem VR.back {ρ ρ1 : RM} (hl : ρ.le ρ1) : ∀ {v : AV} {x y : Value}, VR ρ v y → VR ρ1 v x → VR ρ v x
  | _, _, _, .bool _, h => by cases h; exact .bool _
  | _, _, _, .int _ _, h => by cases h; exact .int _ _
  | _, _, _, .str _, h => by obtain ⟨s, rfl, e⟩ := h.str_inv; rw [← e]; exact .str s
  | _, _, _, .nilp, h => by cases h; exact .nilp
  | _, _, _, .ptr hm, h => by cases h; rename_i rb h1; rw [hl.2 _ _ hm] at h1; cases h1; exact .ptr hm
  | _, _, _, .nils, h => by cases h; exact .nils
  | _, _, _, .slice hm _ _ _, h => by cases h; rename_i rb o c h1 h2 h3 h4; rw [hl.2 _ _ hm] at h1; cases h1; exact .slice hm h4 h2 h3
  | _, _, _, .nilm, h => by cases h; exact .nilm
  | _, _, _, .map hm, h => by cases h; rename_i rb h1; rw [hl.2 _ _ hm] at h1; cases h1; exact .map hm
  | _, _, _, .nilf, h => by cases h; exact .nilf
  | _, _, _, .func a b, h => by cases h; rename_i u v c d; exact .func (VRs.back hl a c) (VRs.back hl b d)
  | _, _, _, .yield hm, h => by cases h; rename_i rb h1; rw [hl.2 _ _ hm] at h1; cases h1; exact .yield hm
  | _, _, _, .nili, h => by cases h; exact .nili
  | _, _, _, .iface a, h => by cases h; rename_i v b; exact .iface (VR.back hl a b)
  | _, _, _, .agg a, h => by cases h; rename_i cs b; exact .agg (VRs.back hl a b)
  | _, _, _, .tup a, h => by cases h; rename_i cs b; exact .tup (VRs.back hl a b)
  | _, _, _, .opq i, h => by cases h; rw [hl.1]; exact .opq i
  | _, _, _, .gptr g o, h => by cases h; exact .gptr g o
  | _, _, _, .ge _, h => by cases h; rename_i m hm; exact .ge hm
  | _, _, _, .any _, h => .any _
  | _, _, _, .rng _ _, h => by cases h; rename_i m h1 h2; exact .rng h1 h2
  | _, _, _, .osl _ _, h => by cases h; rename_i a n c h1 h2; exact .osl h1 h2
theorem VRs.back {ρ ρ1 : RM} (hl : ρ.le ρ1) : ∀ {l : List AV} {xs ys : List Value}, VRs ρ l ys → VRs ρ1 l xs → VRs ρ l xs
  | _, _, _, .nil, h => by cases h; exact .nil
  | _, _, _, .cons a b, h => by
    cases h with
    | cons c d => exact .cons (VR.back hl a c) (VRs.back hl b d)
end

theorem Rel.known {ρ : RM} {A : H} {w : World} (hr : Rel ρ A w) {p : Pos} {cs : List AV} {esz : Nat} {ro : Bool} (hp : A.t.get p = some (.cells cs esz ro)) {rb : RB} (hm : ρ.m p = some rb) : ∀ v ∈ cs, ∃ y, VR ρ v y := by
  intro v hv
  obtain ⟨i, hi⟩ := List.mem_iff_getElem?.1 hv
  obtain ⟨c, t, fz, _, _, hc, _⟩ := hr.obj _ _ _ hp hm
  obtain ⟨y, _, h⟩ := hc i v hi
  exact ⟨y, h⟩

/-- **A row is put in another's place.** -/
theorem insert_finish {ρ ρs ρ1 : RM} {A B B1 : H} {w w1 : World} {p q : Pos} {cs cs2 : List AV} {esz esz2 : Nat} {ro2 : Bool} {rb rb2 : RB}
    (hr : Rel ρ A w) (hp : A.t.get p = some (.cells cs esz false)) (hm : ρ.m p = some rb) (hq : A.t.get q = some (.cells cs2 esz2 ro2)) (hmq : ρ.m q = some rb2)
    (hs : Stp ρs B w ρ1 B1 w1) (hr1 : Rel ρ1 B1 w1) (hle : ∀ x rbx, x ≠ A.next → ρ.m x = some rbx → ρ1.m x = some rbx) (henv : ρ1.env = ρ.env)
    (hown : ∀ r, Owned ρs B r → r = rb.blk ∨ (ro2 = false ∧ r = rb2.blk))
    (hq1 : B1.t.get q = some (.cells cs2 esz2 ro2)) {r : Pos} {ds : List AV} (hrow : B1.t.get r = some (.cells ds esz false)) (hrq : r ≠ q) {rb1 : RB} (hm1 : ρ1.m r = some rb1)
    {roff extra : Nat} {l : List AV} (hl : (ds.drop roff).take l.length = l) (hknown : ∀ v ∈ l, ∃ y, VR ρ v y)
    (hroom : ∀ c t fz, w1.heap[rb1.blk]? = some (.cells c t fz) → rb1.shift + roff + l.length + extra * esz ≤ c.size) :
    Rel (ρ.at A.next ⟨rb1.blk, rb1.shift + roff, extra⟩) ((A.set p none).new (.cells l esz false)) w1 ∧ Stp ρ A w (ρ.at A.next ⟨rb1.blk, rb1.shift + roff, extra⟩) ((A.set p none).new (.cells l esz false)) w1 := by
  have hnone := hr.fresh_none
  have hle' : ρ.le ρ1 := ⟨henv, fun x rbx h => hle x rbx (fun e => by subst e; rw [hnone] at h; cases h) h⟩
  -- who else stands where
  have hx1 : ∀ x o rbx, x ≠ p → A.t.get x = some o → ρ.m x = some rbx → rbx.blk ≠ rb.blk := by
    intro x o rbx hxp hx hmx e
    rcases hr.inj x p o _ rbx rb hx hp hmx hm e with h | ⟨_, h⟩
    · exact hxp h
    · cases h
  have hblk : rb1.blk < w1.heap.size := (hr1.dom _ _ hm1).2
  have hownr : Owned ρ1 B1 rb1.blk := ⟨r, _, rb1, hrow, rfl, hm1, rfl⟩
  have hx2 : ∀ x o rbx, x ≠ p → A.t.get x = some o → ρ.m x = some rbx → rbx.blk ≠ rb1.blk := by
    intro x o rbx hxp hx hmx e
    have hlt : rb1.blk < w.heap.size := e ▸ (hr.dom _ _ hmx).2
    rcases hown _ (hs.own _ hlt hownr) with h | ⟨h0, h⟩
    · exact hx1 x o rbx hxp hx hmx (e.trans h)
    · have hmq1 := hle'.2 _ _ hmq
      rcases hr1.inj r q _ _ rb1 rb2 hrow hq1 hm1 hmq1 h with h2 | ⟨h2, _⟩
      · exact hrq h2
      · cases h2
  -- what stands as it was
  have hkeep : ∀ x o rbx, x ≠ p → A.t.get x = some o → ρ.m x = some rbx → ORel ρ o rbx w1 := by
    intro x o rbx hxp hx hmx
    by_cases hxq : x = q
    · subst hxq
      rw [hq] at hx; cases hx
      rw [hmq] at hmx; cases hmx
      obtain ⟨c, t, fz, h1, h2, h3, h4⟩ := hr1.obj _ _ _ hq1 (hle'.2 _ _ hmq)
      refine ⟨c, t, fz, h1, h2, fun i v hv => ?_, h4⟩
      obtain ⟨v', h5, h6⟩ := h3 i v hv
      obtain ⟨y, hy⟩ := hr.known hq hmq v (List.mem_of_getElem? hv)
      exact ⟨v', h5, VR.back hle' hy h6⟩
    · refine (hr.obj x o rbx hx hmx).mono (.refl _) (hs.keep _ (hr.dom _ _ hmx).2 fun ho => ?_)
      rcases hown _ ho with h | ⟨h0, h⟩
      · exact hx1 x o rbx hxp hx hmx h
      · rcases hr.inj x q o _ rbx rb2 hx hq hmx hmq h with h2 | ⟨_, h2⟩
        · exact hxq h2
        · rw [h0] at h2; cases h2
  have key : ∀ x o, (A.set p none).t.get x = some o → x ≠ p ∧ A.t.get x = some o := by
    intro x o e
    simp only [H.set, PT.get_put] at e
    by_cases hxp : x = p
    · simp [hxp] at e
    · simp [hxp] at e; exact ⟨hxp, e⟩
  have hk : Rel ρ (A.set p none) w1 :=
    ⟨fun x o rbx e er => hkeep x o rbx (key x o e).1 (key x o e).2 er, fun x y o o' rbx rby e e' => hr.inj x y o o' rbx rby (key x o e).2 (key y o' e').2,
      fun x rbx e => ⟨(hr.dom x rbx e).1, Nat.lt_of_lt_of_le (hr.dom x rbx e).2 hs.size⟩, fun x o e => hr.ids x o (key x o e).2, hr.glob⟩
  have hno : ∀ x o rbx, (A.set p none).t.get x = some o → ρ.m x = some rbx → rbx.blk ≠ rb1.blk := fun x o rbx e er => hx2 x o rbx (key x o e).1 (key x o e).2 er
  have hnew : Rel (ρ.at A.next ⟨rb1.blk, rb1.shift + roff, extra⟩) ((A.set p none).new (.cells l esz false)) w1 :=
    hk.newAt (.cells l esz false) ⟨rb1.blk, rb1.shift + roff, extra⟩ hblk hno (by
      obtain ⟨c, t, fz, h1, h2, h3, h4⟩ := hr1.obj _ _ _ hrow hm1
      refine ⟨c, t, fz, h1, hroom c t fz h1, fun i v hv => ?_, h4⟩
      have hi : i < l.length := (List.getElem?_eq_some_iff.1 hv).1
      have hd : ds[roff + i]? = some v := by
        rw [← hl, List.getElem?_take, if_pos hi, List.getElem?_drop] at hv
        exact hv
      obtain ⟨v', h5, h6⟩ := h3 _ _ hd
      obtain ⟨y, hy⟩ := hknown v (List.mem_of_getElem? hv)
      refine ⟨v', ?_, (VR.back hle' hy h6).mono (RM.le_at hnone)⟩
      show c[rb1.shift + roff + i]? = some v'
      rw [Nat.add_assoc]; exact h5)
  refine ⟨hnew, RM.le_at hnone, by simp [H.new, H.set, Pos.idx_succ], hs.size, hs.os, hs.output, hs.tape, fun x hx ho => hs.keep x hx fun h => ho ?_, fun x hx ho => ?_, fun x rbx e hlt => ?_⟩
  · rcases hown _ h with h | ⟨h0, h⟩
    · exact ⟨p, _, rb, hp, rfl, hm, h.symm⟩
    · exact ⟨q, _, rb2, hq, h0, hmq, h.symm⟩
  · obtain ⟨y, o, rby, e, hro, er, rfl⟩ := ho
    simp only [H.new, PT.get_put] at e
    by_cases hy : y = (A.set p none).next
    · subst hy
      rw [show (A.set p none).next = A.next from rfl, RM.at_self] at er; cases er
      simp only at hx ⊢
      rcases hown _ (hs.own _ hx hownr) with h | ⟨h0, h⟩
      · exact ⟨p, _, rb, hp, rfl, hm, h.symm⟩
      · exact ⟨q, _, rb2, hq, h0, hmq, h.symm⟩
    · rw [if_neg hy] at e
      rw [RM.at_ne _ _ _ _ (show y ≠ A.next from hy)] at er
      exact ⟨y, o, rby, (key y o e).2, hro, er, rfl⟩
  · have hne : x ≠ A.next := fun e' => by subst e'; exact absurd hlt (Nat.lt_irrefl _)
    rwa [RM.at_ne _ _ _ _ hne] at e

theorem Rel.sub {ρ : RM} {A B : H} {w : World} (hr : Rel ρ A w) (h : ∀ x o, B.t.get x = some o → A.t.get x = some o) (hn : B.next = A.next) (hg : B.ng = 0) : Rel ρ B w :=
  ⟨fun p o rb e er => hr.obj p o rb (h p o e) er, fun p q o o' rb rb' e e' => hr.inj p q o o' rb rb' (h p o e) (h q o' e'), fun p rb e => hn ▸ hr.dom p rb e, fun p o e => hn ▸ hr.ids p o (h p o e), fun g hg' => by rw [hg] at hg'; omega⟩

/-- A heap of two rows. -/
noncomputable def insH (p : Pos) (o : HObj) (q : Pos) (o2 : HObj) (next : Pos) : H := ⟨next, PT.put (some o) p (PT.put (some o2) q .leaf), 0, false⟩
theorem insH_get {p q x : Pos} {o o2 y : HObj} {next : Pos} (h : (insH p o q o2 next).t.get x = some y) : (x = p ∧ y = o) ∨ (x = q ∧ y = o2) := by
  simp only [insH, PT.get_put] at h
  by_cases hx : x = p
  · simp [hx] at h; exact .inl ⟨hx, h.symm⟩
  · rw [if_neg hx] at h
    by_cases hy : x = q
    · simp [hy] at h; exact .inr ⟨hy, h.symm⟩
    · rw [if_neg hy, PT.get_leaf] at h; cases h

/-- What a run must come to. -/
noncomputable def insChk (q : Pos) (cs2 : List AV) (esz2 : Nat) (ro2 : Bool) (esz need : Nat) (l : List AV) (v : AV) (B : H) : Ans :=
  match v with
  | .slice r roff n rcap _ => match B.t.get r, B.t.get q with
    | some (.cells ds e false), some (.cells cs2' e2 r2) =>
      if Nat.beq n need && (Nat.beq e esz && (!Pos.beq r q && (sames cs2' cs2 && (Nat.beq e2 esz2 && ((r2 == ro2) && (Nat.ble n rcap && (Nat.ble (roff + rcap * esz) ds.length && sames ((ds.drop roff).take (need * esz)) l))))))) then .ok else .err 30 0 0
    | _, _ => .err 30 1 0
  | _ => .err 30 2 0

theorem insChk_ok {q : Pos} {cs2 : List AV} {esz2 : Nat} {ro2 : Bool} {esz need : Nat} {l : List AV} {v : AV} {B : H} (h : insChk q cs2 esz2 ro2 esz need l v B = .ok) :
    ∃ r roff rcap soft ds, v = .slice r roff need rcap soft ∧ B.t.get r = some (.cells ds esz false) ∧ B.t.get q = some (.cells cs2 esz2 ro2) ∧ r ≠ q ∧ need ≤ rcap ∧ roff + rcap * esz ≤ ds.length ∧ (ds.drop roff).take (need * esz) = l := by
  unfold insChk at h
  split at h
  · rename_i r roff n rcap soft
    split at h
    · rename_i ds e cs2' e2 r2 h1 h2
      split at h
      · rename_i hc
        simp only [Bool.and_eq_true, Nat.beq_eq, Nat.ble_eq, Bool.not_eq_true', beq_iff_eq] at hc
        obtain ⟨rfl, rfl, c3, c4, rfl, rfl, c7, c8, c9⟩ := hc
        rw [sames_eq c4] at h2
        exact ⟨r, roff, rcap, soft, ds, rfl, h1, h2, Pos.beq_ne c3, c7, c8, sames_eq c9⟩
      · cases h
    · cases h
  · cases h

def Ans.good : Ans → Bool
  | .ok => true
  | _ => false
theorem Ans.good_eq {a : Ans} (h : a.good = true) : a = .ok := by cases a <;> first | rfl | cases h

noncomputable def insRun (P : Program) (O : PT Orc) (f : Pos) (args : List AV) (B : H) (chk : AV → H → Ans) : Ans := bodyF P (execF P O 100000) f [] [] args B chk

/-- The runs at each capacity from 'cap' on, so many. -/
noncomputable def insAll (run : Nat → Ans) (cap : Nat) : Nat → Bool := fun d => @Nat.rec (fun _ => Bool) true (fun j ih => match (run (cap + j)).good with | true => ih | false => false) d
theorem insAll_ok {run : Nat → Ans} {cap : Nat} : ∀ {d : Nat}, insAll run cap d = true → ∀ j, j < d → run (cap + j) = .ok
  | 0, _, j, h => absurd h (Nat.not_lt_zero _)
  | d + 1, h, j, hj => by
    have h' : (match (run (cap + d)).good with | true => insAll run cap d | false => false) = true := h
    split at h'
    · rename_i hg
      rcases Nat.lt_succ_iff_lt_or_eq.1 hj with hj | rfl
      · exact insAll_ok h' j hj
      · exact Ans.good_eq hg
    · cases h'

noncomputable def orcInsert (P : Program) (O : PT Orc) (f : Pos) : Orc := fun args A k els =>
  match args with
  | [.slice p off len cap true, .int .i64 (.ofNat i), .slice q qoff m qcap qsoft] =>
    match Nat.ble (len + m) cap, Pos.beq p q, A.t.get p, A.t.get q with
    | false, false, some (.cells cs esz false), some (.cells cs2 esz2 ro2) =>
      match readN cs off (i * esz), readN cs2 qoff (m * esz), readN cs (off + i * esz) ((len - i) * esz) with
      | some l1, some l2, some l3 =>
        fList (l1 ++ (l2 ++ l3)) fun l =>
        let rest := [AV.int .i64 (.ofNat i), .slice q qoff m qcap qsoft]
        match Nat.ble i len && (Nat.beq l.length ((len + m) * esz) && (Nat.blt 0 esz &&
          (insAll (fun c => insRun P O f (.slice p off len c false :: rest) (insH p (.cells cs esz false) q (.cells cs2 esz2 ro2) A.next) (insChk q cs2 esz2 ro2 esz (len + m) l)) cap (len + m - cap) &&
           (insRun P O f (.slice A.next off len (len + m) true :: rest) (insH A.next (.cells (cs ++ List.replicate ((len + m - cap) * esz) .any) esz false) q (.cells cs2 esz2 ro2) A.next.succ) (insChk q cs2 esz2 ro2 esz (len + m) l)).good))) with
        | true => A.setK p none fun A => A.newK (.cells l esz false) fun r A => k (.slice r 0 (len + m) (len + m) true) A
        | false => els
      | _, _, _ => els
    | _, _, _, _ => els
  | _ => els

theorem good_insert (hmix : P.follows .mixedOrders = true) {O : PT Orc} (hO : OrOK P O) (f : Pos) : Good P f.idx (orcInsert P O f) := by
  intro args A k els h
  unfold orcInsert at h
  split at h
  case h_2 => exact .inl h
  rename_i p off len cap i q qoff m qcap qsoft
  split at h
  case h_2 => exact .inl h
  rename_i cs esz cs2 esz2 ro2 hcap hpq hp hq
  split at h
  case h_2 => exact .inl h
  rename_i l1 l2 l3 hl1 hl2 hl3
  rw [fList_eq] at h
  simp only at h
  split at h
  case h_2 => exact .inl h
  rename_i hc
  simp only [Bool.and_eq_true, Nat.ble_eq, Nat.beq_eq, Nat.blt] at hc
  obtain ⟨hi, hlen, he0, hall, hin⟩ := hc
  rw [H.setK_eq, H.newK_eq] at h
  have hpq' : p ≠ q := Pos.beq_ne hpq
  have hcap' : cap < len + m := by
    rcases Nat.lt_or_ge cap (len + m) with h1 | h1
    · exact h1
    · rw [Nat.ble_eq_true_of_le h1] at hcap; cases hcap
  generalize hlg : l1 ++ (l2 ++ l3) = l at *
  obtain ⟨g1, rfl⟩ := readN_some hl1
  obtain ⟨g2, rfl⟩ := readN_some hl2
  obtain ⟨g3, rfl⟩ := readN_some hl3
  -- the run in place
  have hrun2 := Ans.good_eq hin
  unfold insRun at hrun2
  rw [bodyF_eq, execF_eq] at hrun2
  obtain ⟨v2, B2, hk2, hs2⟩ := appFunc_sound (exec_sound hmix hO 100000).ok hrun2
  obtain ⟨r2, roff2, rcap2, soft2, ds2, rfl, b1, b2, b3, b4, b5, b6⟩ := insChk_ok hk2
  refine .inr ⟨_, _, h, fun ρ w args' hr ha => ?_⟩
  obtain ⟨x', y', z', rfl, hx, hy, hz⟩ := ha.three
  cases hx with | @slice _ _ _ _ _ rb off' cap' hm hcp hoff hle =>
  cases hz with | @slice _ _ _ _ _ rb2 off2' cap2' hmq hcp2 hoff2 hle2 =>
  simp only [if_true] at hcp
  have hne : rb2.blk ≠ rb.blk := fun e => by
    rcases hr.inj q p _ _ rb2 rb hq hp hmq hm e with h1 | ⟨_, h1⟩
    · exact hpq' h1.symm
    · cases h1
  -- all that the new row holds was known
  have hknown : ∀ v ∈ l, ∃ y, VR ρ v y := by
    intro v hv
    rw [← hlg] at hv
    rcases List.mem_append.1 hv with hv | hv
    · exact hr.known hp hm v (List.mem_of_mem_drop (List.mem_of_mem_take hv))
    · rcases List.mem_append.1 hv with hv | hv
      · exact hr.known hq hmq v (List.mem_of_mem_drop (List.mem_of_mem_take hv))
      · exact hr.known hp hm v (List.mem_of_mem_drop (List.mem_of_mem_take hv))
  -- a run's end
  have fin : ∀ (ρs : RM) (B B1 : H) (w1 : World) (ρ1 : RM) (r : Pos) (roff rcap : Nat) (soft : Bool) (ds : List AV) (v' : Value), Stp ρs B w ρ1 B1 w1 → Rel ρ1 B1 w1 → VR ρ1 (.slice r roff (len + m) rcap soft) v' →
      (∀ x rbx, x ≠ A.next → ρ.m x = some rbx → ρs.m x = some rbx) → ρs.env = ρ.env → (∀ b, Owned ρs B b → b = rb.blk ∨ (ro2 = false ∧ b = rb2.blk)) →
      B1.t.get r = some (.cells ds esz false) → B1.t.get q = some (.cells cs2 esz2 ro2) → r ≠ q → len + m ≤ rcap → roff + rcap * esz ≤ ds.length → (ds.drop roff).take ((len + m) * esz) = l →
      ∃ ρ' v'', Ending.returned v' = .returned v'' ∧ Stp ρ A w ρ' ((A.set p none).new (.cells l esz false)) w1 ∧ Rel ρ' ((A.set p none).new (.cells l esz false)) w1 ∧ VR ρ' (.slice (A.set p none).next 0 (len + m) (len + m) true) v'' := by
    intro ρs B B1 w1 ρ1 r roff rcap soft ds v' hs hr1 hv hle henv hown c1 c2 c3 c4 c5 c6
    cases hv with | @slice _ _ _ _ _ rb1 roff' rcap' hm1 hcp1 hoff1 _ =>
    have hge : len + m ≤ rcap' := by omega
    obtain ⟨f1, f2⟩ := insert_finish (extra := rcap' - (len + m)) hr hp hm hq hmq hs hr1 (fun x rbx hx e => hs.le.2 _ _ (hle x rbx hx e)) (hs.le.1.trans henv) hown c2 c1 c3 hm1 (by rw [hlen]; exact c6) hknown
      (fun c t fz hb => by
        obtain ⟨c', t', fz', hb', hsz, _, _⟩ := hr1.obj _ _ _ c1 hm1
        rw [hb'] at hb; cases hb
        have hex : rcap' ≤ rcap + rb1.extra := by split at hcp1 <;> omega
        have h1 : rcap' * esz ≤ (rcap + rb1.extra) * esz := Nat.mul_le_mul_right _ hex
        have h2 : (len + m) * esz + (rcap' - (len + m)) * esz = rcap' * esz := by rw [← Nat.add_mul]; congr 1; omega
        rw [Nat.add_mul] at h1
        rw [hlen]; omega)
    exact ⟨_, _, rfl, f2, f1, .slice (off' := roff') (rb := ⟨rb1.blk, rb1.shift + roff, rcap' - (len + m)⟩) (RM.at_self _ _ _) (by simp only [if_true]; omega) (by simpa using hoff1) (Nat.le_refl _)⟩
  by_cases hroom : cap' < len + m
  · -- no room
    have hrun1 := insAll_ok hall (cap' - cap) (by omega)
    rw [show cap + (cap' - cap) = cap' by omega] at hrun1
    unfold insRun at hrun1
    rw [bodyF_eq, execF_eq] at hrun1
    obtain ⟨v1, B1, hk1, hs1⟩ := appFunc_sound (exec_sound hmix hO 100000).ok hrun1
    obtain ⟨r1, roff1, rcap1, soft1, ds1, rfl, a1, a2, a3, a4, a5, a6⟩ := insChk_ok hk1
    have hB : Rel ρ (insH p (.cells cs esz false) q (.cells cs2 esz2 ro2) A.next) w := hr.sub (fun x o e => by
      rcases insH_get e with ⟨rfl, rfl⟩ | ⟨rfl, rfl⟩
      · exact hp
      · exact hq) rfl rfl
    obtain ⟨hcall, hcalls⟩ := hs1 ρ w #[] #[] #[.slice (some ⟨rb.blk, off', none⟩) len cap', y', .slice (some ⟨rb2.blk, off2', none⟩) m cap2'] hB .nil .nil
      (.cons (.slice hm (by simp) hoff (by omega)) (.cons hy (.cons (.slice hmq hcp2 hoff2 hle2) .nil)))
    refine .inl ⟨f.idx, _, by simpa using hcall w, fun n => ?_⟩
    refine (by simpa using hcalls n : CallsIn (FW none) n P f.idx #[.slice (some ⟨rb.blk, off', none⟩) len cap', y', .slice (some ⟨rb2.blk, off2', none⟩) m cap2'] w _).mono ?_
    rintro e w1 ⟨ρ1, v', rfl, q1, q2, q3⟩
    exact fin ρ _ B1 w1 ρ1 r1 roff1 rcap1 soft1 ds1 v' q1 q2 q3 (fun _ _ _ e => e) rfl (fun b hb => by
      obtain ⟨x, o, rbx, e, ho, er, rfl⟩ := hb
      rcases insH_get e with ⟨rfl, rfl⟩ | ⟨rfl, rfl⟩
      · rw [hm] at er; cases er; exact .inl rfl
      · rw [hmq] at er; cases er; exact .inr ⟨ho, rfl⟩) a1 a2 a3 a4 a5 a6
  · -- in place
    have hex : len + m - cap ≤ rb.extra := by omega
    have hsub : Rel ρ ⟨A.next, PT.put (some (.cells cs2 esz2 ro2)) q .leaf, 0, false⟩ w := hr.sub (fun x o e => by
      simp only [PT.get_put] at e
      by_cases hxq : x = q
      · simp [hxq] at e; subst e; rw [hxq]; exact hq
      · simp [hxq, PT.get_leaf] at e) rfl rfl
    obtain ⟨c, t, fz, hb, hsz, hcell, hfz⟩ := hr.obj _ _ _ hp hm
    have hmul : (len + m - cap) * esz + (rb.extra - (len + m - cap)) * esz = rb.extra * esz := by rw [← Nat.add_mul]; congr 1; omega
    have hB := hsub.newAt (.cells (cs ++ List.replicate ((len + m - cap) * esz) .any) esz false) ⟨rb.blk, rb.shift, rb.extra - (len + m - cap)⟩ (hr.dom _ _ hm).2
      (fun x o rbx e er => by
        simp only [PT.get_put] at e
        by_cases hxq : x = q
        · rw [hxq, hmq] at er; cases er; exact hne
        · simp [hxq, PT.get_leaf] at e)
      ⟨c, t, fz, hb, by simp only [List.length_append, List.length_replicate]; omega, (fun j v hv => by
        by_cases hj : j < cs.length
        · rw [List.getElem?_append_left hj] at hv
          obtain ⟨v', h1, h2⟩ := hcell j v hv
          exact ⟨v', h1, h2.mono (RM.le_at hr.fresh_none)⟩
        · rw [List.getElem?_append_right (by omega), List.getElem?_replicate] at hv
          split at hv
          · rename_i hj2
            simp only [Option.some.injEq] at hv; subst hv
            have hlt : rb.shift + j < c.size := by omega
            exact ⟨c[rb.shift + j], by simp [hlt], .any _⟩
          · cases hv), hfz⟩
    obtain ⟨hcall, hcalls⟩ := hs2 (ρ.at A.next ⟨rb.blk, rb.shift, rb.extra - (len + m - cap)⟩) w #[] #[] #[.slice (some ⟨rb.blk, off', none⟩) len cap', y', .slice (some ⟨rb2.blk, off2', none⟩) m cap2'] hB .nil .nil
      (.cons (.slice (rb := ⟨rb.blk, rb.shift, rb.extra - (len + m - cap)⟩) (RM.at_self _ _ _) (by simp only [if_true]; omega) hoff (by omega)) (.cons (hy.mono (RM.le_at hr.fresh_none)) (.cons (.slice ((RM.le_at hr.fresh_none).2 _ _ hmq) hcp2 hoff2 hle2) .nil)))
    refine .inl ⟨f.idx, _, by simpa using hcall w, fun n => ?_⟩
    refine (by simpa using hcalls n : CallsIn (FW none) n P f.idx #[.slice (some ⟨rb.blk, off', none⟩) len cap', y', .slice (some ⟨rb2.blk, off2', none⟩) m cap2'] w _).mono ?_
    rintro e w1 ⟨ρ1, v', rfl, q1, q2, q3⟩
    exact fin _ _ B2 w1 ρ1 r2 roff2 rcap2 soft2 ds2 v' q1 q2 q3 (fun x rbx hx e => by rw [RM.at_ne _ _ _ _ hx]; exact e) rfl (fun b hb => by
      obtain ⟨x, o, rbx, e, ho, er, rfl⟩ := hb
      rcases insH_get e with ⟨rfl, rfl⟩ | ⟨rfl, rfl⟩
      · rw [RM.at_self] at er; cases er; exact .inl rfl
      · have hne2 : x ≠ A.next := fun e' => by subst e'; rw [hr.fresh_none] at hmq; cases hmq
        rw [RM.at_ne _ _ _ _ hne2, hmq] at er; cases er; exact .inr ⟨ho, rfl⟩) b1 b2 b3 b4 b5 b6

theorem good_insertN (hmix : P.follows .mixedOrders = true) {O : PT Orc} (hO : OrOK P O) (f : Nat) : Good P f (orcInsert P O (Pos.ofNat f)) := by
  have := good_insert hmix hO (Pos.ofNat f)
  rwa [Pos.idx_ofNat] at this

end Go.AM
