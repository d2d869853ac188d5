import Derived.Test.YtcjilddpkekcgaaBag2
import Derived.KernelRfl
set_option maxHeartbeats 0
set_option maxRecDepth 1000000
set_option linter.unusedSimpArgs false
set_option linter.unusedVariables false
open Go Go.AM Go.Proofs
namespace Pro

def upd (ys : Nat → Bool) (i : Nat) (b : Bool) : Nat → Bool := fun j => if j = i then b else ys j

theorem yl_set (ys : Nat → Bool) (b : Bool) : ∀ (n k i : Nat) (r : List AV), i < n → (yl ys n k r).set i (.bool b) = yl (upd ys (k + i) b) n k r
  | 0, _, _, _, h => by omega
  | n + 1, k, 0, r, _ => by
    have key : ∀ (m q : Nat), k < q → yl ys m q r = yl (upd ys (k + 0) b) m q r := by
      intro m
      induction m with
      | zero => intro q _; rfl
      | succ m ih => intro q hq; simp only [yl, upd, Nat.add_zero, if_neg (show q ≠ k by omega)]; rw [ih (q + 1) (by omega)]; rfl
    simp only [yl, List.set_cons_zero, key n (k + 1) (by omega)]
    simp [upd]
  | n + 1, k, i + 1, r, h => by
    simp only [yl, List.set_cons_succ]
    rw [yl_set ys b n (k + 1) i r (by omega), show k + 1 + i = k + (i + 1) by omega]
    simp [upd]

theorem prop_set (s : PS) {n : Nat} (b : Bool) (h : n < 65) (f : List AV → Ans) (e : Ans) : set1K (propC s) (Nat.add 15 (Nat.mul n 1)) (.bool b) f e = f (propC { s with ys := upd s.ys n b }) := by
  rw [set1K_eq, show Nat.add 15 (Nat.mul n 1) = n + 15 by show 15 + n * 1 = _; omega]
  have hl : n + 15 < (propC s).length := by
    show n + 15 < (yl s.ys 65 0 _).length + 15
    rw [yl_len]; omega
  have hs : (propC s).set (n + 15) (.bool b) = propC { s with ys := upd s.ys n b } := by
    show (_ :: _ :: _ :: _ :: _ :: _ :: _ :: _ :: _ :: _ :: _ :: _ :: _ :: _ :: _ :: (yl s.ys 65 0 _).set n (.bool b)) = _
    rw [yl_set _ _ _ _ _ _ h, Nat.zero_add]; rfl
  simp only [if_pos hl, hs]

noncomputable def fx35 : Fx := ⟨none, 35, 76⟩

noncomputable def r35 : Code := subC [1,1,1,0,1,0,0] (bodyC Try.f35)

theorem yes35 (s : PS) (V a b : AV) (k : AExit → List AV → H → Ans) :
    execH Try.prog .leaf [] 1000 fx35 r35 (mkTm [(0, .ptr (.ofNat 0) 0), (3, V), (4, a), (5, b)]) (mkH [some (propO s), none]) [] (pickK [0, 3, 4, 5] [] [] k)
    = fInt (Int.ofNat s.me) fun n => fInt n fun n => natOf n (fun m => boolK (Nat.blt m 65) (fNat (Nat.add 15 (Nat.mul m 1)) fun off => set1K (propC s) off (AV.bool true) (fun cs => k AExit.normal [AV.ptr (.ofNat 0) 0, V, a, b] (mkH [some (HObj.cells cs 84 false), none])) (Ans.err 2 0 0)) (Ans.err 35 7 3027)) (Ans.err 35 7 3027) := by kernel_rfl

theorem yes35_ok (s : PS) (V a b : AV) (hm : s.me < 65) : CodeOK Try.prog fx35 r35 (mkTm [(0, .ptr (.ofNat 0) 0), (3, V), (4, a), (5, b)]) (mkH [some (propO s), none]) [] .normal (mkTm ([0, 3, 4, 5].zip [.ptr (.ofNat 0) 0, V, a, b])) (mkH [some (propO { s with ys := upd s.ys s.me true }), none]) [] :=
  CodeOK.of_pick hmix .leaf .nil (N := 1000) [0, 3, 4, 5] [] [] fun k => (yes35 s V a b k).trans (by
    simp only [fInt_eq, fNat_eq, natOf_of, blt_true hm, boolK_true, prop_set s true hm]
    try exact rfl)

/-- A vote. -/
structure VS where
  set : Int
  p1 : Int
  p2 : Int
  a1 : Int
  a2 : Int
  data : List Nat

def voteC (v : VS) : List AV := [.int .i64 v.set, .int .i64 v.p1, .int .i64 v.p2, .int .i64 v.a1, .int .i64 v.a2, .fz (u8s v.data) v.data.length]

theorem secT (s sA sB sN : PS) (v : VS) (V : List AV) (n : Nat) (k : AV → H → Ans) :
    bodyF Try.prog (execH Try.prog (mkO [(17, orcClone), (33, orcLess), (34, orcMost), (40, orcObj [.ptr (.ofNat 0) 0, .bool false] 0 (propO sN) (propO sN) (.fz V n)), (44, orcErr)]) [⟨35, 1005, exLoc fx35 r35 [(0, .ptr (.ofNat 0) 0), (3, .ptr (.ofNat 1) 0), (4, .nils), (5, .nils)] 2 [(0, propO sA)] .normal [(0, .ptr (.ofNat 0) 0), (3, .ptr (.ofNat 1) 0), (4, .nils), (5, .nils)] [(0, some (propO sB))] []⟩] 1000) (Pos.ofNat 35) [] [] [.ptr (.ofNat 0) 0, .agg (voteC v)] (mkH [some (propO s)]) k
    = fInt s.e1 fun n_1 => brec (brec (guardK (fx35 = fx35 ∧ r35 = r35 ∧ LTm [(0, AV.ptr (.ofNat 0) 0), (3, AV.ptr (.ofNat 1) 0), (4, AV.nils), (5, AV.nils)] (mkTm [(0, AV.ptr (.ofNat 0) 0), (1, AV.agg (voteC v)), (3, AV.ptr (.ofNat 1) 0), (4, AV.nils), (5, AV.nils), (6, AV.ptr (.ofNat 0) 0), (7, AV.ptr (.ofNat 0) 0), (8, AV.ptr (.ofNat 0) 0), (9, AV.ptr (.ofNat 0) 0), (10, AV.agg (yl (fun _ => false) 65 0 [])), (11, AV.ptr (.ofNat 0) 0), (12, AV.ptr (.ofNat 0) 0), (13, AV.ptr (.ofNat 0) 6), (14, AV.fz (u8s s.own) (List.length s.own)), (15, AV.ptr (.ofNat 0) 0), (16, AV.ptr (.ofNat 0) 8), (17, AV.ptr (.ofNat 0) 0), (18, AV.ptr (.ofNat 0) 82), (19, AV.ptr (.ofNat 0) 0), (20, AV.ptr (.ofNat 0) 15), (21, AV.ptr (.ofNat 0) 0), (22, AV.ptr (.ofNat 0) 81), (23, AV.ptr (.ofNat 0) 0), (24, AV.ptr (.ofNat 0) 0), (25, AV.ptr (.ofNat 0) 13), (26, AV.ptr (.ofNat 0) 13), (27, AV.int .i64 n_1), (28, AV.bool false), (36, AV.ptr (.ofNat 0) 0), (37, AV.ptr (.ofNat 0) 0), (38, AV.ptr (.ofNat 0) 9), (39, AV.agg [AV.int .i64 s.b1, AV.int .i64 s.b2]), (40, AV.ptr (.ofNat 1) 1), (41, AV.agg [AV.int .i64 v.p1, AV.int .i64 v.p2]), (42, AV.bool false), (43, AV.bool true)]) ∧ Pos.ofNat 2 = Pos.ofNat 2 ∧ (some (HObj.cells (AV.int .i64 s.set :: AV.int .i64 (Int.ofNat s.me) :: AV.int .i64 (Int.ofNat s.nodes) :: AV.int .i64 s.c1 :: AV.int .i64 s.c2 :: AV.int .i64 s.c3 :: AV.fz (u8s s.own) (List.length s.own) :: AV.int .i64 s.retry :: AV.int .i64 (Int.ofNat 2) :: AV.int .i64 s.b1 :: AV.int .i64 s.b2 :: AV.int .i64 s.s1 :: AV.int .i64 s.s2 :: AV.int .i64 s.e1 :: AV.int .i64 s.e2 :: yl (fun _ => false) 65 0 [AV.fz (u8s s.told) (List.length s.told), AV.fz (u8s s.own) (List.length s.own), AV.int .i64 (Int.ofNat 0), AV.int .i64 s.wait]) 84 false) = some (HObj.cells (propC sA) 84 false) ∧ True) ∧ MkNil []) (fInt sB.set fun n_2 => boolK (Nat.beq (List.length (u8s sB.value)) (List.length sB.value)) (boolK (Nat.blt (List.length sB.value) 400000) (guardK ([AV.ptr (.ofNat 0) 0, AV.bool false] = [AV.ptr (.ofNat 0) 0, AV.bool false] ∧ some (propO sB) = some (propO sN)) (fInt (Int.ofNat sN.nodes) fun n_3 => fInt n_3 fun n_4 => brec (k (AV.tup [AV.slice (Pos.ofNat 5) 0 1 1 true, AV.fz V n]) (mkH [some (propO sN), some (HObj.cells (voteC v) 6 false), some (HObj.cells [AV.int .i64 (Int.ofNat 8)] 1 false), some (HObj.cells (AV.int .i64 (Int.ofNat 8) :: AV.int .i64 n_2 :: AV.int .i64 (Int.ofNat 0) :: AV.int .i64 sB.b1 :: AV.int .i64 sB.b2 :: zid [AV.fz (u8s sB.value) (List.length sB.value)]) 38 false), some (HObj.cells (AV.int .i64 (Int.ofNat 8) :: AV.int .i64 n_2 :: AV.int .i64 (Int.ofNat 0) :: AV.int .i64 sB.b1 :: AV.int .i64 sB.b2 :: zid [AV.fz (u8s sB.value) (List.length sB.value)]) 38 false), some (HObj.cells (AV.int .i64 (Int.ofNat 8) :: AV.int .i64 n_2 :: AV.int .i64 (Int.ofNat 0) :: AV.int .i64 sB.b1 :: AV.int .i64 sB.b2 :: zid [AV.fz (u8s sB.value) (List.length sB.value)]) 38 false)])) (Ans.err 77 0 0) (mostB (yl sN.ys 65 0 []) n_4)) (Ans.err 84 0 0)) (Ans.err 82 0 0)) (Ans.err 82 1 0)) (Ans.err 0 0 0)) (guardK ([AV.ptr (.ofNat 0) 0, AV.bool false] = [AV.ptr (.ofNat 0) 0, AV.bool false] ∧ some (HObj.cells (AV.int .i64 s.set :: AV.int .i64 (Int.ofNat s.me) :: AV.int .i64 (Int.ofNat s.nodes) :: AV.int .i64 s.c1 :: AV.int .i64 s.c2 :: AV.int .i64 s.c3 :: AV.fz (u8s s.own) (List.length s.own) :: AV.int .i64 s.retry :: AV.int .i64 (Int.ofNat 2) :: AV.int .i64 s.b1 :: AV.int .i64 s.b2 :: AV.int .i64 s.s1 :: AV.int .i64 s.s2 :: AV.int .i64 s.e1 :: AV.int .i64 s.e2 :: yl (fun _ => false) 65 0 [AV.fz (u8s s.told) (List.length s.told), AV.fz (u8s s.own) (List.length s.own), AV.int .i64 (Int.ofNat 0), AV.int .i64 s.wait]) 84 false) = some (propO sN)) (fInt (Int.ofNat sN.nodes) fun n_2 => fInt n_2 fun n_3 => brec (k (AV.tup [AV.nils, AV.fz V n]) (mkH [some (propO sN), some (HObj.cells (voteC v) 6 false)])) (Ans.err 77 0 0) (mostB (yl sN.ys 65 0 []) n_3)) (Ans.err 84 0 0)) (bless s.b1 s.b2 v.p1 v.p2)) (brec (guardK (fx35 = fx35 ∧ r35 = r35 ∧ LTm [(0, AV.ptr (.ofNat 0) 0), (3, AV.ptr (.ofNat 1) 0), (4, AV.nils), (5, AV.nils)] (mkTm [(0, AV.ptr (.ofNat 0) 0), (1, AV.agg (voteC v)), (3, AV.ptr (.ofNat 1) 0), (4, AV.nils), (5, AV.nils), (6, AV.ptr (.ofNat 0) 0), (7, AV.ptr (.ofNat 0) 0), (8, AV.ptr (.ofNat 0) 0), (9, AV.ptr (.ofNat 0) 0), (10, AV.agg (yl (fun _ => false) 65 0 [])), (11, AV.ptr (.ofNat 0) 0), (12, AV.ptr (.ofNat 0) 0), (13, AV.ptr (.ofNat 0) 6), (14, AV.fz (u8s s.own) (List.length s.own)), (15, AV.ptr (.ofNat 0) 0), (16, AV.ptr (.ofNat 0) 8), (17, AV.ptr (.ofNat 0) 0), (18, AV.ptr (.ofNat 0) 82), (19, AV.ptr (.ofNat 0) 0), (20, AV.ptr (.ofNat 0) 15), (21, AV.ptr (.ofNat 0) 0), (22, AV.ptr (.ofNat 0) 81), (23, AV.ptr (.ofNat 0) 0), (24, AV.ptr (.ofNat 0) 0), (25, AV.ptr (.ofNat 0) 13), (26, AV.ptr (.ofNat 0) 13), (27, AV.int .i64 n_1), (28, AV.bool true), (29, AV.ptr (.ofNat 0) 0), (30, AV.ptr (.ofNat 0) 0), (31, AV.ptr (.ofNat 0) 0), (32, AV.ptr (.ofNat 0) 80), (33, AV.fz (u8s s.told) (List.length s.told)), (34, AV.ptr (.ofNat 0) 0), (35, AV.ptr (.ofNat 0) 81), (36, AV.ptr (.ofNat 0) 0), (37, AV.ptr (.ofNat 0) 0), (38, AV.ptr (.ofNat 0) 9), (39, AV.agg [AV.int .i64 s.b1, AV.int .i64 s.b2]), (40, AV.ptr (.ofNat 1) 1), (41, AV.agg [AV.int .i64 v.p1, AV.int .i64 v.p2]), (42, AV.bool false), (43, AV.bool true)]) ∧ Pos.ofNat 2 = Pos.ofNat 2 ∧ (some (HObj.cells (AV.int .i64 s.set :: AV.int .i64 (Int.ofNat s.me) :: AV.int .i64 (Int.ofNat s.nodes) :: AV.int .i64 s.c1 :: AV.int .i64 s.c2 :: AV.int .i64 s.c3 :: AV.fz (u8s s.own) (List.length s.own) :: AV.int .i64 s.retry :: AV.int .i64 (Int.ofNat 2) :: AV.int .i64 s.b1 :: AV.int .i64 s.b2 :: AV.int .i64 s.s1 :: AV.int .i64 s.s2 :: AV.int .i64 s.e1 :: AV.int .i64 s.e2 :: yl (fun _ => false) 65 0 [AV.fz (u8s s.told) (List.length s.told), AV.fz (u8s s.told) (List.length s.told), AV.int .i64 (Int.ofNat 0), AV.int .i64 s.wait]) 84 false) = some (HObj.cells (propC sA) 84 false) ∧ True) ∧ MkNil []) (fInt sB.set fun n_2 => boolK (Nat.beq (List.length (u8s sB.value)) (List.length sB.value)) (boolK (Nat.blt (List.length sB.value) 400000) (guardK ([AV.ptr (.ofNat 0) 0, AV.bool false] = [AV.ptr (.ofNat 0) 0, AV.bool false] ∧ some (propO sB) = some (propO sN)) (fInt (Int.ofNat sN.nodes) fun n_3 => fInt n_3 fun n_4 => brec (k (AV.tup [AV.slice (Pos.ofNat 5) 0 1 1 true, AV.fz V n]) (mkH [some (propO sN), some (HObj.cells (voteC v) 6 false), some (HObj.cells [AV.int .i64 (Int.ofNat 8)] 1 false), some (HObj.cells (AV.int .i64 (Int.ofNat 8) :: AV.int .i64 n_2 :: AV.int .i64 (Int.ofNat 0) :: AV.int .i64 sB.b1 :: AV.int .i64 sB.b2 :: zid [AV.fz (u8s sB.value) (List.length sB.value)]) 38 false), some (HObj.cells (AV.int .i64 (Int.ofNat 8) :: AV.int .i64 n_2 :: AV.int .i64 (Int.ofNat 0) :: AV.int .i64 sB.b1 :: AV.int .i64 sB.b2 :: zid [AV.fz (u8s sB.value) (List.length sB.value)]) 38 false), some (HObj.cells (AV.int .i64 (Int.ofNat 8) :: AV.int .i64 n_2 :: AV.int .i64 (Int.ofNat 0) :: AV.int .i64 sB.b1 :: AV.int .i64 sB.b2 :: zid [AV.fz (u8s sB.value) (List.length sB.value)]) 38 false)])) (Ans.err 77 0 0) (mostB (yl sN.ys 65 0 []) n_4)) (Ans.err 84 0 0)) (Ans.err 82 0 0)) (Ans.err 82 1 0)) (Ans.err 0 0 0)) (guardK ([AV.ptr (.ofNat 0) 0, AV.bool false] = [AV.ptr (.ofNat 0) 0, AV.bool false] ∧ some (HObj.cells (AV.int .i64 s.set :: AV.int .i64 (Int.ofNat s.me) :: AV.int .i64 (Int.ofNat s.nodes) :: AV.int .i64 s.c1 :: AV.int .i64 s.c2 :: AV.int .i64 s.c3 :: AV.fz (u8s s.own) (List.length s.own) :: AV.int .i64 s.retry :: AV.int .i64 (Int.ofNat 2) :: AV.int .i64 s.b1 :: AV.int .i64 s.b2 :: AV.int .i64 s.s1 :: AV.int .i64 s.s2 :: AV.int .i64 s.e1 :: AV.int .i64 s.e2 :: yl (fun _ => false) 65 0 [AV.fz (u8s s.told) (List.length s.told), AV.fz (u8s s.told) (List.length s.told), AV.int .i64 (Int.ofNat 0), AV.int .i64 s.wait]) 84 false) = some (propO sN)) (fInt (Int.ofNat sN.nodes) fun n_2 => fInt n_2 fun n_3 => brec (k (AV.tup [AV.nils, AV.fz V n]) (mkH [some (propO sN), some (HObj.cells (voteC v) 6 false)])) (Ans.err 77 0 0) (mostB (yl sN.ys 65 0 []) n_3)) (Ans.err 84 0 0)) (bless s.b1 s.b2 v.p1 v.p2)) (ilt (Int.ofNat 0) n_1) := by kernel_rfl

theorem cnt_cons (b : Bool) (l : List Bool) : cnt (b :: l) = (if b = true then 1 else 0) + cnt l := by
  cases b <;> simp [cnt]; omega

theorem cnt_upd (m : Nat) (b : Bool) : ∀ (n k : Nat), cnt ((yl (upd (fun _ => false) m b) n k []).map unB) ≤ (if k ≤ m then 1 else 0)
  | 0, k => by simp [yl, cnt]
  | n + 1, k => by
    have ih := cnt_upd m b n (k + 1)
    simp only [yl, List.map_cons, cnt_cons]
    by_cases hk : k = m
    · subst hk
      rw [if_neg (by omega)] at ih
      rw [if_pos (Nat.le_refl _)]
      split <;> omega
    · have : unB (.bool (upd (fun _ => false) m b k)) = false := by simp [unB, upd, hk]
      rw [this, if_neg (by decide)]
      split at ih <;> split <;> omega

theorem cnt_zero : ∀ (n k : Nat), cnt ((yl (fun _ => false) n k []).map unB) = 0
  | 0, _ => rfl
  | n + 1, k => by simp only [yl, List.map_cons, cnt_cons, cnt_zero n (k + 1)]; rfl

theorem most_upd {m n : Nat} {b : Bool} (h : 2 ≤ n) : mostB (yl (upd (fun _ => false) m b) 65 0 []) (.ofNat n) = false := by
  have := cnt_upd m b 65 0
  rw [if_pos (Nat.zero_le _)] at this
  unfold mostB
  exact decide_eq_false (by show ¬ ((n : Nat) : Int) < _; omega)

theorem most_zero {n : Nat} : mostB (yl (fun _ => false) 65 0 []) (.ofNat n) = false := by
  unfold mostB
  rw [cnt_zero]
  exact decide_eq_false (by show ¬ ((n : Nat) : Int) < _; omega)

def factC (kind set b1 b2 : Int) (data : List Nat) : List AV := .int .i64 kind :: .int .i64 set :: .int .i64 (.ofNat 0) :: .int .i64 b1 :: .int .i64 b2 :: zid [.fz (u8s data) data.length]

theorem notes_fz {s : PS} (g : Bool) (hv : s.value.length < 400000) (hN : s.nodes ≤ 64) :
    ∃ ms : List Int, MsOK s g ms ∧ FunOK Try.prog 40 [.ptr (.ofNat 0) 0, .bool g] (mkH [some (propO s)]) (.fz (flat (noteC s) ms) ms.length) (mkH [some (propO s)]) := by
  obtain ⟨ms, h1, h2⟩ := notes_ok (s := s) g hv hN
  refine ⟨ms, h1, ?_⟩
  cases ms with
  | nil => exact h2.wk .nils (.refl _)
  | cons a ms =>
    generalize hl : a :: ms = l at h1 h2 ⊢
    have hv1 : rowV 1 l = .slice (.ofNat 1) 0 l.length l.length true := by subst hl; rfl
    have hv2 : rowH s l = [some (.cells (flat (noteC s) l) 48 false)] := by subst hl; rfl
    rw [hv1, hv2] at h2
    refine h2.iceDrop (propC_pf s) 0 rfl (flat_pf (noteC_pf s) l) ?_ (fun _ => rfl)
    have hlen := flat_length (noteC_len s) l
    show (match Nat.ble (0 + l.length * 48) (flat (noteC s) l).length with | true => AV.fz (((flat (noteC s) l).drop 0).take (l.length * 48)) l.length | false => _) = _
    rw [ble_true (by rw [hlen]; omega), List.drop_zero, List.take_of_length_le (by rw [hlen]; exact Nat.le_refl _)]

theorem good_notes {s : PS} {g : Bool} {ms : List Int} (h : FunOK Try.prog 40 [.ptr (.ofNat 0) 0, .bool g] (mkH [some (propO s)]) (.fz (flat (noteC s) ms) ms.length) (mkH [some (propO s)])) :
    Good Try.prog 40 (orcObj [.ptr (.ofNat 0) 0, .bool g] 0 (propO s) (propO s) (.fz (flat (noteC s) ms) ms.length)) :=
  good_obj h (fun σ => prop_ren σ s) (fun σ => prop_ren σ s) (fun _ => rfl) (fun σ hσ => by show [AV.ptr (σ Pos.z) 0, AV.bool g] = _; rw [hσ])

/-- The value that phase 2 asks for. -/
def valS (s : PS) : List Nat := if 0 < s.e1 then s.told else s.own

/-- What stands behind 'second'. -/
noncomputable def secS (s : PS) (v : VS) : PS := { s with phase := 2, ticks := 0, value := valS s, ys := if bless s.b1 s.b2 v.p1 v.p2 = true then (fun _ => false) else upd (fun _ => false) s.me true }

noncomputable def secF (s : PS) (v : VS) : AV := if bless s.b1 s.b2 v.p1 v.p2 = true then .fz [] 0 else .fz (factC 8 s.set s.b1 s.b2 (valS s)) 1

theorem second_ok {s : PS} {v : VS} (h1 : 2 ≤ s.nodes) (h2 : s.nodes ≤ 64) (hm : s.me < 65) (ho : s.own.length < 400000) (ht : s.told.length < 400000) :
    ∃ ms : List Int, MsOK s false ms ∧ FunOK Try.prog 35 [.ptr (.ofNat 0) 0, .agg (voteC v)] (mkH [some (propO s)]) (.tup [secF s v, .fz (flat (noteC (secS s v)) ms) ms.length]) (mkH [some (propO (secS s v))]) := by
  have hval : (valS s).length < 400000 := by unfold valS; split <;> assumption
  obtain ⟨ms, hms, hN⟩ := notes_fz (s := secS s v) false hval h2
  refine ⟨ms, hms, ?_⟩
  have hmm : mostB (yl (secS s v).ys 65 0 []) (.ofNat (secS s v).nodes) = false := by
    show mostB (yl (if bless s.b1 s.b2 v.p1 v.p2 = true then (fun _ => false) else upd (fun _ => false) s.me true) 65 0 []) (.ofNat s.nodes) = false
    split
    · exact most_zero
    · exact most_upd h1
  have hB : ∀ sA : PS, sA.me < 65 → LocCode Try.prog fx35 r35 [(0, .ptr (.ofNat 0) 0), (3, .ptr (.ofNat 1) 0), (4, .nils), (5, .nils)] 2 [(0, propO sA)] .normal [(0, .ptr (.ofNat 0) 0), (3, .ptr (.ofNat 1) 0), (4, .nils), (5, .nils)] [(0, some (propO { sA with ys := upd sA.ys sA.me true }))] [] := fun sA hA =>
    LocCode.of (s := [0, 1]) (yes35_ok sA (.ptr (.ofNat 1) 0) .nils .nils hA) rfl rfl (by show [0].Nodup; decide) (by show ∀ i ∈ [0, 1], i < 2; decide) (Nat.le_refl _) trivial (by repeat first | exact .nil | refine .cons (by kernel_rfl) ?_) (by repeat first | exact .nil | refine .cons (by kernel_rfl) ?_) (by simp only [preL, prop_ren]) (by simp only [postL, Option.map_some, prop_ren]) rfl
  have hv4 : Nat.beq (u8s (valS s)).length (valS s).length = true := AM.beq_true (u8s_len _)
  have hv5 : Nat.blt (valS s).length 400000 = true := blt_true hval
  by_cases he : 0 < s.e1 <;> cases hb : bless s.b1 s.b2 v.p1 v.p2
  · have hV : valS s = s.told := if_pos he
    have hS : secS s v = { s with phase := 2, ticks := 0, value := s.told, ys := (upd (fun _ => false) s.me true) } := by unfold secS; rw [hV, hb]; rfl
    have hF : secF s v = .fz (factC 8 s.set s.b1 s.b2 s.told) 1 := by unfold secF; rw [hV]; rw [hb]; rfl
    have hc : ilt (Int.ofNat 0) s.e1 = true := ilt_true he
    rw [hV] at hv4 hv5
    rw [hS] at hN hmm ⊢
    rw [hF]
    have R := FunOK.of_runH (v := .tup [.slice (.ofNat 5) 0 1 1 true, .fz (flat (noteC { s with phase := 2, ticks := 0, value := s.told, ys := (upd (fun _ => false) s.me true) }) ms) ms.length]) (A' := mkH [some (propO { s with phase := 2, ticks := 0, value := s.told, ys := (upd (fun _ => false) s.me true) }), some (.cells (voteC v) 6 false), some (.cells [.int .i64 (.ofNat 8)] 1 false), some (.cells (factC 8 s.set s.b1 s.b2 s.told) 38 false), some (.cells (factC 8 s.set s.b1 s.b2 s.told) 38 false), some (.cells (factC 8 s.set s.b1 s.b2 s.told) 38 false)]) hmix (OrOK.cons good_clone (OrOK.cons good_less (OrOK.cons good_most (OrOK.cons (good_notes hN) (OrOK.cons good_err .nil))))) (HolesOK.one (hB { s with phase := 2, ticks := 0, value := s.told, ys := fun _ => false } hm).ex) (N := 1000) (f := 35) fun k => (secT s _ _ _ v _ _ k).trans (by
        simp only [fInt_eq, fNat_eq, hb, hc, boolK_true, boolK_false, brec_true, brec_false, Bool.not_false, Bool.not_true]
        refine (guardK_pos (by exact ⟨trivial, trivial, (by repeat first | exact .nil | refine .cons (by kernel_rfl) ?_), trivial, ⟨rfl, trivial⟩, rfl⟩) _ _).trans ?_
        simp only [fInt_eq, fNat_eq, hv4, hv5, boolK_true]
        refine (guardK_pos (by exact ⟨trivial, by first | trivial | rfl⟩) _ _).trans ?_
        simp only [fInt_eq, hmm, brec_false]
        try exact rfl)
    exact R.iceDrop (propC_pf _) 4 (l := factC 8 s.set s.b1 s.b2 s.told) (esz := 38) rfl rfl (by kernel_rfl) (fun _ => rfl)
  · have hV : valS s = s.told := if_pos he
    have hS : secS s v = { s with phase := 2, ticks := 0, value := s.told, ys := (fun _ => false) } := by unfold secS; rw [hV, hb]; rfl
    have hF : secF s v = .fz [] 0 := by unfold secF; rw [hb]; rfl
    have hc : ilt (Int.ofNat 0) s.e1 = true := ilt_true he
    rw [hV] at hv4 hv5
    rw [hS] at hN hmm ⊢
    rw [hF]
    have R := FunOK.of_runH (v := .tup [.nils, .fz (flat (noteC { s with phase := 2, ticks := 0, value := s.told, ys := (fun _ => false) }) ms) ms.length]) (A' := mkH [some (propO { s with phase := 2, ticks := 0, value := s.told, ys := (fun _ => false) }), some (.cells (voteC v) 6 false)]) hmix (OrOK.cons good_clone (OrOK.cons good_less (OrOK.cons good_most (OrOK.cons (good_notes hN) (OrOK.cons good_err .nil))))) (HolesOK.one (hB { s with phase := 2, ticks := 0, value := s.told, ys := fun _ => false } hm).ex) (N := 1000) (f := 35) fun k => (secT s _ _ _ v _ _ k).trans (by
        simp only [fInt_eq, fNat_eq, hb, hc, boolK_true, boolK_false, brec_true, brec_false, Bool.not_false, Bool.not_true]
        refine (guardK_pos (by exact ⟨trivial, by first | trivial | rfl⟩) _ _).trans ?_
        simp only [fInt_eq, hmm, brec_false]
        try exact rfl)
    exact (R.drop1 (fun σ => prop_ren σ _) (fun _ => rfl)).wk (Wk.tup (.cons .nils (.refl _))) (.refl _)
  · have hV : valS s = s.own := if_neg he
    have hS : secS s v = { s with phase := 2, ticks := 0, value := s.own, ys := (upd (fun _ => false) s.me true) } := by unfold secS; rw [hV, hb]; rfl
    have hF : secF s v = .fz (factC 8 s.set s.b1 s.b2 s.own) 1 := by unfold secF; rw [hV]; rw [hb]; rfl
    have hc : ilt (Int.ofNat 0) s.e1 = false := ilt_false (by show s.e1 ≤ 0; omega)
    rw [hV] at hv4 hv5
    rw [hS] at hN hmm ⊢
    rw [hF]
    have R := FunOK.of_runH (v := .tup [.slice (.ofNat 5) 0 1 1 true, .fz (flat (noteC { s with phase := 2, ticks := 0, value := s.own, ys := (upd (fun _ => false) s.me true) }) ms) ms.length]) (A' := mkH [some (propO { s with phase := 2, ticks := 0, value := s.own, ys := (upd (fun _ => false) s.me true) }), some (.cells (voteC v) 6 false), some (.cells [.int .i64 (.ofNat 8)] 1 false), some (.cells (factC 8 s.set s.b1 s.b2 s.own) 38 false), some (.cells (factC 8 s.set s.b1 s.b2 s.own) 38 false), some (.cells (factC 8 s.set s.b1 s.b2 s.own) 38 false)]) hmix (OrOK.cons good_clone (OrOK.cons good_less (OrOK.cons good_most (OrOK.cons (good_notes hN) (OrOK.cons good_err .nil))))) (HolesOK.one (hB { s with phase := 2, ticks := 0, value := s.own, ys := fun _ => false } hm).ex) (N := 1000) (f := 35) fun k => (secT s _ _ _ v _ _ k).trans (by
        simp only [fInt_eq, fNat_eq, hb, hc, boolK_true, boolK_false, brec_true, brec_false, Bool.not_false, Bool.not_true]
        refine (guardK_pos (by exact ⟨trivial, trivial, (by repeat first | exact .nil | refine .cons (by kernel_rfl) ?_), trivial, ⟨rfl, trivial⟩, rfl⟩) _ _).trans ?_
        simp only [fInt_eq, fNat_eq, hv4, hv5, boolK_true]
        refine (guardK_pos (by exact ⟨trivial, by first | trivial | rfl⟩) _ _).trans ?_
        simp only [fInt_eq, hmm, brec_false]
        try exact rfl)
    exact R.iceDrop (propC_pf _) 4 (l := factC 8 s.set s.b1 s.b2 s.own) (esz := 38) rfl rfl (by kernel_rfl) (fun _ => rfl)
  · have hV : valS s = s.own := if_neg he
    have hS : secS s v = { s with phase := 2, ticks := 0, value := s.own, ys := (fun _ => false) } := by unfold secS; rw [hV, hb]; rfl
    have hF : secF s v = .fz [] 0 := by unfold secF; rw [hb]; rfl
    have hc : ilt (Int.ofNat 0) s.e1 = false := ilt_false (by show s.e1 ≤ 0; omega)
    rw [hV] at hv4 hv5
    rw [hS] at hN hmm ⊢
    rw [hF]
    have R := FunOK.of_runH (v := .tup [.nils, .fz (flat (noteC { s with phase := 2, ticks := 0, value := s.own, ys := (fun _ => false) }) ms) ms.length]) (A' := mkH [some (propO { s with phase := 2, ticks := 0, value := s.own, ys := (fun _ => false) }), some (.cells (voteC v) 6 false)]) hmix (OrOK.cons good_clone (OrOK.cons good_less (OrOK.cons good_most (OrOK.cons (good_notes hN) (OrOK.cons good_err .nil))))) (HolesOK.one (hB { s with phase := 2, ticks := 0, value := s.own, ys := fun _ => false } hm).ex) (N := 1000) (f := 35) fun k => (secT s _ _ _ v _ _ k).trans (by
        simp only [fInt_eq, fNat_eq, hb, hc, boolK_true, boolK_false, brec_true, brec_false, Bool.not_false, Bool.not_true]
        refine (guardK_pos (by exact ⟨trivial, by first | trivial | rfl⟩) _ _).trans ?_
        simp only [fInt_eq, hmm, brec_false]
        try exact rfl)
    exact (R.drop1 (fun σ => prop_ren σ _) (fun _ => rfl)).wk (Wk.tup (.cons .nils (.refl _))) (.refl _)

theorem decT (s sN : PS) (V : List AV) (n : Nat) (k : AV → H → Ans) :
    bodyF Try.prog (execH Try.prog (mkO [(17, orcClone), (40, orcObj [.ptr (.ofNat 0) 0, .bool false] 0 (propO sN) (propO sN) (.fz V n))]) [] 1000) (Pos.ofNat 36) [] [] [.ptr (.ofNat 0) 0] (mkH [some (propO s)]) k
    = fInt s.set fun n_1 => boolK (Nat.beq (List.length (u8s s.value)) (List.length s.value)) (boolK (Nat.blt (List.length s.value) 400000) (guardK ([AV.ptr (.ofNat 0) 0, AV.bool false] = [AV.ptr (.ofNat 0) 0, AV.bool false] ∧ some (HObj.cells (AV.int .i64 s.set :: AV.int .i64 (Int.ofNat s.me) :: AV.int .i64 (Int.ofNat s.nodes) :: AV.int .i64 s.c1 :: AV.int .i64 s.c2 :: AV.int .i64 s.c3 :: AV.fz (u8s s.own) (List.length s.own) :: AV.int .i64 s.retry :: AV.int .i64 (Int.ofNat 3) :: AV.int .i64 s.b1 :: AV.int .i64 s.b2 :: AV.int .i64 s.s1 :: AV.int .i64 s.s2 :: AV.int .i64 s.e1 :: AV.int .i64 s.e2 :: yl s.ys 65 0 [AV.fz (u8s s.told) (List.length s.told), AV.fz (u8s s.value) (List.length s.value), AV.int .i64 s.ticks, AV.int .i64 s.wait]) 84 false) = some (propO sN)) (k (AV.tup [AV.slice (Pos.ofNat 4) 0 1 1 true, AV.fz V n]) (mkH [some (propO sN), some (HObj.cells [AV.int .i64 (Int.ofNat 9)] 1 false), some (HObj.cells (AV.int .i64 (Int.ofNat 9) :: AV.int .i64 n_1 :: AV.int .i64 (Int.ofNat 0) :: AV.int .i64 (Int.ofNat 0) :: AV.int .i64 (Int.ofNat 0) :: zid [AV.fz (u8s s.value) (List.length s.value)]) 38 false), some (HObj.cells (AV.int .i64 (Int.ofNat 9) :: AV.int .i64 n_1 :: AV.int .i64 (Int.ofNat 0) :: AV.int .i64 (Int.ofNat 0) :: AV.int .i64 (Int.ofNat 0) :: zid [AV.fz (u8s s.value) (List.length s.value)]) 38 false), some (HObj.cells (AV.int .i64 (Int.ofNat 9) :: AV.int .i64 n_1 :: AV.int .i64 (Int.ofNat 0) :: AV.int .i64 (Int.ofNat 0) :: AV.int .i64 (Int.ofNat 0) :: zid [AV.fz (u8s s.value) (List.length s.value)]) 38 false)])) (Ans.err 84 0 0)) (Ans.err 82 0 0)) (Ans.err 82 1 0) := by kernel_rfl

/-- What stands behind 'decided'. -/
def decS (s : PS) : PS := { s with phase := 3 }

theorem decided_ok {s : PS} (h2 : s.nodes ≤ 64) (hv : s.value.length < 400000) :
    ∃ ms : List Int, MsOK s false ms ∧ FunOK Try.prog 36 [.ptr (.ofNat 0) 0] (mkH [some (propO s)]) (.tup [.fz (factC 9 s.set 0 0 s.value) 1, .fz (flat (noteC (decS s)) ms) ms.length]) (mkH [some (propO (decS s))]) := by
  obtain ⟨ms, hms, hN⟩ := notes_fz (s := decS s) false hv h2
  refine ⟨ms, hms, ?_⟩
  have hv4 : Nat.beq (u8s s.value).length s.value.length = true := AM.beq_true (u8s_len _)
  have hv5 : Nat.blt s.value.length 400000 = true := blt_true hv
  have R := FunOK.of_runH (v := .tup [.slice (.ofNat 4) 0 1 1 true, .fz (flat (noteC (decS s)) ms) ms.length]) (A' := mkH [some (propO (decS s)), some (.cells [.int .i64 (.ofNat 9)] 1 false), some (.cells (factC 9 s.set 0 0 s.value) 38 false), some (.cells (factC 9 s.set 0 0 s.value) 38 false), some (.cells (factC 9 s.set 0 0 s.value) 38 false)]) hmix (OrOK.cons good_clone (OrOK.cons (good_notes hN) .nil)) .nil (N := 1000) (f := 36) fun k => (decT s _ _ _ k).trans (by
    simp only [fInt_eq, fNat_eq, hv4, hv5, boolK_true]
    refine (guardK_pos (by exact ⟨trivial, by first | trivial | rfl⟩) _ _).trans ?_
    try exact rfl)
  exact R.iceDrop (propC_pf _) 3 (l := factC 9 s.set 0 0 s.value) (esz := 38) rfl rfl (by kernel_rfl) (fun _ => rfl)

noncomputable def fx29 : Fx := ⟨none, 29, 96⟩

noncomputable def r29 : Code := subC [1,1,1,1,0] (bodyC Try.f29)

noncomputable def tm29 : List (Nat × AV) := [(2, .ptr (.ofNat 1) 0), (3, .ptr (.ofNat 2) 0), (4, .nils), (5, .nils), (6, .ptr (.ofNat 4) 0)]

theorem yes29 (s : PS) (k : AExit → List AV → H → Ans) :
    execH Try.prog .leaf [] 1000 fx29 r29 (mkTm tm29) (mkH [some (propO s), some (.cells [.ptr (.ofNat 0) 0] 1 false), none, none, none]) [] (pickK [2, 3, 4, 5, 6] [] [] k)
    = fInt (Int.ofNat s.me) fun n => fInt n fun n => natOf n (fun m => boolK (Nat.blt m 65) (fNat (Nat.add 15 (Nat.mul m 1)) fun off => set1K (propC s) off (AV.bool true) (fun cs => k AExit.normal [AV.ptr (.ofNat 1) 0, AV.ptr (.ofNat 2) 0, AV.nils, AV.nils, AV.ptr (.ofNat 4) 0] (mkH [some (HObj.cells cs 84 false), some (HObj.cells [AV.ptr (.ofNat 0) 0] 1 false), none, none, none])) (Ans.err 2 0 0)) (Ans.err 29 7 3027)) (Ans.err 29 7 3027) := by kernel_rfl

theorem rouT (s sA sB sN : PS) (v : VS) (V : List AV) (n : Nat) (k : AV → H → Ans) :
    bodyF Try.prog (execH Try.prog (mkO [(17, orcClone), (31, orcMax), (43, orcNext), (34, orcMost), (40, orcObj [.ptr (.ofNat 0) 0, .bool false] 0 (propO sN) (propO sN) (.fz V n)), (44, orcErr)]) [⟨29, 1006, exLoc fx29 r29 tm29 5 [(0, propO sA), (1, .cells [.ptr (.ofNat 0) 0] 1 false)] .normal tm29 [(0, some (propO sB)), (1, some (.cells [.ptr (.ofNat 0) 0] 1 false))] []⟩] 1000) (Pos.ofNat 29) [] [] [.ptr (.ofNat 0) 0, .agg (voteC v)] (mkH [some (propO s)]) k
    = fInt (Int.ofNat s.me) fun n_1 => fInt n_1 fun n_2 => boolK (ieq (Int.ofNat s.me) n_1) (fInt (nxE (bmx (bmx (bmx (0, 0) (PS.s1 s, PS.s2 s)) (PS.b1 s, PS.b2 s)) (VS.p1 v, VS.p2 v)).1 (bmx (bmx (bmx (0, 0) (PS.s1 s, PS.s2 s)) (PS.b1 s, PS.b2 s)) (VS.p1 v, VS.p2 v)).2 n_2) fun n_3 => fInt n_3 fun n_4 => fInt n_4 fun n_5 => brec (boolK (boolK (ieq (nxN (bmx (bmx (bmx (0, 0) (PS.s1 s, PS.s2 s)) (PS.b1 s, PS.b2 s)) (VS.p1 v, VS.p2 v)).1 (bmx (bmx (bmx (0, 0) (PS.s1 s, PS.s2 s)) (PS.b1 s, PS.b2 s)) (VS.p1 v, VS.p2 v)).2 n_2) (nxN (bmx (bmx (bmx (0, 0) (PS.s1 s, PS.s2 s)) (PS.b1 s, PS.b2 s)) (VS.p1 v, VS.p2 v)).1 (bmx (bmx (bmx (0, 0) (PS.s1 s, PS.s2 s)) (PS.b1 s, PS.b2 s)) (VS.p1 v, VS.p2 v)).2 n_2)) (boolK (ieq (nxM (bmx (bmx (bmx (0, 0) (PS.s1 s, PS.s2 s)) (PS.b1 s, PS.b2 s)) (VS.p1 v, VS.p2 v)).1 (bmx (bmx (bmx (0, 0) (PS.s1 s, PS.s2 s)) (PS.b1 s, PS.b2 s)) (VS.p1 v, VS.p2 v)).2 n_2) (nxM (bmx (bmx (bmx (0, 0) (PS.s1 s, PS.s2 s)) (PS.b1 s, PS.b2 s)) (VS.p1 v, VS.p2 v)).1 (bmx (bmx (bmx (0, 0) (PS.s1 s, PS.s2 s)) (PS.b1 s, PS.b2 s)) (VS.p1 v, VS.p2 v)).2 n_2)) true false) false) (guardK (fx29 = fx29 ∧ r29 = r29 ∧ LTm tm29 (mkTm [(0, AV.ptr (.ofNat 0) 0), (1, AV.agg (voteC v)), (2, AV.ptr (.ofNat 1) 0), (3, AV.ptr (.ofNat 2) 0), (4, AV.nils), (5, AV.nils), (6, AV.ptr (.ofNat 4) 0), (7, AV.int .i64 n_4), (10, AV.tup [AV.agg [AV.int .i64 (nxN (bmx (bmx (bmx (0, 0) (PS.s1 s, PS.s2 s)) (PS.b1 s, PS.b2 s)) (VS.p1 v, VS.p2 v)).1 (bmx (bmx (bmx (0, 0) (PS.s1 s, PS.s2 s)) (PS.b1 s, PS.b2 s)) (VS.p1 v, VS.p2 v)).2 n_2), AV.int .i64 (nxM (bmx (bmx (bmx (0, 0) (PS.s1 s, PS.s2 s)) (PS.b1 s, PS.b2 s)) (VS.p1 v, VS.p2 v)).1 (bmx (bmx (bmx (0, 0) (PS.s1 s, PS.s2 s)) (PS.b1 s, PS.b2 s)) (VS.p1 v, VS.p2 v)).2 n_2)], AV.int .i64 (nxE (bmx (bmx (bmx (0, 0) (PS.s1 s, PS.s2 s)) (PS.b1 s, PS.b2 s)) (VS.p1 v, VS.p2 v)).1 (bmx (bmx (bmx (0, 0) (PS.s1 s, PS.s2 s)) (PS.b1 s, PS.b2 s)) (VS.p1 v, VS.p2 v)).2 n_2)]), (11, AV.ptr (.ofNat 0) 0), (12, AV.ptr (.ofNat 0) 0), (13, AV.ptr (.ofNat 0) 11), (14, AV.agg [AV.int .i64 s.s1, AV.int .i64 s.s2]), (15, AV.ptr (.ofNat 0) 0), (16, AV.ptr (.ofNat 0) 0), (17, AV.ptr (.ofNat 0) 9), (18, AV.agg [AV.int .i64 s.b1, AV.int .i64 s.b2]), (19, AV.ptr (.ofNat 2) 1), (20, AV.agg [AV.int .i64 v.p1, AV.int .i64 v.p2]), (21, AV.slice (Pos.ofNat 3) 0 3 3 false), (22, AV.agg [AV.int .i64 (bmx (bmx (bmx (0, 0) (PS.s1 s, PS.s2 s)) (PS.b1 s, PS.b2 s)) (VS.p1 v, VS.p2 v)).1, AV.int .i64 (bmx (bmx (bmx (0, 0) (PS.s1 s, PS.s2 s)) (PS.b1 s, PS.b2 s)) (VS.p1 v, VS.p2 v)).2]), (23, AV.ptr (.ofNat 0) 0), (24, AV.ptr (.ofNat 0) 0), (25, AV.ptr (.ofNat 0) 1), (26, AV.int .i64 n_2), (27, AV.tup [AV.agg [AV.int .i64 (nxN (bmx (bmx (bmx (0, 0) (PS.s1 s, PS.s2 s)) (PS.b1 s, PS.b2 s)) (VS.p1 v, VS.p2 v)).1 (bmx (bmx (bmx (0, 0) (PS.s1 s, PS.s2 s)) (PS.b1 s, PS.b2 s)) (VS.p1 v, VS.p2 v)).2 n_2), AV.int .i64 (nxM (bmx (bmx (bmx (0, 0) (PS.s1 s, PS.s2 s)) (PS.b1 s, PS.b2 s)) (VS.p1 v, VS.p2 v)).1 (bmx (bmx (bmx (0, 0) (PS.s1 s, PS.s2 s)) (PS.b1 s, PS.b2 s)) (VS.p1 v, VS.p2 v)).2 n_2)], AV.int .i64 (nxE (bmx (bmx (bmx (0, 0) (PS.s1 s, PS.s2 s)) (PS.b1 s, PS.b2 s)) (VS.p1 v, VS.p2 v)).1 (bmx (bmx (bmx (0, 0) (PS.s1 s, PS.s2 s)) (PS.b1 s, PS.b2 s)) (VS.p1 v, VS.p2 v)).2 n_2)]), (28, AV.agg [AV.int .i64 (nxN (bmx (bmx (bmx (0, 0) (PS.s1 s, PS.s2 s)) (PS.b1 s, PS.b2 s)) (VS.p1 v, VS.p2 v)).1 (bmx (bmx (bmx (0, 0) (PS.s1 s, PS.s2 s)) (PS.b1 s, PS.b2 s)) (VS.p1 v, VS.p2 v)).2 n_2), AV.int .i64 (nxM (bmx (bmx (bmx (0, 0) (PS.s1 s, PS.s2 s)) (PS.b1 s, PS.b2 s)) (VS.p1 v, VS.p2 v)).1 (bmx (bmx (bmx (0, 0) (PS.s1 s, PS.s2 s)) (PS.b1 s, PS.b2 s)) (VS.p1 v, VS.p2 v)).2 n_2)]), (29, AV.int .i64 n_3), (30, AV.int .i64 n_5), (31, AV.bool false), (38, AV.ptr (.ofNat 0) 0), (39, AV.ptr (.ofNat 0) 0), (40, AV.ptr (.ofNat 0) 0), (41, AV.ptr (.ofNat 0) 0), (42, AV.agg [AV.int .i64 (nxN (bmx (bmx (bmx (0, 0) (PS.s1 s, PS.s2 s)) (PS.b1 s, PS.b2 s)) (VS.p1 v, VS.p2 v)).1 (bmx (bmx (bmx (0, 0) (PS.s1 s, PS.s2 s)) (PS.b1 s, PS.b2 s)) (VS.p1 v, VS.p2 v)).2 n_2), AV.int .i64 (nxM (bmx (bmx (bmx (0, 0) (PS.s1 s, PS.s2 s)) (PS.b1 s, PS.b2 s)) (VS.p1 v, VS.p2 v)).1 (bmx (bmx (bmx (0, 0) (PS.s1 s, PS.s2 s)) (PS.b1 s, PS.b2 s)) (VS.p1 v, VS.p2 v)).2 n_2)]), (43, AV.agg (yl (fun _ => false) 65 0 [])), (44, AV.ptr (.ofNat 0) 0), (45, AV.ptr (.ofNat 0) 8), (46, AV.ptr (.ofNat 0) 0), (47, AV.ptr (.ofNat 0) 9), (48, AV.ptr (.ofNat 0) 0), (49, AV.ptr (.ofNat 0) 82), (50, AV.ptr (.ofNat 0) 0), (51, AV.ptr (.ofNat 0) 15)]) ∧ Pos.ofNat 5 = Pos.ofNat 5 ∧ (some (HObj.cells (AV.int .i64 s.set :: AV.int .i64 (Int.ofNat s.me) :: AV.int .i64 (Int.ofNat s.nodes) :: AV.int .i64 s.c1 :: AV.int .i64 s.c2 :: AV.int .i64 s.c3 :: AV.fz (u8s s.own) (List.length s.own) :: AV.int .i64 s.retry :: AV.int .i64 (Int.ofNat 1) :: AV.int .i64 (nxN (bmx (bmx (bmx (0, 0) (PS.s1 s, PS.s2 s)) (PS.b1 s, PS.b2 s)) (VS.p1 v, VS.p2 v)).1 (bmx (bmx (bmx (0, 0) (PS.s1 s, PS.s2 s)) (PS.b1 s, PS.b2 s)) (VS.p1 v, VS.p2 v)).2 n_2) :: AV.int .i64 (nxM (bmx (bmx (bmx (0, 0) (PS.s1 s, PS.s2 s)) (PS.b1 s, PS.b2 s)) (VS.p1 v, VS.p2 v)).1 (bmx (bmx (bmx (0, 0) (PS.s1 s, PS.s2 s)) (PS.b1 s, PS.b2 s)) (VS.p1 v, VS.p2 v)).2 n_2) :: AV.int .i64 s.s1 :: AV.int .i64 s.s2 :: AV.int .i64 s.e1 :: AV.int .i64 s.e2 :: yl (fun _ => false) 65 0 [AV.fz (u8s s.told) (List.length s.told), AV.fz (u8s s.value) (List.length s.value), AV.int .i64 (Int.ofNat 0), AV.int .i64 s.wait]) 84 false) = some (HObj.cells (propC sA) 84 false) ∧ some (HObj.cells [AV.ptr (.ofNat 0) 0] 1 false) = some (HObj.cells [AV.ptr (.ofNat 0) 0] 1 false) ∧ True) ∧ MkNil []) (boolK (Nat.beq (List.length (u8s v.data)) (List.length v.data)) (boolK (Nat.blt (List.length v.data) 400000) (boolK (boolK (ieq v.a1 v.a1) (boolK (ieq v.a2 v.a2) true false) false) (fInt sB.set fun n_6 => guardK ([AV.ptr (.ofNat 0) 0, AV.bool false] = [AV.ptr (.ofNat 0) 0, AV.bool false] ∧ some (HObj.cells (AV.int .i64 sB.set :: AV.int .i64 (Int.ofNat sB.me) :: AV.int .i64 (Int.ofNat sB.nodes) :: AV.int .i64 sB.c1 :: AV.int .i64 sB.c2 :: AV.int .i64 sB.c3 :: AV.fz (u8s sB.own) (List.length sB.own) :: AV.int .i64 sB.retry :: AV.int .i64 sB.phase :: AV.int .i64 sB.b1 :: AV.int .i64 sB.b2 :: AV.int .i64 sB.s1 :: AV.int .i64 sB.s2 :: AV.int .i64 v.a1 :: AV.int .i64 v.a2 :: yl sB.ys 65 0 [AV.fz (u8s v.data) (List.length v.data), AV.fz (u8s sB.value) (List.length sB.value), AV.int .i64 sB.ticks, AV.int .i64 sB.wait]) 84 false) = some (propO sN)) (fInt (Int.ofNat sN.nodes) fun n_7 => fInt n_7 fun n_8 => brec (k (AV.tup [AV.slice (Pos.ofNat 8) 0 1 1 true, AV.fz V n]) (mkH [some (propO sN), some (HObj.cells [AV.ptr (.ofNat 0) 0] 1 false), some (HObj.cells (voteC v) 6 false), some (HObj.cells [AV.int .i64 s.s1, AV.int .i64 s.s2, AV.int .i64 s.b1, AV.int .i64 s.b2, AV.int .i64 v.p1, AV.int .i64 v.p2] 2 false), some (HObj.cells [AV.int .i64 (nxN (bmx (bmx (bmx (0, 0) (PS.s1 s, PS.s2 s)) (PS.b1 s, PS.b2 s)) (VS.p1 v, VS.p2 v)).1 (bmx (bmx (bmx (0, 0) (PS.s1 s, PS.s2 s)) (PS.b1 s, PS.b2 s)) (VS.p1 v, VS.p2 v)).2 n_2), AV.int .i64 (nxM (bmx (bmx (bmx (0, 0) (PS.s1 s, PS.s2 s)) (PS.b1 s, PS.b2 s)) (VS.p1 v, VS.p2 v)).1 (bmx (bmx (bmx (0, 0) (PS.s1 s, PS.s2 s)) (PS.b1 s, PS.b2 s)) (VS.p1 v, VS.p2 v)).2 n_2)] 2 false), some (HObj.cells [AV.int .i64 (Int.ofNat 7)] 1 false), some (HObj.cells (AV.int .i64 (Int.ofNat 7) :: AV.int .i64 n_6 :: AV.int .i64 (Int.ofNat 0) :: AV.int .i64 sB.b1 :: AV.int .i64 sB.b2 :: zid [AV.nils]) 38 false), some (HObj.cells (AV.int .i64 (Int.ofNat 7) :: AV.int .i64 n_6 :: AV.int .i64 (Int.ofNat 0) :: AV.int .i64 sB.b1 :: AV.int .i64 sB.b2 :: zid [AV.nils]) 38 false), some (HObj.cells (AV.int .i64 (Int.ofNat 7) :: AV.int .i64 n_6 :: AV.int .i64 (Int.ofNat 0) :: AV.int .i64 sB.b1 :: AV.int .i64 sB.b2 :: zid [AV.nils]) 38 false)])) (Ans.err 77 0 0) (mostB (yl sN.ys 65 0 []) n_8)) (Ans.err 84 0 0)) (Ans.err 29 9 3000)) (Ans.err 82 0 0)) (Ans.err 82 1 0)) (Ans.err 0 0 0)) (Ans.err 29 11 3000)) (k (AV.tup [AV.nils, AV.nils]) (mkH [some (HObj.cells (AV.int .i64 s.set :: AV.int .i64 (Int.ofNat s.me) :: AV.int .i64 (Int.ofNat s.nodes) :: AV.int .i64 s.c1 :: AV.int .i64 s.c2 :: AV.int .i64 s.c3 :: AV.fz (u8s s.own) (List.length s.own) :: AV.int .i64 s.retry :: AV.int .i64 (Int.ofNat 4) :: AV.int .i64 s.b1 :: AV.int .i64 s.b2 :: AV.int .i64 s.s1 :: AV.int .i64 s.s2 :: AV.int .i64 s.e1 :: AV.int .i64 s.e2 :: yl s.ys 65 0 [AV.fz (u8s s.told) (List.length s.told), AV.fz (u8s s.value) (List.length s.value), AV.int .i64 s.ticks, AV.int .i64 (Int.ofNat 0)]) 84 false), some (HObj.cells [AV.ptr (.ofNat 0) 0] 1 false), some (HObj.cells (voteC v) 6 false), some (HObj.cells [AV.int .i64 s.s1, AV.int .i64 s.s2, AV.int .i64 s.b1, AV.int .i64 s.b2, AV.int .i64 v.p1, AV.int .i64 v.p2] 2 false), some (HObj.cells [AV.int .i64 (nxN (bmx (bmx (bmx (0, 0) (PS.s1 s, PS.s2 s)) (PS.b1 s, PS.b2 s)) (VS.p1 v, VS.p2 v)).1 (bmx (bmx (bmx (0, 0) (PS.s1 s, PS.s2 s)) (PS.b1 s, PS.b2 s)) (VS.p1 v, VS.p2 v)).2 n_2), AV.int .i64 (nxM (bmx (bmx (bmx (0, 0) (PS.s1 s, PS.s2 s)) (PS.b1 s, PS.b2 s)) (VS.p1 v, VS.p2 v)).1 (bmx (bmx (bmx (0, 0) (PS.s1 s, PS.s2 s)) (PS.b1 s, PS.b2 s)) (VS.p1 v, VS.p2 v)).2 n_2)] 2 false)])) !ieq n_5 (Int.ofNat 0)) (Ans.err 29 16 3000) := by kernel_rfl

theorem yes29_ok (s : PS) (hm : s.me < 65) : CodeOK Try.prog fx29 r29 (mkTm tm29) (mkH [some (propO s), some (.cells [.ptr (.ofNat 0) 0] 1 false), none, none, none]) [] .normal (mkTm ([2, 3, 4, 5, 6].zip [.ptr (.ofNat 1) 0, .ptr (.ofNat 2) 0, .nils, .nils, .ptr (.ofNat 4) 0])) (mkH [some (propO { s with ys := upd s.ys s.me true }), some (.cells [.ptr (.ofNat 0) 0] 1 false), none, none, none]) [] :=
  CodeOK.of_pick hmix .leaf .nil (N := 1000) [2, 3, 4, 5, 6] [] [] fun k => (yes29 s k).trans (by
    simp only [fInt_eq, fNat_eq, natOf_of, blt_true hm, boolK_true, prop_set s true hm]
    try exact rfl)

noncomputable def mxB (s : PS) (v : VS) : Int × Int := bmx (bmx (bmx (0, 0) (s.s1, s.s2)) (s.b1, s.b2)) (v.p1, v.p2)

/-- What stands behind 'round', if there is a ballot. -/
noncomputable def rouS (s : PS) (v : VS) : PS := { s with phase := 1, b1 := nxN (mxB s v).1 (mxB s v).2 s.me, b2 := nxM (mxB s v).1 (mxB s v).2 s.me, ticks := 0, ys := upd (fun _ => false) s.me true, e1 := v.a1, e2 := v.a2, told := v.data }

def factP (set b1 b2 : Int) : List AV := .int .i64 (.ofNat 7) :: .int .i64 set :: .int .i64 (.ofNat 0) :: .int .i64 b1 :: .int .i64 b2 :: zid [.nils]

theorem round_ok {s : PS} {v : VS} (h1 : 2 ≤ s.nodes) (h2 : s.nodes ≤ 64) (hm : s.me < 65) (hv : s.value.length < 400000) (hd : v.data.length < 400000) (hE : nxE (mxB s v).1 (mxB s v).2 s.me = 0) :
    ∃ ms : List Int, MsOK s false ms ∧ FunOK Try.prog 29 [.ptr (.ofNat 0) 0, .agg (voteC v)] (mkH [some (propO s)]) (.tup [.fz (factP s.set (rouS s v).b1 (rouS s v).b2) 1, .fz (flat (noteC (rouS s v)) ms) ms.length]) (mkH [some (propO (rouS s v))]) := by
  obtain ⟨ms, hms, hN⟩ := notes_fz (s := rouS s v) false hv h2
  refine ⟨ms, hms, ?_⟩
  have hmm : mostB (yl (rouS s v).ys 65 0 []) (.ofNat (rouS s v).nodes) = false := most_upd h1
  have hB : ∀ sA : PS, sA.me < 65 → LocCode Try.prog fx29 r29 tm29 5 [(0, propO sA), (1, .cells [.ptr (.ofNat 0) 0] 1 false)] .normal tm29 [(0, some (propO { sA with ys := upd sA.ys sA.me true })), (1, some (.cells [.ptr (.ofNat 0) 0] 1 false))] [] := fun sA hA =>
    LocCode.of (s := [0, 1, 2, 3, 4]) (yes29_ok sA hA) rfl rfl (by show [0, 1].Nodup; decide) (by show ∀ i ∈ [0, 1, 2, 3, 4], i < 5; decide) (Nat.le_refl _) trivial (by repeat first | exact .nil | refine .cons (by kernel_rfl) ?_) (by repeat first | exact .nil | refine .cons (by kernel_rfl) ?_) (by simp only [preL, prop_ren]; rfl) (by simp only [postL, Option.map_some, prop_ren]; rfl) rfl
  have hv4 : Nat.beq (u8s v.data).length v.data.length = true := AM.beq_true (u8s_len _)
  have hv5 : Nat.blt v.data.length 400000 = true := blt_true hd
  have hE' : ieq (nxE (mxB s v).1 (mxB s v).2 (Int.ofNat s.me)) (Int.ofNat 0) = true := ieq_true hE
  have R := FunOK.of_runH (v := .tup [.slice (.ofNat 8) 0 1 1 true, .fz (flat (noteC (rouS s v)) ms) ms.length]) (A' := mkH (some (propO (rouS s v)) :: _)) hmix (OrOK.cons good_clone (OrOK.cons good_max (OrOK.cons good_next (OrOK.cons good_most (OrOK.cons (good_notes hN) (OrOK.cons good_err .nil)))))) (HolesOK.one (hB { rouS s v with ys := fun _ => false, e1 := s.e1, e2 := s.e2, told := s.told } hm).ex) (N := 1000) (f := 29) fun k => (rouT s _ _ _ v _ _ k).trans (by
    simp only [fInt_eq, fNat_eq, ieq_self, boolK_true, hv4, hv5, show (bmx (bmx (bmx (0, 0) (s.s1, s.s2)) (s.b1, s.b2)) (v.p1, v.p2)) = mxB s v from rfl, hE', brec_true, brec_false, Bool.not_true]
    refine (guardK_pos (by repeat' first | trivial | rfl | exact LTm.nil | refine LTm.cons (by kernel_rfl) ?_ | refine Sub0.of_list ?_ | constructor) _ _).trans ?_
    try simp only [fInt_eq, fNat_eq, ieq_self, hv4, hv5, boolK_true]
    refine (guardK_pos (by exact ⟨trivial, by first | trivial | rfl⟩) _ _).trans ?_
    simp only [fInt_eq, hmm, brec_false]
    try exact rfl)
  exact R.iceDrop (propC_pf _) 7 (l := factP s.set (rouS s v).b1 (rouS s v).b2) (esz := 38) rfl rfl (by kernel_rfl) (fun _ => rfl)

theorem rouN (s : PS) (v : VS) (k : AV → H → Ans) :
    bodyF Try.prog (execH Try.prog (mkO [(17, orcErr), (31, orcMax), (43, orcNext), (34, orcErr), (40, orcErr), (44, orcErr)]) [⟨29, 1006, exErr⟩] 1000) (Pos.ofNat 29) [] [] [.ptr (.ofNat 0) 0, .agg (voteC v)] (mkH [some (propO s)]) k
    = fInt (Int.ofNat s.me) fun n => fInt n fun n_1 => boolK (ieq (Int.ofNat s.me) n) (fInt (nxE (bmx (bmx (bmx (0, 0) (PS.s1 s, PS.s2 s)) (PS.b1 s, PS.b2 s)) (VS.p1 v, VS.p2 v)).1 (bmx (bmx (bmx (0, 0) (PS.s1 s, PS.s2 s)) (PS.b1 s, PS.b2 s)) (VS.p1 v, VS.p2 v)).2 n_1) fun n => fInt n fun n => fInt n fun n => brec (boolK (boolK (ieq (nxN (bmx (bmx (bmx (0, 0) (PS.s1 s, PS.s2 s)) (PS.b1 s, PS.b2 s)) (VS.p1 v, VS.p2 v)).1 (bmx (bmx (bmx (0, 0) (PS.s1 s, PS.s2 s)) (PS.b1 s, PS.b2 s)) (VS.p1 v, VS.p2 v)).2 n_1) (nxN (bmx (bmx (bmx (0, 0) (PS.s1 s, PS.s2 s)) (PS.b1 s, PS.b2 s)) (VS.p1 v, VS.p2 v)).1 (bmx (bmx (bmx (0, 0) (PS.s1 s, PS.s2 s)) (PS.b1 s, PS.b2 s)) (VS.p1 v, VS.p2 v)).2 n_1)) (boolK (ieq (nxM (bmx (bmx (bmx (0, 0) (PS.s1 s, PS.s2 s)) (PS.b1 s, PS.b2 s)) (VS.p1 v, VS.p2 v)).1 (bmx (bmx (bmx (0, 0) (PS.s1 s, PS.s2 s)) (PS.b1 s, PS.b2 s)) (VS.p1 v, VS.p2 v)).2 n_1) (nxM (bmx (bmx (bmx (0, 0) (PS.s1 s, PS.s2 s)) (PS.b1 s, PS.b2 s)) (VS.p1 v, VS.p2 v)).1 (bmx (bmx (bmx (0, 0) (PS.s1 s, PS.s2 s)) (PS.b1 s, PS.b2 s)) (VS.p1 v, VS.p2 v)).2 n_1)) true false) false) (Ans.err 79 0 0) (Ans.err 29 11 3000)) (k (AV.tup [AV.nils, AV.nils]) (mkH [some (HObj.cells (AV.int .i64 s.set :: AV.int .i64 (Int.ofNat s.me) :: AV.int .i64 (Int.ofNat s.nodes) :: AV.int .i64 s.c1 :: AV.int .i64 s.c2 :: AV.int .i64 s.c3 :: AV.fz (u8s s.own) (List.length s.own) :: AV.int .i64 s.retry :: AV.int .i64 (Int.ofNat 4) :: AV.int .i64 s.b1 :: AV.int .i64 s.b2 :: AV.int .i64 s.s1 :: AV.int .i64 s.s2 :: AV.int .i64 s.e1 :: AV.int .i64 s.e2 :: yl s.ys 65 0 [AV.fz (u8s s.told) (List.length s.told), AV.fz (u8s s.value) (List.length s.value), AV.int .i64 s.ticks, AV.int .i64 (Int.ofNat 0)]) 84 false), some (HObj.cells [AV.ptr (.ofNat 0) 0] 1 false), some (HObj.cells (voteC v) 6 false), some (HObj.cells [AV.int .i64 s.s1, AV.int .i64 s.s2, AV.int .i64 s.b1, AV.int .i64 s.b2, AV.int .i64 v.p1, AV.int .i64 v.p2] 2 false), some (HObj.cells [AV.int .i64 (nxN (bmx (bmx (bmx (0, 0) (PS.s1 s, PS.s2 s)) (PS.b1 s, PS.b2 s)) (VS.p1 v, VS.p2 v)).1 (bmx (bmx (bmx (0, 0) (PS.s1 s, PS.s2 s)) (PS.b1 s, PS.b2 s)) (VS.p1 v, VS.p2 v)).2 n_1), AV.int .i64 (nxM (bmx (bmx (bmx (0, 0) (PS.s1 s, PS.s2 s)) (PS.b1 s, PS.b2 s)) (VS.p1 v, VS.p2 v)).1 (bmx (bmx (bmx (0, 0) (PS.s1 s, PS.s2 s)) (PS.b1 s, PS.b2 s)) (VS.p1 v, VS.p2 v)).2 n_1)] 2 false)])) !ieq n (Int.ofNat 0)) (Ans.err 29 16 3000) := by kernel_rfl

/-- .. and if there is none. -/
theorem round_none {s : PS} {v : VS} (hE : nxE (mxB s v).1 (mxB s v).2 s.me ≠ 0) :
    FunOK Try.prog 29 [.ptr (.ofNat 0) 0, .agg (voteC v)] (mkH [some (propO s)]) (.tup [.fz [] 0, .fz [] 0]) (mkH [some (propO { s with phase := 4, wait := 0 })]) := by
  have hE' : ieq (nxE (mxB s v).1 (mxB s v).2 (Int.ofNat s.me)) (Int.ofNat 0) = false := ieq_false hE
  have R := FunOK.of_runH (v := .tup [.nils, .nils]) (A' := mkH (some (propO { s with phase := 4, wait := 0 }) :: _)) hmix (OrOK.cons good_err (OrOK.cons good_max (OrOK.cons good_next (OrOK.cons good_err (OrOK.cons good_err (OrOK.cons good_err .nil)))))) (HolesOK.one exErr_ok) (N := 1000) (f := 29) fun k => (rouN s v k).trans (by
    simp only [fInt_eq, fNat_eq, ieq_self, boolK_true, show (bmx (bmx (bmx (0, 0) (s.s1, s.s2)) (s.b1, s.b2)) (v.p1, v.p2)) = mxB s v from rfl, hE', brec_true, brec_false, Bool.not_false]
    try exact rfl)
  exact (R.drop1 (fun σ => prop_ren σ _) (fun _ => rfl)).wk (Wk.tup (.cons .nils (.cons .nils .nil))) (.refl _)

def idl (f : Nat → Int) : Nat → Nat → List AV → List AV
  | 0, _, r => r
  | n + 1, k, r => .int .u8 (f k) :: idl f n (k + 1) r

/-- A note that comes. -/
structure NS where
  kind : Int
  frm : Int
  to : Int
  c1 : Int
  c2 : Int
  c3 : Int
  set : Int
  home : Int
  b1 : Int
  b2 : Int
  o1 : Int
  o2 : Int
  yes : Bool
  id : Nat → Int
  data : List Nat
  ids : List AV
  idn : Nat
  wl : List AV
  wn : Nat

def noteX (x : NS) : List AV := .int .i64 x.kind :: .int .i64 x.frm :: .int .i64 x.to :: .int .i64 x.c1 :: .int .i64 x.c2 :: .int .i64 x.c3 :: .int .i64 x.set :: .int .i64 x.home :: .int .i64 x.b1 :: .int .i64 x.b2 :: .int .i64 x.o1 :: .int .i64 x.o2 :: .bool x.yes :: idl x.id 32 0 [.fz (u8s x.data) x.data.length, .fz x.ids x.idn, .fz x.wl x.wn]

noncomputable def fx19 : Fx := ⟨none, 19, 205⟩

noncomputable def r19 : Code := subC [1,1,1,1,1,1,1,0] (bodyC Try.f19)

noncomputable def tm19 : List (Nat × AV) := [(0, .ptr (.ofNat 0) 0), (4, .ptr (.ofNat 1) 0), (5, .ptr (.ofNat 2) 0), (6, .nils), (7, .nils)]

def L19 (s : PS) (x : NS) (v : VS) : HL := [some (propO s), some (.cells (noteX x) 48 false), some (.cells (voteC v) 6 false)]

noncomputable def r19a : Code := subC [1,0,0] (bodyC Try.f19)

noncomputable def r19b : Code := subC [1,1,0] (bodyC Try.f19)

noncomputable def r19c : Code := subC [1,1,1,1,0,0] (bodyC Try.f19)

noncomputable def r19d : Code := subC [1,1,1,1,1,1,0,0] (bodyC Try.f19)

noncomputable def r19e : Code := subC [1,1,1,1,1,1,1,1,0,0] (bodyC Try.f19)

theorem ra19 (s : PS) (x : NS) (v : VS) (k : AExit → List AV → H → Ans) :
    execH Try.prog .leaf [] 1000 fx19 r19a (mkTm tm19) (mkH (L19 s x v)) [] (pickK [0, 4, 5, 6, 7, 51] [] [] k)
    = fInt (Int.ofNat s.nodes) fun n => brec (fInt x.to fun n => fInt n fun n => fInt (Int.ofNat s.me) fun n_1 => fInt n_1 fun n_2 => brec (fInt x.frm fun n => fInt n fun n => brec (fInt x.frm fun n => fInt n fun n => fInt (Int.ofNat s.nodes) fun n_3 => fInt n_3 fun n_4 => brec (fInt x.frm fun n => fInt n fun n => fInt (Int.ofNat s.me) fun n_5 => fInt n_5 fun n_6 => brec (fInt x.set fun n => fInt n fun n => fInt s.set fun n_7 => fInt n_7 fun n_8 => brec (k AExit.normal [AV.ptr (.ofNat 0) 0, AV.ptr (.ofNat 1) 0, AV.ptr (.ofNat 2) 0, AV.nils, AV.nils, AV.bool false] (mkH (L19 s x v))) (k AExit.normal [AV.ptr (.ofNat 0) 0, AV.ptr (.ofNat 1) 0, AV.ptr (.ofNat 2) 0, AV.nils, AV.nils, AV.bool true] (mkH (L19 s x v))) !ieq n n_8) (k AExit.normal [AV.ptr (.ofNat 0) 0, AV.ptr (.ofNat 1) 0, AV.ptr (.ofNat 2) 0, AV.nils, AV.nils, AV.bool true] (mkH (L19 s x v))) (ieq n n_6)) (k AExit.normal [AV.ptr (.ofNat 0) 0, AV.ptr (.ofNat 1) 0, AV.ptr (.ofNat 2) 0, AV.nils, AV.nils, AV.bool true] (mkH (L19 s x v))) (ilt n_4 n)) (k AExit.normal [AV.ptr (.ofNat 0) 0, AV.ptr (.ofNat 1) 0, AV.ptr (.ofNat 2) 0, AV.nils, AV.nils, AV.bool true] (mkH (L19 s x v))) (ilt n (Int.ofNat 1))) (k AExit.normal [AV.ptr (.ofNat 0) 0, AV.ptr (.ofNat 1) 0, AV.ptr (.ofNat 2) 0, AV.nils, AV.nils, AV.bool true] (mkH (L19 s x v))) !ieq n n_2) (k AExit.normal [AV.ptr (.ofNat 0) 0, AV.ptr (.ofNat 1) 0, AV.ptr (.ofNat 2) 0, AV.nils, AV.nils, AV.bool true] (mkH (L19 s x v))) (ieq n (Int.ofNat 0)) := by kernel_rfl

theorem rb19 (s : PS) (x : NS) (v : VS) (k : AExit → List AV → H → Ans) :
    execH Try.prog .leaf [] 1000 fx19 r19b (mkTm tm19) (mkH (L19 s x v)) [] (pickK [0, 4, 5, 6, 7, 8] [] [] k)
    = fInt x.kind fun n => fInt n fun n => brec (fInt x.kind fun n => fInt n fun n => brec (k AExit.normal [AV.ptr (.ofNat 0) 0, AV.ptr (.ofNat 1) 0, AV.ptr (.ofNat 2) 0, AV.nils, AV.nils, AV.bool false] (mkH (L19 s x v))) (brec (k AExit.normal [AV.ptr (.ofNat 0) 0, AV.ptr (.ofNat 1) 0, AV.ptr (.ofNat 2) 0, AV.nils, AV.nils, AV.bool false] (mkH (L19 s x v))) (optK (boolK (ieq x.c1 s.c1) (boolK (ieq x.c2 s.c2) (boolK (ieq x.c3 s.c3) (some true) (some false)) (some false)) (some false)) (fun q => brec (k AExit.normal [AV.ptr (.ofNat 0) 0, AV.ptr (.ofNat 1) 0, AV.ptr (.ofNat 2) 0, AV.nils, AV.nils, AV.bool false] (mkH (L19 s x v))) (k AExit.normal [AV.ptr (.ofNat 0) 0, AV.ptr (.ofNat 1) 0, AV.ptr (.ofNat 2) 0, AV.nils, AV.nils, AV.bool true] (mkH (L19 s x v))) q) (Ans.err 19 18 3015)) x.yes) (ieq n (Int.ofNat 15))) (k AExit.normal [AV.ptr (.ofNat 0) 0, AV.ptr (.ofNat 1) 0, AV.ptr (.ofNat 2) 0, AV.nils, AV.nils, AV.bool true] (mkH (L19 s x v))) (ieq n (Int.ofNat 13)) := by kernel_rfl

theorem rc19 (s : PS) (x : NS) (v : VS) (k : AExit → List AV → H → Ans) :
    execH Try.prog .leaf [] 1000 fx19 r19c (mkTm tm19) (mkH (L19 s x v)) [] (pickK [0, 4, 5, 6, 7, 118] [] [] k)
    = optK (boolK (ieq x.c1 s.c1) (boolK (ieq x.c2 s.c2) (boolK (ieq x.c3 s.c3) (some true) (some false)) (some false)) (some false)) (fun q => brec (optK (boolK (ieq x.b1 s.b1) (boolK (ieq x.b2 s.b2) (some true) (some false)) (some false)) (fun q => brec (fInt x.kind fun n => fInt n fun n => brec (k AExit.normal [AV.ptr (.ofNat 0) 0, AV.ptr (.ofNat 1) 0, AV.ptr (.ofNat 2) 0, AV.nils, AV.nils, AV.bool false] (mkH (L19 s x v))) (fInt x.kind fun n => fInt n fun n => brec (k AExit.normal [AV.ptr (.ofNat 0) 0, AV.ptr (.ofNat 1) 0, AV.ptr (.ofNat 2) 0, AV.nils, AV.nils, AV.bool false] (mkH (L19 s x v))) (k AExit.normal [AV.ptr (.ofNat 0) 0, AV.ptr (.ofNat 1) 0, AV.ptr (.ofNat 2) 0, AV.nils, AV.nils, AV.bool true] (mkH (L19 s x v))) !ieq n (Int.ofNat 12)) !ieq n (Int.ofNat 10)) (k AExit.normal [AV.ptr (.ofNat 0) 0, AV.ptr (.ofNat 1) 0, AV.ptr (.ofNat 2) 0, AV.nils, AV.nils, AV.bool true] (mkH (L19 s x v))) !q) (Ans.err 19 14 3015)) (k AExit.normal [AV.ptr (.ofNat 0) 0, AV.ptr (.ofNat 1) 0, AV.ptr (.ofNat 2) 0, AV.nils, AV.nils, AV.bool true] (mkH (L19 s x v))) !q) (Ans.err 19 6 3015) := by kernel_rfl

theorem rd19 (s : PS) (x : NS) (v : VS) (k : AExit → List AV → H → Ans) :
    execH Try.prog .leaf [] 1000 fx19 r19d (mkTm tm19) (mkH (L19 s x v)) [] (pickK [0, 4, 5, 6, 7, 149] [] [] k)
    = fInt s.phase fun n => fInt n fun n => fInt x.kind fun n_1 => fInt n_1 fun n_2 => fInt n fun n_3 => brec (fInt n fun n => brec (k AExit.normal [AV.ptr (.ofNat 0) 0, AV.ptr (.ofNat 1) 0, AV.ptr (.ofNat 2) 0, AV.nils, AV.nils, AV.bool true] (mkH (L19 s x v))) (fInt n_2 fun n => brec (k AExit.normal [AV.ptr (.ofNat 0) 0, AV.ptr (.ofNat 1) 0, AV.ptr (.ofNat 2) 0, AV.nils, AV.nils, AV.bool true] (mkH (L19 s x v))) (fInt x.frm fun n => fInt n fun n => natOf n (fun m => boolK (Nat.blt m 65) (fNat (Nat.add 15 (Nat.mul m 1)) fun off => nthK (propC s) off (fun v_1 => eBool v_1 (fun b => brec (k AExit.normal [AV.ptr (.ofNat 0) 0, AV.ptr (.ofNat 1) 0, AV.ptr (.ofNat 2) 0, AV.nils, AV.nils, AV.bool false] (mkH (L19 s x v))) (k AExit.normal [AV.ptr (.ofNat 0) 0, AV.ptr (.ofNat 1) 0, AV.ptr (.ofNat 2) 0, AV.nils, AV.nils, AV.bool true] (mkH (L19 s x v))) b) (Ans.err 19 15 3010)) (Ans.err 19 15 3010)) (Ans.err 19 14 3027)) (Ans.err 19 14 3027)) (ieq n (Int.ofNat 12))) (ieq n (Int.ofNat 2))) (fInt n_2 fun n_4 => brec (fInt n fun n => brec (k AExit.normal [AV.ptr (.ofNat 0) 0, AV.ptr (.ofNat 1) 0, AV.ptr (.ofNat 2) 0, AV.nils, AV.nils, AV.bool true] (mkH (L19 s x v))) (fInt n_2 fun n => brec (k AExit.normal [AV.ptr (.ofNat 0) 0, AV.ptr (.ofNat 1) 0, AV.ptr (.ofNat 2) 0, AV.nils, AV.nils, AV.bool true] (mkH (L19 s x v))) (fInt x.frm fun n => fInt n fun n => natOf n (fun m => boolK (Nat.blt m 65) (fNat (Nat.add 15 (Nat.mul m 1)) fun off => nthK (propC s) off (fun v_1 => eBool v_1 (fun b => brec (k AExit.normal [AV.ptr (.ofNat 0) 0, AV.ptr (.ofNat 1) 0, AV.ptr (.ofNat 2) 0, AV.nils, AV.nils, AV.bool false] (mkH (L19 s x v))) (k AExit.normal [AV.ptr (.ofNat 0) 0, AV.ptr (.ofNat 1) 0, AV.ptr (.ofNat 2) 0, AV.nils, AV.nils, AV.bool true] (mkH (L19 s x v))) b) (Ans.err 19 15 3010)) (Ans.err 19 15 3010)) (Ans.err 19 14 3027)) (Ans.err 19 14 3027)) (ieq n (Int.ofNat 12))) (ieq n (Int.ofNat 2))) (fInt x.frm fun n => fInt n fun n => natOf n (fun m => boolK (Nat.blt m 65) (fNat (Nat.add 15 (Nat.mul m 1)) fun off => nthK (propC s) off (fun v_1 => eBool v_1 (fun b => brec (k AExit.normal [AV.ptr (.ofNat 0) 0, AV.ptr (.ofNat 1) 0, AV.ptr (.ofNat 2) 0, AV.nils, AV.nils, AV.bool false] (mkH (L19 s x v))) (k AExit.normal [AV.ptr (.ofNat 0) 0, AV.ptr (.ofNat 1) 0, AV.ptr (.ofNat 2) 0, AV.nils, AV.nils, AV.bool true] (mkH (L19 s x v))) b) (Ans.err 19 15 3010)) (Ans.err 19 15 3010)) (Ans.err 19 14 3027)) (Ans.err 19 14 3027)) (ieq n_4 (Int.ofNat 10))) (ieq n_3 (Int.ofNat 1)) := by kernel_rfl

theorem re19 (s : PS) (x : NS) (v : VS) (k : AExit → List AV → H → Ans) :
    execH Try.prog (mkO [(33, orcLess)]) [] 1000 fx19 r19e (mkTm tm19) (mkH (L19 s x v)) [] (pickK [0, 4, 5, 6, 7, 167] [] [] k)
    = fInt x.kind fun n => fInt n fun n => brec (k AExit.normal [AV.ptr (.ofNat 0) 0, AV.ptr (.ofNat 1) 0, AV.ptr (.ofNat 2) 0, AV.nils, AV.nils, AV.bool false] (mkH (L19 s x v))) (brec (k AExit.normal [AV.ptr (.ofNat 0) 0, AV.ptr (.ofNat 1) 0, AV.ptr (.ofNat 2) 0, AV.nils, AV.nils, AV.bool false] (mkH (L19 s x v))) (k AExit.normal [AV.ptr (.ofNat 0) 0, AV.ptr (.ofNat 1) 0, AV.ptr (.ofNat 2) 0, AV.nils, AV.nils, AV.bool true] (mkH (L19 s x v))) (bless s.e1 s.e2 x.o1 x.o2)) (ieq n (Int.ofNat 10)) := by kernel_rfl

theorem yes19 (s : PS) (x : NS) (v : VS) (k : AExit → List AV → H → Ans) :
    execH Try.prog .leaf [] 1000 fx19 r19 (mkTm tm19) (mkH (L19 s x v)) [] (pickK [0, 4, 5, 6, 7] [] [] k)
    = fInt x.frm fun n => fInt n fun n => natOf n (fun m => boolK (Nat.blt m 65) (fNat (Nat.add 15 (Nat.mul m 1)) fun off => set1K (propC s) off (AV.bool true) (fun cs => k AExit.normal [AV.ptr (.ofNat 0) 0, AV.ptr (.ofNat 1) 0, AV.ptr (.ofNat 2) 0, AV.nils, AV.nils] (mkH [some (HObj.cells cs 84 false), some (HObj.cells (noteX x) 48 false), some (HObj.cells (voteC v) 6 false)])) (Ans.err 2 0 0)) (Ans.err 19 5 3027)) (Ans.err 19 5 3027) := by kernel_rfl

end Pro
