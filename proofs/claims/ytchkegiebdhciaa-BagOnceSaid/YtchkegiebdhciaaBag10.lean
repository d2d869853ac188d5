import Derived.Test.YtchkegiebdhciaaBag9
import Derived.KernelRfl
set_option maxHeartbeats 0
set_option maxRecDepth 1000000
set_option linter.unusedSimpArgs false
open Go Go.AM Go.Proofs
namespace Bag

theorem q11 (cs : List AV) (k : Kont) :
    execH Try.prog .leaf [] 1000 fx3 (subC [1,1,1,1,1,1,1,1,1,1,1] c3) (mkTm [(6, .bool true)]) (mkH [some (.cells cs 1 true), none, none, none, none]) [] k
    = k AExit.ret (mkTm [(6, AV.bool true)]) (mkH [some (HObj.cells cs 1 true), none, none, none, none]) [] := by kernel_rfl

theorem k11 {l : List (List Nat)} : CodeOK Try.prog fx3 (subC [1,1,1,1,1,1,1,1,1,1,1] c3) (mkTm [(6, .bool true)]) (mkH [some (.cells (strs l) 1 true), none, none, none, none]) [] .ret (mkTm [(6, .bool true)]) (mkH [some (.cells (strs l) 1 true), none, none, none, none]) [] :=
  CodeOK.of_runH hmix .leaf .nil (N := 1000) fun k => q11 (strs l) k

theorem k2x {n : Nat} {w : Int} {o : List Nat} {l : List (List Nat)} (h : n = 0 ∨ 200 < n ∨ 40 < o.length) : CodeOK Try.prog fx3 (subC [1,1,0] c3) (mkTm (tmA n w o [(7, .bool true)])) (mkH [some (.cells (strs l) 1 true)]) [] .ret (mkTm [(6, .bool true)]) (mkH [some (.cells (strs l) 1 true)]) [] := by
  by_cases h0 : n = 0
  · have e : ∀ k : Kont, _ = _ := fun k => (q2 n w o (strs l) k).trans (by
      simp only [fInt_eq, fNat_eq, fNats_eq, ieq_nat, beq_true h0, brec_true]
      exact rfl)
    exact (CodeOK.of_runH hmix .leaf .nil (N := 1000) e).less (Sub0.of_list (.cons (by kernel_rfl) .nil))
  · by_cases h1 : 200 < n
    · have e : ∀ k : Kont, _ = _ := fun k => (q2 n w o (strs l) k).trans (by
        simp only [fInt_eq, fNat_eq, fNats_eq, ieq_nat, beq_false h0, brec_false, ilt_nat, blt_true h1, brec_true]
        exact rfl)
      exact (CodeOK.of_runH hmix .leaf .nil (N := 1000) e).less (Sub0.of_list (.cons (by kernel_rfl) .nil))
    · have e : ∀ k : Kont, _ = _ := fun k => (q2 n w o (strs l) k).trans (by
        simp only [fInt_eq, fNat_eq, fNats_eq, ieq_nat, beq_false h0, brec_false, ilt_nat, blt_false (show n ≤ 200 by omega), blt_true (show 40 < o.length by omega), brec_true]
        exact rfl)
      exact (CodeOK.of_runH hmix .leaf .nil (N := 1000) e).less (Sub0.of_list (.cons (by kernel_rfl) .nil))

theorem c3_eq : c3 = .seq (subC [0] c3) (.seq (subC [1,0] c3) (.seq (subC [1,1,0] c3) (.seq (subC [1,1,1,0] c3) (.seq (subC [1,1,1,1,0] c3) (.seq (subC [1,1,1,1,1,0] c3) (.seq (subC [1,1,1,1,1,1,0] c3) (.seq (subC [1,1,1,1,1,1,1,0] c3) (.seq (subC [1,1,1,1,1,1,1,1,0] c3) (.seq (subC [1,1,1,1,1,1,1,1,1,0] c3) (.seq (subC [1,1,1,1,1,1,1,1,1,1,0] c3) (subC [1,1,1,1,1,1,1,1,1,1,1] c3))))))))))) := by kernel_rfl

theorem once_code {w : Int} {o : List Nat} {l : List (List Nat)} :
    ∃ G : HL, CodeOK Try.prog fx3 c3 (mkTm (tmA l.length w o [])) (mkH [some (.cells (strs l) 1 true)]) [] .ret (mkTm [(6, .bool true)]) (mkH (some (.cells (strs l) 1 true) :: G)) [] := by
  by_cases h : l.length = 0 ∨ 200 < l.length ∨ 40 < o.length
  · refine ⟨[], ?_⟩
    rw [c3_eq]
    exact .seq k0 (.seq k1 (.seq_exit (fun e => by cases e) (k2x h)))
  · have h0 : 0 < l.length := by omega
    have h1 : l.length ≤ 200 := by omega
    have h2 : o.length ≤ 40 := by omega
    obtain ⟨row, f, a1, a2, a3, a4, a5⟩ := filled_ok h0 (by omega)
    obtain ⟨v, hv, hP⟩ := pick_ok (x := w) h0 (by omega)
    obtain ⟨x, hx⟩ : ∃ x, l[v]? = some x := ⟨l[v], List.getElem?_eq_getElem _⟩
    obtain ⟨row', f', b1, b2, b3, b4, b5⟩ := take_ok (room := l.length) (x := x) a1 a2 hv (by omega) (by rw [a4]; exact hx)
    rw [a4] at b4
    have hel : (l.eraseIdx v).length = l.length - 1 := by rw [List.length_eraseIdx_of_lt hv]
    have hT := bag_in (l := l) b5 rfl rfl
    obtain ⟨s, hK8⟩ := k8 (v := v) (m := row'.length) (f := f') (kk := l.length - 1) (o := o) (x := x) (row := row') hv h1
    have hK9 := k9 (v := v) (f := f') (room := l.length) (o := o) (x := x) (l := l) (row := row') (want := l.eraseIdx v) (s := s) hx b1 (by omega) (by omega) (by rw [hel]; exact b4)
    have hK10 := k10 (v := v) (f := f') (o := o) (x := x) (l := l) (row := row') (want := l.eraseIdx v) (s := s) h1 (by omega) b1 (by omega) (by omega) (by rw [hel]; exact b4)
    rw [hel] at hK9 hK10
    refine ⟨[none, none, none, none], ?_⟩
    rw [c3_eq]
    refine .seq k0 (.seq k1 (.seq (k2 h0 h1 h2) (.seq (k3 a5) (.seq k4 (.seq (k5 hP) (.seq (k6 (full_in (Nat.le_refl _))) (.seq (k7 hT) (.seq hK8 (.seq hK9 (.seq hK10 k11))))))))))

theorem once_ok {w : Int} {o : List Nat} {l : List (List Nat)} :
    FunOK Try.prog 3 [.slice (.ofNat 0) 0 l.length l.length true, .int .i64 w, .str o] (mkH [some (.cells (strs l) 1 true)]) (.bool true) (mkH [some (.cells (strs l) 1 true)]) := by
  obtain ⟨G, h⟩ := once_code (w := w) (o := o) (l := l)
  have e := FunOK.of_code (P := Try.prog) (f := 3) (fn := Try.f3) (c := c3) (by kernel_rfl) (by kernel_rfl) (by kernel_rfl) (args := [.slice (.ofNat 0) 0 l.length l.length true, .int .i64 w, .str o]) rfl (h.sub0 (Sub0.of_list (.cons (by kernel_rfl) (.cons (by kernel_rfl) (.cons (by kernel_rfl) .nil))))) (l := [.bool true]) (by kernel_rfl)
  refine FunOK.sel (τ := seat [0] (G.length + 1)) e ?_ rfl
  refine Sel.of_listN (n := 1) (N := G.length + 1) (B := [some (.cells (strs l) 1 true)]) (t := [0]) rfl rfl ?_ (by show [0].Nodup; decide) ⟨rfl, trivial⟩
  exact .some rfl (row_ren _ _ _ _).symm .nil

theorem nilO (w : Int) (o : List Nat) (k : AV → H → Ans) :
    bodyF Try.prog (execH Try.prog (mkO [(4, orcAt [] (mkH []) (.bool true) (mkH []))]) [] 1000) (Pos.ofNat 3) [] [] [.nils, .int .i64 w, .str o] (mkH []) k
    = guardK (noArgs = noArgs ∧ mkH [] = mkH []) (k (AV.bool true) (mkH [])) (Ans.err 0 0 0) := by kernel_rfl

theorem once_nil {w : Int} {o : List Nat} : FunOK Try.prog 3 [.nils, .int .i64 w, .str o] (mkH []) (.bool true) (mkH []) :=
  FunOK.of_runH hmix (OrOK.cons awake_ok.good .nil) .nil (N := 1000) (f := 3) fun k => by
    refine (nilO w o k).trans ?_
    exact guardK_pos (by constructor <;> first | trivial | rfl) _ _

end Bag

