/-
  THE MACHINE 'AM': ranging over a string of ASCII bytes.
-/
import Derived.Test.YtcjilddpkekcgaaAmMapEff
import Derived.Laws.RangeString
namespace Go.AM
variable {P : Program}

theorem rangeS_sound {ρ : RM} {A : H} {w : World} (hr : Rel ρ A w) (s : ByteArray) {t : TypeId} (hu : P.underlying t = some .string) :
    ∃ ρ' w' v', Stp ρ A w ρ' (A.new (.siter (bytesOf s) 0)) w' ∧ Rel ρ' (A.new (.siter (bytesOf s) 0)) w' ∧ VR ρ' (.ptr A.next 0) v' ∧ (Instr.range t (.string s)).run P w = .ok v' w' := by
  obtain ⟨hr2, hs2⟩ := hr.new (.siter (bytesOf s) 0) (.stringIter s 0) 0 ⟨rfl, s, rfl, heap_alloc_new w _⟩
  exact ⟨_, _, .pointer (some ⟨w.heap.size, 0, none⟩), hs2, hr2, VR.ptr (off := 0) (RM.at_self _ _ _), by simp [Instr.range, run_underlying hu]⟩

theorem putIter_turned (w : World) (r : Nat) (o : Obj) : Turned w r { w with heap := w.heap.setIfInBounds r o } := putMap_turned w r o

theorem nextS_sound {ρ : RM} {A : H} {w : World} (hr : Rel ρ A w) {p : Pos} {l : List Nat} {pos : Nat} (hp : A.t.get p = some (.siter l pos)) {rb : RB} (hm : ρ.m p = some rb) {b : Nat} (hb : l[pos]? = some b) (h128 : b < 128) (ty : TypeId) :
    ∃ w' v', Stp ρ A w ρ (A.set p (some (.siter l (pos + 1)))) w' ∧ Rel ρ (A.set p (some (.siter l (pos + 1)))) w' ∧ VR ρ (.tup [.bool true, .int .i64 (.ofNat pos), .int .i32 (.ofNat b)]) v' ∧
      (Instr.next (.pointer (some ⟨rb.blk, rb.shift + 0, none⟩)) true ty).run P w = .ok v' w' := by
  obtain ⟨h0, s, rfl, h2⟩ := hr.obj _ _ _ hp hm
  have hlt := (hr.dom _ _ hm).2
  obtain ⟨hr2, hs2⟩ := hr.turn (o' := .siter (bytesOf s) (pos + 1)) hp hm rfl rfl (putIter_turned w rb.blk (.stringIter s (pos + 1))) ⟨h0, s, rfl, by simp [hlt]⟩
  have hps : pos < s.size := by
    have := (List.getElem?_eq_some_iff.1 hb).1
    rwa [bytesOf_length] at this
  have hbv : b = (s[pos]'hps).toNat := by
    simp only [bytesOf, List.getElem?_map, Array.getElem?_toList] at hb
    have : s.data[pos]? = some (s[pos]'hps) := by
      have : s.data[pos]? = some (s.data[pos]'hps) := Array.getElem?_eq_getElem hps
      rw [this]; rfl
    rw [this] at hb; simpa using hb.symm
  refine ⟨_, .tuple #[.bool true, .int .i64 pos, .int .i32 b], hs2, hr2, .tup (.cons (.bool _) (.cons (.int _ _) (.cons (.int _ _) .nil))), ?_⟩
  have hd := decode_ascii s pos hps (by omega)
  simp [Instr.next, h0, getObj, setObj, Sem.run, h2, hps, hd, hbv, goInt, bind, Sem.bind, pure]

theorem endS_sound {ρ : RM} {A : H} {w : World} (hr : Rel ρ A w) {p : Pos} {l : List Nat} {pos : Nat} (hp : A.t.get p = some (.siter l pos)) {rb : RB} (hm : ρ.m p = some rb) (hb : l[pos]? = none) (ty : TypeId) :
    (Instr.next (.pointer (some ⟨rb.blk, rb.shift + 0, none⟩)) true ty).run P w = .ok (.tuple #[.bool false]) w := by
  obtain ⟨h0, s, rfl, h2⟩ := hr.obj _ _ _ hp hm
  have hps : ¬ pos < s.size := by
    have := List.getElem?_eq_none_iff.1 hb
    rw [bytesOf_length] at this; omega
  simp [Instr.next, h0, getObj, Sem.run, h2, hps, bind, Sem.bind, pure]

end Go.AM
