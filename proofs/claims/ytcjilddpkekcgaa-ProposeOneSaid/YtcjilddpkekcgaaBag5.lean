import Derived.Test.YtcjilddpkekcgaaBag4
import Derived.KernelRfl
set_option maxHeartbeats 0
set_option maxRecDepth 1000000
set_option linter.unusedSimpArgs false
set_option linter.unusedVariables false
open Go Go.AM Go.Proofs
namespace Pro

theorem staT (s sN : PS) (v : VS) (V W : AV) (k : AV → H → Ans) :
    bodyF Try.prog (execH Try.prog (mkO [(29, orcObj [.ptr (.ofNat 0) 0, .agg (voteC v)] 0 (propO s) (propO sN) (.tup [V, W]))]) [] 1000) (Pos.ofNat 18) [] [] [.ptr (.ofNat 0) 0, .agg (voteC v)] (mkH [some (propO s)]) k
    = fInt (Int.ofNat s.nodes) fun n => brec (fInt s.phase fun n => brec (guardK ([AV.ptr (.ofNat 0) 0, AV.agg (voteC v)] = [AV.ptr (.ofNat 0) 0, AV.agg (voteC v)] ∧ some (propO s) = some (propO s)) (fAVF V fun v_1 => fAVF W fun v_2 => fAVF v_1 fun v_3 => fAVF v_2 fun v_4 => fAVF v_3 fun v_5 => fAVF v_4 fun v_6 => fAVF v_5 fun v_7 => fAVF v_6 fun v_8 => k (AV.tup [v_7, v_8, AV.int .i64 (Int.ofNat 0)]) (mkH [some (propO sN), some (HObj.cells (voteC v) 6 false)])) (Ans.err 84 0 0)) (k (AV.tup [AV.nils, AV.nils, AV.int .i64 (Int.ofNat 9)]) (mkH [some (propO s), some (HObj.cells (voteC v) 6 false)])) !ieq n (Int.ofNat 0)) (k (AV.tup [AV.nils, AV.nils, AV.int .i64 (Int.ofNat 1)]) (mkH [some (propO s), some (HObj.cells (voteC v) 6 false)])) (ieq n (Int.ofNat 0)) := by kernel_rfl

theorem staE (s : PS) (v : VS) (k : AV → H → Ans) :
    bodyF Try.prog (execH Try.prog (mkO [(29, orcErr)]) [] 1000) (Pos.ofNat 18) [] [] [.ptr (.ofNat 0) 0, .agg (voteC v)] (mkH [some (propO s)]) k
    = fInt (Int.ofNat s.nodes) fun n => brec (fInt s.phase fun n => brec (Ans.err 77 0 0) (k (AV.tup [AV.nils, AV.nils, AV.int .i64 (Int.ofNat 9)]) (mkH [some (propO s), some (HObj.cells (voteC v) 6 false)])) !ieq n (Int.ofNat 0)) (k (AV.tup [AV.nils, AV.nils, AV.int .i64 (Int.ofNat 1)]) (mkH [some (propO s), some (HObj.cells (voteC v) 6 false)])) (ieq n (Int.ofNat 0)) := by kernel_rfl

theorem tickA (s sA : PS) (v : VS) (r : Int) (N : AV) (lo o : HObj) (k : AV → H → Ans) :
    bodyF Try.prog (execH Try.prog (mkO [(33, orcLess), (40, orcObj [.ptr (.ofNat 0) 0, .bool true] 0 (propO sA) (propO sA) N), (41, orcObj [.ptr (.ofNat 1) 0, .int .i64 s.retry] 1 lo o (.int .i64 r)), (29, orcErr)]) [] 1000) (Pos.ofNat 22) [] [] [.ptr (.ofNat 0) 0, .ptr (.ofNat 1) 0, .agg (voteC v)] (mkH [some (propO s), some lo]) k
    = fInt (Int.ofNat s.nodes) fun n => brec (fInt s.phase fun n => brec (brec (brec (k (AV.tup [AV.nils, AV.nils]) (mkH [some (propO s), some lo, some (HObj.cells (voteC v) 6 false)])) (fInt s.wait fun n => brec (fInt s.wait fun n => fInt (wrapK .i64 (Int.sub n (Int.ofNat 1))) fun n => fInt n fun n_1 => brec (k (AV.tup [AV.nils, AV.nils]) (mkH [some (HObj.cells (AV.int .i64 s.set :: AV.int .i64 (Int.ofNat s.me) :: AV.int .i64 (Int.ofNat s.nodes) :: AV.int .i64 s.c1 :: AV.int .i64 s.c2 :: AV.int .i64 s.c3 :: AV.fz (u8s s.own) (List.length s.own) :: AV.int .i64 s.retry :: AV.int .i64 s.phase :: AV.int .i64 s.b1 :: AV.int .i64 s.b2 :: AV.int .i64 s.s1 :: AV.int .i64 s.s2 :: AV.int .i64 s.e1 :: AV.int .i64 s.e2 :: yl s.ys 65 0 [AV.fz (u8s s.told) (List.length s.told), AV.fz (u8s s.value) (List.length s.value), AV.int .i64 s.ticks, AV.int .i64 n]) 84 false), some lo, some (HObj.cells (voteC v) 6 false)])) (Ans.err 77 0 0) (ieq n_1 (Int.ofNat 0))) (k (AV.tup [AV.nils, AV.nils]) (mkH [some (propO s), some lo, some (HObj.cells (voteC v) 6 false)])) (ieq n (Int.ofNat 0))) (ieq n (Int.ofNat 4))) (fInt s.ticks fun n => fInt (wrapK .i64 (Int.add n (Int.ofNat 1))) fun n => fInt n fun n_1 => fInt n_1 fun n_2 => fInt s.retry fun n_3 => fInt n_3 fun n_4 => brec (brec (guardK ([AV.ptr (.ofNat 0) 0, AV.bool true] = [AV.ptr (.ofNat 0) 0, AV.bool true] ∧ some (HObj.cells (AV.int .i64 s.set :: AV.int .i64 (Int.ofNat s.me) :: AV.int .i64 (Int.ofNat s.nodes) :: AV.int .i64 s.c1 :: AV.int .i64 s.c2 :: AV.int .i64 s.c3 :: AV.fz (u8s s.own) (List.length s.own) :: AV.int .i64 s.retry :: AV.int .i64 s.phase :: AV.int .i64 s.b1 :: AV.int .i64 s.b2 :: AV.int .i64 s.s1 :: AV.int .i64 s.s2 :: AV.int .i64 s.e1 :: AV.int .i64 s.e2 :: yl s.ys 65 0 [AV.fz (u8s s.told) (List.length s.told), AV.fz (u8s s.value) (List.length s.value), AV.int .i64 (Int.ofNat 0), AV.int .i64 s.wait]) 84 false) = some (propO sA)) (fAVF N fun v_1 => fAVF v_1 fun v_2 => k (AV.tup [AV.nils, v_2]) (mkH [some (propO sA), some lo, some (HObj.cells (voteC v) 6 false)])) (Ans.err 84 0 0)) (fInt s.retry fun n => guardK ([AV.ptr (.ofNat 1) 0, AV.int .i64 n] = [AV.ptr (.ofNat 1) 0, AV.int .i64 s.retry] ∧ some lo = some lo) (fInt r fun n => fInt (wrapK .i64 (Int.add (Int.ofNat 1) n)) fun n => k (AV.tup [AV.nils, AV.nils]) (mkH [some (HObj.cells (AV.int .i64 s.set :: AV.int .i64 (Int.ofNat s.me) :: AV.int .i64 (Int.ofNat s.nodes) :: AV.int .i64 s.c1 :: AV.int .i64 s.c2 :: AV.int .i64 s.c3 :: AV.fz (u8s s.own) (List.length s.own) :: AV.int .i64 s.retry :: AV.int .i64 (Int.ofNat 4) :: AV.int .i64 s.b1 :: AV.int .i64 s.b2 :: AV.int .i64 s.s1 :: AV.int .i64 s.s2 :: AV.int .i64 s.e1 :: AV.int .i64 s.e2 :: yl s.ys 65 0 [AV.fz (u8s s.told) (List.length s.told), AV.fz (u8s s.value) (List.length s.value), AV.int .i64 (Int.ofNat 0), AV.int .i64 n]) 84 false), some o, some (HObj.cells (voteC v) 6 false)])) (Ans.err 84 0 0)) (bless s.b1 s.b2 s.s1 s.s2)) (k (AV.tup [AV.nils, AV.nils]) (mkH [some (HObj.cells (AV.int .i64 s.set :: AV.int .i64 (Int.ofNat s.me) :: AV.int .i64 (Int.ofNat s.nodes) :: AV.int .i64 s.c1 :: AV.int .i64 s.c2 :: AV.int .i64 s.c3 :: AV.fz (u8s s.own) (List.length s.own) :: AV.int .i64 s.retry :: AV.int .i64 s.phase :: AV.int .i64 s.b1 :: AV.int .i64 s.b2 :: AV.int .i64 s.s1 :: AV.int .i64 s.s2 :: AV.int .i64 s.e1 :: AV.int .i64 s.e2 :: yl s.ys 65 0 [AV.fz (u8s s.told) (List.length s.told), AV.fz (u8s s.value) (List.length s.value), AV.int .i64 n, AV.int .i64 s.wait]) 84 false), some lo, some (HObj.cells (voteC v) 6 false)])) (ilt n_2 n_4)) (ieq n (Int.ofNat 2))) (fInt s.ticks fun n => fInt (wrapK .i64 (Int.add n (Int.ofNat 1))) fun n => fInt n fun n_1 => fInt n_1 fun n_2 => fInt s.retry fun n_3 => fInt n_3 fun n_4 => brec (brec (guardK ([AV.ptr (.ofNat 0) 0, AV.bool true] = [AV.ptr (.ofNat 0) 0, AV.bool true] ∧ some (HObj.cells (AV.int .i64 s.set :: AV.int .i64 (Int.ofNat s.me) :: AV.int .i64 (Int.ofNat s.nodes) :: AV.int .i64 s.c1 :: AV.int .i64 s.c2 :: AV.int .i64 s.c3 :: AV.fz (u8s s.own) (List.length s.own) :: AV.int .i64 s.retry :: AV.int .i64 s.phase :: AV.int .i64 s.b1 :: AV.int .i64 s.b2 :: AV.int .i64 s.s1 :: AV.int .i64 s.s2 :: AV.int .i64 s.e1 :: AV.int .i64 s.e2 :: yl s.ys 65 0 [AV.fz (u8s s.told) (List.length s.told), AV.fz (u8s s.value) (List.length s.value), AV.int .i64 (Int.ofNat 0), AV.int .i64 s.wait]) 84 false) = some (propO sA)) (fAVF N fun v_1 => fAVF v_1 fun v_2 => k (AV.tup [AV.nils, v_2]) (mkH [some (propO sA), some lo, some (HObj.cells (voteC v) 6 false)])) (Ans.err 84 0 0)) (fInt s.retry fun n => guardK ([AV.ptr (.ofNat 1) 0, AV.int .i64 n] = [AV.ptr (.ofNat 1) 0, AV.int .i64 s.retry] ∧ some lo = some lo) (fInt r fun n => fInt (wrapK .i64 (Int.add (Int.ofNat 1) n)) fun n => k (AV.tup [AV.nils, AV.nils]) (mkH [some (HObj.cells (AV.int .i64 s.set :: AV.int .i64 (Int.ofNat s.me) :: AV.int .i64 (Int.ofNat s.nodes) :: AV.int .i64 s.c1 :: AV.int .i64 s.c2 :: AV.int .i64 s.c3 :: AV.fz (u8s s.own) (List.length s.own) :: AV.int .i64 s.retry :: AV.int .i64 (Int.ofNat 4) :: AV.int .i64 s.b1 :: AV.int .i64 s.b2 :: AV.int .i64 s.s1 :: AV.int .i64 s.s2 :: AV.int .i64 s.e1 :: AV.int .i64 s.e2 :: yl s.ys 65 0 [AV.fz (u8s s.told) (List.length s.told), AV.fz (u8s s.value) (List.length s.value), AV.int .i64 (Int.ofNat 0), AV.int .i64 n]) 84 false), some o, some (HObj.cells (voteC v) 6 false)])) (Ans.err 84 0 0)) (bless s.b1 s.b2 s.s1 s.s2)) (k (AV.tup [AV.nils, AV.nils]) (mkH [some (HObj.cells (AV.int .i64 s.set :: AV.int .i64 (Int.ofNat s.me) :: AV.int .i64 (Int.ofNat s.nodes) :: AV.int .i64 s.c1 :: AV.int .i64 s.c2 :: AV.int .i64 s.c3 :: AV.fz (u8s s.own) (List.length s.own) :: AV.int .i64 s.retry :: AV.int .i64 s.phase :: AV.int .i64 s.b1 :: AV.int .i64 s.b2 :: AV.int .i64 s.s1 :: AV.int .i64 s.s2 :: AV.int .i64 s.e1 :: AV.int .i64 s.e2 :: yl s.ys 65 0 [AV.fz (u8s s.told) (List.length s.told), AV.fz (u8s s.value) (List.length s.value), AV.int .i64 n, AV.int .i64 s.wait]) 84 false), some lo, some (HObj.cells (voteC v) 6 false)])) (ilt n_2 n_4)) (ieq n (Int.ofNat 1))) (k (AV.tup [AV.nils, AV.nils]) (mkH [some (propO s), some lo, some (HObj.cells (voteC v) 6 false)])) (ieq n (Int.ofNat 0)) := by kernel_rfl

theorem tickB (s sR sR' : PS) (v : VS) (V W : AV) (lo : HObj) (k : AV → H → Ans) :
    bodyF Try.prog (execH Try.prog (mkO [(33, orcLess), (40, orcErr), (41, orcErr), (29, orcObj [.ptr (.ofNat 0) 0, .agg (voteC v)] 0 (propO sR) (propO sR') (.tup [V, W]))]) [] 1000) (Pos.ofNat 22) [] [] [.ptr (.ofNat 0) 0, .ptr (.ofNat 1) 0, .agg (voteC v)] (mkH [some (propO s), some lo]) k
    = fInt (Int.ofNat s.nodes) fun n => brec (fInt s.phase fun n => brec (brec (brec (k (AV.tup [AV.nils, AV.nils]) (mkH [some (propO s), some lo, some (HObj.cells (voteC v) 6 false)])) (fInt s.wait fun n => brec (fInt s.wait fun n => fInt (wrapK .i64 (Int.sub n (Int.ofNat 1))) fun n => fInt n fun n_1 => brec (k (AV.tup [AV.nils, AV.nils]) (mkH [some (HObj.cells (AV.int .i64 s.set :: AV.int .i64 (Int.ofNat s.me) :: AV.int .i64 (Int.ofNat s.nodes) :: AV.int .i64 s.c1 :: AV.int .i64 s.c2 :: AV.int .i64 s.c3 :: AV.fz (u8s s.own) (List.length s.own) :: AV.int .i64 s.retry :: AV.int .i64 s.phase :: AV.int .i64 s.b1 :: AV.int .i64 s.b2 :: AV.int .i64 s.s1 :: AV.int .i64 s.s2 :: AV.int .i64 s.e1 :: AV.int .i64 s.e2 :: yl s.ys 65 0 [AV.fz (u8s s.told) (List.length s.told), AV.fz (u8s s.value) (List.length s.value), AV.int .i64 s.ticks, AV.int .i64 n]) 84 false), some lo, some (HObj.cells (voteC v) 6 false)])) (guardK ([AV.ptr (.ofNat 0) 0, AV.agg (voteC v)] = [AV.ptr (.ofNat 0) 0, AV.agg (voteC v)] ∧ some (HObj.cells (AV.int .i64 s.set :: AV.int .i64 (Int.ofNat s.me) :: AV.int .i64 (Int.ofNat s.nodes) :: AV.int .i64 s.c1 :: AV.int .i64 s.c2 :: AV.int .i64 s.c3 :: AV.fz (u8s s.own) (List.length s.own) :: AV.int .i64 s.retry :: AV.int .i64 s.phase :: AV.int .i64 s.b1 :: AV.int .i64 s.b2 :: AV.int .i64 s.s1 :: AV.int .i64 s.s2 :: AV.int .i64 s.e1 :: AV.int .i64 s.e2 :: yl s.ys 65 0 [AV.fz (u8s s.told) (List.length s.told), AV.fz (u8s s.value) (List.length s.value), AV.int .i64 s.ticks, AV.int .i64 n]) 84 false) = some (propO sR)) (fAVF V fun v_1 => fAVF W fun v_2 => fAVF v_1 fun v_3 => fAVF v_2 fun v_4 => k (AV.tup [v_3, v_4]) (mkH [some (propO sR'), some lo, some (HObj.cells (voteC v) 6 false)])) (Ans.err 84 0 0)) (ieq n_1 (Int.ofNat 0))) (k (AV.tup [AV.nils, AV.nils]) (mkH [some (propO s), some lo, some (HObj.cells (voteC v) 6 false)])) (ieq n (Int.ofNat 0))) (ieq n (Int.ofNat 4))) (fInt s.ticks fun n => fInt (wrapK .i64 (Int.add n (Int.ofNat 1))) fun n => fInt n fun n_1 => fInt n_1 fun n_2 => fInt s.retry fun n_3 => fInt n_3 fun n_4 => brec (brec (Ans.err 77 0 0) (fInt s.retry fun n => Ans.err 77 0 0) (bless s.b1 s.b2 s.s1 s.s2)) (k (AV.tup [AV.nils, AV.nils]) (mkH [some (HObj.cells (AV.int .i64 s.set :: AV.int .i64 (Int.ofNat s.me) :: AV.int .i64 (Int.ofNat s.nodes) :: AV.int .i64 s.c1 :: AV.int .i64 s.c2 :: AV.int .i64 s.c3 :: AV.fz (u8s s.own) (List.length s.own) :: AV.int .i64 s.retry :: AV.int .i64 s.phase :: AV.int .i64 s.b1 :: AV.int .i64 s.b2 :: AV.int .i64 s.s1 :: AV.int .i64 s.s2 :: AV.int .i64 s.e1 :: AV.int .i64 s.e2 :: yl s.ys 65 0 [AV.fz (u8s s.told) (List.length s.told), AV.fz (u8s s.value) (List.length s.value), AV.int .i64 n, AV.int .i64 s.wait]) 84 false), some lo, some (HObj.cells (voteC v) 6 false)])) (ilt n_2 n_4)) (ieq n (Int.ofNat 2))) (fInt s.ticks fun n => fInt (wrapK .i64 (Int.add n (Int.ofNat 1))) fun n => fInt n fun n_1 => fInt n_1 fun n_2 => fInt s.retry fun n_3 => fInt n_3 fun n_4 => brec (brec (Ans.err 77 0 0) (fInt s.retry fun n => Ans.err 77 0 0) (bless s.b1 s.b2 s.s1 s.s2)) (k (AV.tup [AV.nils, AV.nils]) (mkH [some (HObj.cells (AV.int .i64 s.set :: AV.int .i64 (Int.ofNat s.me) :: AV.int .i64 (Int.ofNat s.nodes) :: AV.int .i64 s.c1 :: AV.int .i64 s.c2 :: AV.int .i64 s.c3 :: AV.fz (u8s s.own) (List.length s.own) :: AV.int .i64 s.retry :: AV.int .i64 s.phase :: AV.int .i64 s.b1 :: AV.int .i64 s.b2 :: AV.int .i64 s.s1 :: AV.int .i64 s.s2 :: AV.int .i64 s.e1 :: AV.int .i64 s.e2 :: yl s.ys 65 0 [AV.fz (u8s s.told) (List.length s.told), AV.fz (u8s s.value) (List.length s.value), AV.int .i64 n, AV.int .i64 s.wait]) 84 false), some lo, some (HObj.cells (voteC v) 6 false)])) (ilt n_2 n_4)) (ieq n (Int.ofNat 1))) (k (AV.tup [AV.nils, AV.nils]) (mkH [some (propO s), some lo, some (HObj.cells (voteC v) 6 false)])) (ieq n (Int.ofNat 0)) := by kernel_rfl

theorem donT (s : PS) (k : AV → H → Ans) :
    bodyF Try.prog (execH Try.prog (mkO [(17, orcClone)]) [] 1000) (Pos.ofNat 10) [] [] [.ptr (.ofNat 0) 0] (mkH [some (propO s)]) k
    = fInt (Int.ofNat s.nodes) fun n => brec (fInt s.phase fun n => brec (boolK (Nat.beq (List.length (u8s s.value)) (List.length s.value)) (boolK (Nat.blt (List.length s.value) 400000) (k (AV.tup [AV.fz (u8s s.value) (List.length s.value), AV.bool true]) (mkH [some (propO s)])) (Ans.err 82 0 0)) (Ans.err 82 1 0)) (k (AV.tup [AV.nils, AV.bool false]) (mkH [some (propO s)])) !ieq n (Int.ofNat 3)) (k (AV.tup [AV.nils, AV.bool false]) (mkH [some (propO s)])) (ieq n (Int.ofNat 0)) := by kernel_rfl

theorem balT (s : PS) (k : AV → H → Ans) :
    bodyF Try.prog (execH Try.prog .leaf [] 1000) (Pos.ofNat 11) [] [] [.ptr (.ofNat 0) 0] (mkH [some (propO s)]) k
    = fInt (Int.ofNat s.nodes) fun n => brec (k (AV.agg [AV.int .i64 s.b1, AV.int .i64 s.b2]) (mkH [some (propO s), some (HObj.cells [AV.int .i64 s.b1, AV.int .i64 s.b2] 2 false)])) (k (AV.agg [AV.int .i64 (Int.ofNat 0), AV.int .i64 (Int.ofNat 0)]) (mkH [some (propO s), some (HObj.cells [AV.int .i64 (Int.ofNat 0), AV.int .i64 (Int.ofNat 0)] 2 false)])) (ieq n (Int.ofNat 0)) := by kernel_rfl

theorem cliF (l : List AV) (n : Nat) (k : AV → H → Ans) :
    bodyF Try.prog (execH Try.prog .leaf [] 1000) (Pos.ofNat 39) [] [] [.fz l (Nat.succ n)] (mkH []) k
    = segK 0 l (Nat.mul (Nat.succ n) 1) (fun new => boolK (Nat.ble (Nat.add 0 (Nat.succ n)) 0) (boolK (Nat.beq (Nat.mul (Nat.succ n) 1) 0) (fNat (Nat.add 0 (Nat.succ n)) fun len => fNat len fun len => k (AV.slice (Pos.ofNat 0) 0 len 0 false) (mkH [some (HObj.cells [] 1 false)])) (boolK (onesF new) (setsB 0 new [] (fun cs => fNat (Nat.add 0 (Nat.succ n)) fun len => fNat len fun len => k (AV.slice (Pos.ofNat 0) 0 len 0 false) (mkH [some (HObj.cells cs 1 false)])) (Ans.err 1 1 0)) (Ans.err 1 1 0))) (boolK (roomy (Nat.add 0 (Nat.succ n)) 8) (fNat (Nat.add 0 (Nat.succ n)) fun len => fNat (Nat.add 0 (Nat.succ n)) fun cap => fNat len fun len => fNat cap fun cap => k (AV.slice (Pos.ofNat 1) 0 len cap true) (mkH [some (HObj.cells [] 1 false), some (HObj.cells new 1 false)])) (Ans.err 1 6 0))) (Ans.err 3 2 0) := by kernel_rfl

theorem cliN (k : AV → H → Ans) :
    bodyF Try.prog (execH Try.prog .leaf [] 1000) (Pos.ofNat 39) [] [] [.nils] (mkH []) k
    = k AV.nils (mkH []) := by kernel_rfl

theorem cliZ (k : AV → H → Ans) :
    bodyF Try.prog (execH Try.prog .leaf [] 1000) (Pos.ofNat 39) [] [] [.z1] (mkH []) k
    = k (AV.slice (Pos.ofNat 0) 0 0 0 false) (mkH [some (HObj.cells [] 1 false)]) := by kernel_rfl

theorem cli_ok {l : List AV} {n : Nat} (hl : l.length = n) (hn : n < 400000) : FunOK Try.prog 39 [.fz l n] (mkH []) (.fz l n) (mkH []) := by
  refine FunOK.fz1 (fun h => List.eq_nil_of_length_eq_zero (hl.trans h)) (fun h => ?_) (fun h => ?_) (fun h hpf => ?_)
  · obtain rfl : l = [] := List.eq_nil_of_length_eq_zero (hl.trans h)
    subst h
    exact (FunOK.of_runH hmix .leaf .nil (N := 1000) (f := 39) cliN).wk .nils (.refl _)
  · obtain rfl : l = [] := List.eq_nil_of_length_eq_zero (hl.trans h)
    subst h
    exact ((FunOK.of_runH hmix .leaf .nil (N := 1000) (f := 39) cliZ).ice 0 (l := []) (esz := 1) rfl rfl rfl (v' := .fz [] 0) (by kernel_rfl)).bare fun _ => rfl
  · obtain ⟨m, rfl⟩ : ∃ m, n = m + 1 := ⟨n - 1, by omega⟩
    have hseg : ∀ (f : List AV → Ans) (e : Ans), segK 0 l (Nat.mul (Nat.succ m) 1) f e = f l := by
      intro f e
      rw [segK_eq, if_pos (show 0 + Nat.mul (Nat.succ m) 1 ≤ l.length by show 0 + (m + 1) * 1 ≤ _; omega), List.drop_zero, List.take_of_length_le (by show l.length ≤ (m + 1) * 1; omega)]
    have hr : roomy (Nat.add 0 (Nat.succ m)) 8 = true := roomy_true (by show (0 + (m + 1)) * 8 ≤ _; omega) (by show 0 + (m + 1) ≤ _; omega)
    have R : FunOK Try.prog 39 [.fz l (m + 1)] (mkH []) (.slice (.ofNat 1) 0 (m + 1) (m + 1) true) (mkH [some (.cells [] 1 false), some (.cells l 1 false)]) := FunOK.of_runH hmix .leaf .nil (N := 1000) (f := 39) fun k => (cliF l m k).trans (by
      rw [hseg, hr, show Nat.ble (Nat.add 0 (Nat.succ m)) 0 = false from ble_false (by show 0 < 0 + (m + 1); omega)]
      simp only [boolK_false, boolK_true, fNat_eq, Nat.add_eq, Nat.zero_add])
    refine (R.ice 1 (l := l) (esz := 1) rfl hpf rfl (v' := .fz l (m + 1)) ?_).bare fun _ => rfl
    show (match Nat.ble (0 + (m + 1) * 1) l.length with | true => AV.fz ((l.drop 0).take ((m + 1) * 1)) (m + 1) | false => _) = _
    rw [ble_true (show 0 + (m + 1) * 1 ≤ l.length by omega), List.drop_zero, List.take_of_length_le (by omega)]

noncomputable def orcCli : Orc := fun args A k _ => match args with
  | [.fz l n] => boolK (Nat.beq l.length n) (boolK (Nat.blt n 400000) (k (.fz l n) A) (.err 82 0 0)) (.err 82 1 0)
  | _ => .err 82 2 0

theorem good_cli : Good Try.prog 39 orcCli := good_pure fun args A k els h => by
  unfold orcCli at h
  split at h
  · rename_i l n
    rw [boolK_eq] at h
    split at h
    · rename_i h1
      rw [boolK_eq] at h
      split at h
      · rename_i h2
        exact ⟨_, h, (cli_ok (Nat.eq_of_beq_eq_true h1) ((blt_iff _ _).1 h2)).every (fun _ => rfl) (fun _ => rfl) A⟩
      · cases h
    · cases h
  · cases h

def lotC (l : List Int) (u : Int) : List AV := [.fz (ints l) l.length, .int .i64 u, .bool true]

theorem pickE (u q : Int) (k : AV → H → Ans) :
    bodyF Try.prog (execH Try.prog .leaf [] 1000) (Pos.ofNat 41) [] [] [.ptr (.ofNat 0) 0, .int .i64 q] (mkH [some (.cells (lotC [] u) 3 false)]) k
    = fInt q fun n => brec (fInt u fun n => fInt (wrapK .i64 (Int.add n (Int.ofNat 1))) fun n => fInt q fun n_1 => boolK (ieq n_1 (Int.ofNat 0)) (Ans.err 41 3 14) (fInt (remW (Int.ofNat 0) n_1) fun n_2 => fInt n_2 fun n_3 => k (AV.int .i64 n_3) (mkH [some (HObj.cells [AV.fz [] 0, AV.int .i64 n, AV.bool true] 3 false)]))) (k (AV.int .i64 (Int.ofNat 0)) (mkH [some (HObj.cells [AV.fz [] 0, AV.int .i64 u, AV.bool true] 3 false)])) (ilt n (Int.ofNat 2)) := by kernel_rfl

noncomputable def fx50 : Fx := ⟨none, 50, 44⟩

noncomputable def r50 : Code := subC [1,1,1,1,1,0] (bodyC Try.f50)

noncomputable def lotZ (l : List Int) (n : Nat) (u : Int) : HObj := .cells [.fz (ints l) n, .int .i64 u, .bool true] 3 false

def stillO (o : HObj) : Prop := ∃ c, o = .cells c 3 false ∧ AV.pfs c = true

theorem stillO.ren {o : HObj} (h : stillO o) (σ : Pos → Pos) : o.ren σ = o := by
  obtain ⟨c, rfl, h⟩ := h
  exact cells_ren_pf σ h _ _

theorem lot_still (l : List Int) (n : Nat) (u : Int) : stillO (lotZ l n u) := ⟨_, rfl, by
  simp only [AV.pfs, AV.pf, ints_pf, Bool.and_true]⟩

theorem draw_ok (a : Int) (l : List Int) (u : Int) : ∀ m, m < 20 → ∃ o, stillO o ∧ CodeOK Try.prog fx50 r50 (mkTm [(0, .ptr (.ofNat 0) 0), (3, .int .i64 a)]) (mkH [some (lotZ l (m + 1) u)]) [] .normal (mkTm [(0, .ptr (.ofNat 0) 0), (3, .int .i64 a)]) (mkH [some o]) [] := by
  have hp : ∀ m, AV.pfs [.fz (((ints l).drop 1).take m) m, .int .i64 u, .bool true] = true := fun m => by
    simp only [AV.pfs, AV.pf, pfs_take (pfs_drop (ints_pf l) 1) m, Bool.and_true]
  intro m hm
  have mk : ∀ (V : AV) (A : H), AV.pfs [V, .int .i64 u, .bool true] = true → (∀ k, execH Try.prog .leaf [] 1000 fx50 r50 (mkTm [(0, .ptr (.ofNat 0) 0), (3, .int .i64 a)]) A [] (pickK [0, 3] [] [] k) = k .normal [.ptr (.ofNat 0) 0, .int .i64 a] (mkH [some (.cells [V, .int .i64 u, .bool true] 3 false)])) → ∃ o, stillO o ∧ CodeOK Try.prog fx50 r50 (mkTm [(0, .ptr (.ofNat 0) 0), (3, .int .i64 a)]) A [] .normal (mkTm [(0, .ptr (.ofNat 0) 0), (3, .int .i64 a)]) (mkH [some o]) [] := fun V A h1 h2 =>
    ⟨_, ⟨_, rfl, h1⟩, CodeOK.of_pick hmix .leaf .nil (N := 1000) [0, 3] [] [] h2⟩
  match m, hm with
  | 0, _ => exact mk .e0 _ rfl fun k => by kernel_rfl
  | 1, _ => exact mk (.fz (((ints l).drop 1).take 1) 1) _ (hp 1) fun k => by kernel_rfl
  | 2, _ => exact mk (.fz (((ints l).drop 1).take 2) 2) _ (hp 2) fun k => by kernel_rfl
  | 3, _ => exact mk (.fz (((ints l).drop 1).take 3) 3) _ (hp 3) fun k => by kernel_rfl
  | 4, _ => exact mk (.fz (((ints l).drop 1).take 4) 4) _ (hp 4) fun k => by kernel_rfl
  | 5, _ => exact mk (.fz (((ints l).drop 1).take 5) 5) _ (hp 5) fun k => by kernel_rfl
  | 6, _ => exact mk (.fz (((ints l).drop 1).take 6) 6) _ (hp 6) fun k => by kernel_rfl
  | 7, _ => exact mk (.fz (((ints l).drop 1).take 7) 7) _ (hp 7) fun k => by kernel_rfl
  | 8, _ => exact mk (.fz (((ints l).drop 1).take 8) 8) _ (hp 8) fun k => by kernel_rfl
  | 9, _ => exact mk (.fz (((ints l).drop 1).take 9) 9) _ (hp 9) fun k => by kernel_rfl
  | 10, _ => exact mk (.fz (((ints l).drop 1).take 10) 10) _ (hp 10) fun k => by kernel_rfl
  | 11, _ => exact mk (.fz (((ints l).drop 1).take 11) 11) _ (hp 11) fun k => by kernel_rfl
  | 12, _ => exact mk (.fz (((ints l).drop 1).take 12) 12) _ (hp 12) fun k => by kernel_rfl
  | 13, _ => exact mk (.fz (((ints l).drop 1).take 13) 13) _ (hp 13) fun k => by kernel_rfl
  | 14, _ => exact mk (.fz (((ints l).drop 1).take 14) 14) _ (hp 14) fun k => by kernel_rfl
  | 15, _ => exact mk (.fz (((ints l).drop 1).take 15) 15) _ (hp 15) fun k => by kernel_rfl
  | 16, _ => exact mk (.fz (((ints l).drop 1).take 16) 16) _ (hp 16) fun k => by kernel_rfl
  | 17, _ => exact mk (.fz (((ints l).drop 1).take 17) 17) _ (hp 17) fun k => by kernel_rfl
  | 18, _ => exact mk (.fz (((ints l).drop 1).take 18) 18) _ (hp 18) fun k => by kernel_rfl
  | 19, _ => exact mk (.fz (((ints l).drop 1).take 19) 19) _ (hp 19) fun k => by kernel_rfl
  | m + 20, h => exact absurd h (by omega)

noncomputable def lotR (a : Int) (l : List Int) (u : Int) : HObj := .cells [.fz (.int .i64 a :: ints l) (Nat.succ l.length), .int .i64 u, .bool true] 3 false

theorem pickS (a : Int) (l : List Int) (u q : Int) (o : HObj) (k : AV → H → Ans) :
    bodyF Try.prog (execH Try.prog .leaf [⟨50, 1007, exSub fx50 r50 (mkTm [(0, .ptr (.ofNat 0) 0), (3, .int .i64 a)]) (mkH [some (lotR a l (wrapK .i64 (Int.add u (Int.ofNat 1))))]) .normal (mkTm [(0, .ptr (.ofNat 0) 0), (3, .int .i64 a)]) (mkH [some o])⟩] 1000) (Pos.ofNat 41) [] [] [.ptr (.ofNat 0) 0, .int .i64 q] (mkH [some (lotR a l u)]) k
    = fInt q fun n => brec (fInt u fun n => fInt (wrapK .i64 (Int.add n (Int.ofNat 1))) fun n_1 => fInt (Int.ofNat (Nat.succ (List.length l))) fun n_2 => brec (boolK (Nat.blt 0 (Nat.succ (List.length l))) (nthK (AV.int .i64 a :: ints l) 0 (fun v => eInt v (fun k_1 n_3 => fInt n_3 fun n_4 => fInt n_4 fun n_5 => guardK (fx50 = fx50 ∧ r50 = r50 ∧ Sub0 (mkTm [(0, AV.ptr (.ofNat 0) 0), (3, AV.int .i64 a)]) (mkTm [(0, AV.ptr (.ofNat 0) 0), (2, AV.int .i64 (Int.ofNat 0)), (3, AV.int k_1 n_5), (4, AV.ptr (.ofNat 0) 0), (5, AV.bool false), (6, AV.ptr (.ofNat 0) 0), (7, AV.ptr (.ofNat 0) 0), (8, AV.ptr (.ofNat 0) 1), (9, AV.int .i64 n), (10, AV.int .i64 n_1), (11, AV.ptr (.ofNat 0) 0), (12, AV.ptr (.ofNat 0) 1), (13, AV.ptr (.ofNat 0) 0), (14, AV.ptr (.ofNat 0) 0), (15, AV.ptr (.ofNat 0) 0), (16, AV.fz (AV.int .i64 a :: ints l) (Nat.succ (List.length l))), (17, AV.int .i64 n_2), (18, AV.bool false), (19, AV.ptr (.ofNat 0) 0), (20, AV.ptr (.ofNat 0) 0), (21, AV.ptr (.ofNat 0) 0), (22, AV.fz (AV.int .i64 a :: ints l) (Nat.succ (List.length l))), (23, AV.fp (AV.int .i64 a :: ints l) 0), (24, AV.int k_1 n_4)]) ∧ mkH [some (HObj.cells [AV.fz (AV.int .i64 a :: ints l) (Nat.succ (List.length l)), AV.int .i64 n_1, AV.bool true] 3 false)] = mkH [some (lotR a l (wrapK .i64 (Int.add u (Int.ofNat 1))))] ∧ MkNil []) (fInt a fun n => fInt n fun n => fInt n fun n => fInt q fun n_6 => boolK (ieq n_6 (Int.ofNat 0)) (Ans.err 41 3 14) (fInt (remW n n_6) fun n => fInt n fun n => k (AV.int .i64 n) (mkH [some o]))) (Ans.err 0 0 0)) (Ans.err 50 5 9)) (Ans.err 50 5 9)) (Ans.err 50 4 26)) (fInt q fun n => boolK (ieq n (Int.ofNat 0)) (Ans.err 41 3 14) (fInt (remW (Int.ofNat 0) n) fun n => fInt n fun n => k (AV.int .i64 n) (mkH [some (HObj.cells [AV.fz (AV.int .i64 a :: ints l) (Nat.succ (List.length l)), AV.int .i64 n_1, AV.bool true] 3 false)]))) (ieq n_2 (Int.ofNat 0))) (k (AV.int .i64 (Int.ofNat 0)) (mkH [some (HObj.cells [AV.fz (AV.int .i64 a :: ints l) (Nat.succ (List.length l)), AV.int .i64 u, AV.bool true] 3 false)])) (ilt n (Int.ofNat 2)) := by kernel_rfl

/-- 'Pick': some number. -/
theorem pick_ok (l : List Int) (u q : Int) (hl : l.length ≤ 20) : ∃ (r : Int) (o : HObj), stillO o ∧ FunOK Try.prog 41 [.ptr (.ofNat 0) 0, .int .i64 q] (mkH [some (lotZ l l.length u)]) (.int .i64 r) (mkH [some o]) := by
  by_cases h1 : q < 2
  · have c1 : ilt q (Int.ofNat 2) = true := ilt_true h1
    cases l with
    | nil => exact ⟨0, lotZ [] 0 u, lot_still _ _ _, FunOK.of_runH hmix .leaf .nil (N := 1000) (f := 41) fun k => (pickE u q k).trans (by
        simp only [fInt_eq, c1, brec_true, brec_false]; exact rfl)⟩
    | cons a l =>
      obtain ⟨o, ho, hd⟩ : ∃ o, stillO o ∧ CodeOK Try.prog fx50 r50 (mkTm [(0, .ptr (.ofNat 0) 0), (3, .int .i64 a)]) (mkH [some (lotR a l (wrapK .i64 (Int.add u (Int.ofNat 1))))]) [] .normal (mkTm [(0, .ptr (.ofNat 0) 0), (3, .int .i64 a)]) (mkH [some o]) [] := draw_ok a (a :: l) (wrapK .i64 (Int.add u (Int.ofNat 1))) l.length (by simp at hl; omega)
      exact ⟨0, lotZ (a :: l) (l.length + 1) u, lot_still _ _ _, FunOK.of_runH hmix .leaf (HolesOK.one (exSub_ok hd)) (N := 1000) (f := 41) fun k => (pickS a l u q o k).trans (by
        simp only [fInt_eq, c1, brec_true, brec_false]; exact rfl)⟩
  · have c1 : ilt q (Int.ofNat 2) = false := ilt_false (by show (2 : Int) ≤ q; omega)
    have c2 : ieq q (Int.ofNat 0) = false := ieq_false (by show ¬ q = 0; omega)
    cases l with
    | nil => exact ⟨remW (Int.ofNat 0) q, lotZ [] 0 (wrapK .i64 (Int.add u (Int.ofNat 1))), lot_still _ _ _, FunOK.of_runH hmix .leaf .nil (N := 1000) (f := 41) fun k => (pickE u q k).trans (by
        simp only [fInt_eq, c1, c2, boolK_false, brec_true, brec_false]; exact rfl)⟩
    | cons a l =>
      obtain ⟨o, ho, hd⟩ : ∃ o, stillO o ∧ CodeOK Try.prog fx50 r50 (mkTm [(0, .ptr (.ofNat 0) 0), (3, .int .i64 a)]) (mkH [some (lotR a l (wrapK .i64 (Int.add u (Int.ofNat 1))))]) [] .normal (mkTm [(0, .ptr (.ofNat 0) 0), (3, .int .i64 a)]) (mkH [some o]) [] := draw_ok a (a :: l) (wrapK .i64 (Int.add u (Int.ofNat 1))) l.length (by simp at hl; omega)
      have c3 : ieq (Int.ofNat (Nat.succ l.length)) (Int.ofNat 0) = false := ieq_false (by show ¬ (((l.length + 1 : Nat) : Int) = 0); omega)
      have c4 : Nat.blt 0 (Nat.succ l.length) = true := blt_true (Nat.succ_pos _)
      exact ⟨remW a q, o, ho, FunOK.of_runH hmix .leaf (HolesOK.one (exSub_ok hd)) (N := 1000) (f := 41) fun k => (pickS a l u q o k).trans (by
        simp only [fInt_eq, c1, c2, c3, c4, boolK_true, boolK_false, brec_true, brec_false, nthK_eq, List.getElem?_cons_zero]
        refine (guardK_pos (by repeat' first | trivial | rfl | exact LTm.nil | refine LTm.cons (by kernel_rfl) ?_ | refine Sub0.of_list ?_ | constructor) _ _).trans ?_
        simp only [fInt_eq, c2, boolK_false]
        try exact rfl)⟩

noncomputable def fx48 : Fx := ⟨none, 48, 19⟩

noncomputable def c48 : Code := bodyC Try.f48

noncomputable def b48 : Code := subC [1,0,1,1,1] c48

theorem b48_eq : subC [1,0,1] c48 = .block 0 (.loop b48) := by kernel_rfl

noncomputable def tm48 (l : List Int) (n : Nat) : List (Nat × AV) := [(0, .fz (ints l) l.length), (1, .func (.ofNat 38) [] []), (4, .int .i64 (.ofNat 0)), (7, .int .i64 (.ofNat l.length)), (8, .int .i64 (.ofNat n))]

theorem rnd48 (l : List Int) (n : Nat) (k : AExit → List AV → H → Ans) :
    execH Try.prog .leaf [] 1000 fx48 b48 (mkTm (tm48 l n)) (mkH []) [] (pickK [0, 1, 4, 7, 8] [4] [] k)
    = brec (k (AExit.exit 0) [] (mkH [])) (fInt (Int.ofNat n) fun n_1 => fInt n_1 fun n_2 => fInt n_2 fun n_3 => natOf n_3 (fun m => boolK (Nat.blt m (List.length l)) (nthK (ints l) (Nat.mul m 1) (fun v => eInt v (fun k_1 n_4 => fInt n_4 fun n_5 => fInt n_5 fun n_6 => boolK (Nat.beq (kcode k_1) 3) (brec (fInt (wrapK .i64 (Int.add (Int.ofNat n) (Int.ofNat 1))) fun n => fInt n fun n => k AExit.normal [AV.fz (ints l) (List.length l), AV.func (Pos.ofNat 38) [] [], AV.int .i64 (Int.ofNat 0), AV.int .i64 (Int.ofNat (List.length l)), AV.int .i64 n] (mkH [])) (fInt n_2 fun n => fInt n fun n => k AExit.ret [AV.int .i64 n] (mkH [])) (ilt n_6 (Int.ofNat 0))) (Ans.err 38 1 14)) (Ans.err 48 4 9)) (Ans.err 48 4 9)) (Ans.err 48 3 26)) (Ans.err 48 3 26)) (ilt (Int.ofNat n) (Int.ofNat (List.length l))) := by kernel_rfl

theorem eInt_i' (k : IntKind) (n : Int) (f : IntKind → Int → Ans) (e : Ans) : eInt (.int k n) f e = f k n := rfl
theorem kc64 : Nat.beq (kcode .i64) 3 = true := rfl

theorem loop48 (l : List Int) (hl : l.length ≤ 1000) : ∀ j n, n + j = l.length → ∃ e tm', (e = .exit 0 ∧ tm' = mkTm [] ∨ ∃ i : Int, e = .ret ∧ tm' = mkTm [(4, .int .i64 i)]) ∧ ∀ (ρ0 : RM) (w0 : World), Rel ρ0 (mkH []) w0 → LoopR Try.prog ρ0 (mkH []) w0 fx48 b48 (mkTm (tm48 l n)) (mkH []) e tm' (mkH []) := by
  intro j
  induction j with
  | zero =>
    intro n hn
    refine ⟨_, _, .inl ⟨rfl, rfl⟩, fun ρ0 w0 _ => .stop (fun e => by cases e) ?_⟩
    refine CodeR.of rfl (CodeOK.of_pick (l := []) hmix .leaf .nil (N := 1000) [0, 1, 4, 7, 8] [4] [] fun k => (rnd48 l n k).trans ?_)
    have c1 : ilt (Int.ofNat n) (Int.ofNat l.length) = false := blt_false (by omega)
    simp only [c1, brec_false]
    try exact rfl
  | succ j ih =>
    intro n hn
    have c1 : ilt (Int.ofNat n) (Int.ofNat l.length) = true := blt_true (by omega)
    have c2 : Nat.blt n l.length = true := blt_true (by omega)
    have c3 : wrapK .i64 (Int.add (Int.ofNat n) (Int.ofNat 1)) = .ofNat (n + 1) := wrap_add (by omega)
    have hg : (ints l)[Nat.mul n 1]? = some (.int .i64 (l[n]'(by omega))) := by
      rw [show Nat.mul n 1 = n from Nat.mul_one n, ints_get, List.getElem?_eq_getElem (by omega)]; rfl
    cases hc : ilt (l[n]'(by omega)) (Int.ofNat 0)
    · obtain ⟨e, tm', h1, h2⟩ := ih (n + 1) (by omega)
      refine ⟨e, tm', h1, fun ρ0 w0 hr0 => .next ?_ (h2 ρ0 w0 hr0)⟩
      refine CodeR.of rfl (CodeOK.of_pick (l := [.fz (ints l) l.length, .func (.ofNat 38) [] [], .int .i64 (.ofNat 0), .int .i64 (.ofNat l.length), .int .i64 (.ofNat (n + 1))]) hmix .leaf .nil (N := 1000) [0, 1, 4, 7, 8] [4] [] fun k => (rnd48 l n k).trans ?_)
      simp only [fInt_eq, natOf_of, c1, c2, c3, nthK_eq, hg, optK_some, boolK_true, brec_true, brec_false, eInt_i', kc64, hc]
      try exact rfl
    · refine ⟨_, _, .inr ⟨.ofNat n, rfl, rfl⟩, fun ρ0 w0 _ => .stop (fun e => by cases e) ?_⟩
      refine CodeR.of rfl (CodeOK.of_pick (l := [.int .i64 (.ofNat n)]) hmix .leaf .nil (N := 1000) [0, 1, 4, 7, 8] [4] [] fun k => (rnd48 l n k).trans ?_)
      simp only [fInt_eq, natOf_of, c1, c2, c3, nthK_eq, hg, optK_some, boolK_true, brec_true, brec_false, eInt_i', kc64, hc]
      try exact rfl

theorem idxR (l : List Int) (i : Int) (k : AV → H → Ans) :
    bodyF Try.prog (execH Try.prog .leaf [⟨48, 0, exSub fx48 (subC [1,0,1] c48) (mkTm (tm48 l 0)) (mkH []) .ret (mkTm [(4, .int .i64 i)]) (mkH [])⟩] 1000) (Pos.ofNat 48) [] [] [.fz (ints l) l.length, .func (.ofNat 38) [] []] (mkH []) k
    = fInt (Int.ofNat (List.length l)) fun n => guardK (fx48 = fx48 ∧ subC [1, 0, 1] c48 = subC [1, 0, 1] c48 ∧ Sub0 (mkTm (tm48 l 0)) (mkTm [(0, AV.fz (ints l) (List.length l)), (1, AV.func (Pos.ofNat 38) [] []), (4, AV.int .i64 (Int.ofNat 0)), (6, AV.fz (ints l) (List.length l)), (7, AV.int .i64 n), (8, AV.int .i64 (Int.ofNat 0))]) ∧ mkH [] = mkH [] ∧ MkNil []) (k (AV.int .i64 i) (mkH [])) (Ans.err 0 0 0) := by kernel_rfl

theorem idxN (l : List Int) (k : AV → H → Ans) :
    bodyF Try.prog (execH Try.prog .leaf [⟨48, 0, exSub fx48 (subC [1,0,1] c48) (mkTm (tm48 l 0)) (mkH []) .normal (mkTm []) (mkH [])⟩] 1000) (Pos.ofNat 48) [] [] [.fz (ints l) l.length, .func (.ofNat 38) [] []] (mkH []) k
    = fInt (Int.ofNat (List.length l)) fun n => guardK (fx48 = fx48 ∧ subC [1, 0, 1] c48 = subC [1, 0, 1] c48 ∧ Sub0 (mkTm (tm48 l 0)) (mkTm [(0, AV.fz (ints l) (List.length l)), (1, AV.func (Pos.ofNat 38) [] []), (4, AV.int .i64 (Int.ofNat 0)), (6, AV.fz (ints l) (List.length l)), (7, AV.int .i64 n), (8, AV.int .i64 (Int.ofNat 0))]) ∧ mkH [] = mkH [] ∧ MkNil []) (k (AV.int .i64 (Int.negSucc 0)) (mkH [])) (Ans.err 0 0 0) := by kernel_rfl

theorem idx_ok (l : List Int) (hl : l.length ≤ 1000) : ∃ r : Int, FunOK Try.prog 48 [.fz (ints l) l.length, .func (.ofNat 38) [] []] (mkH []) (.int .i64 r) (mkH []) := by
  obtain ⟨e, tm', h1, h2⟩ := loop48 l hl l.length 0 (Nat.zero_add _)
  rcases h1 with ⟨rfl, rfl⟩ | ⟨i, rfl, rfl⟩
  · have hB : CodeOK Try.prog fx48 (subC [1,0,1] c48) (mkTm (tm48 l 0)) (mkH []) [] .normal (mkTm []) (mkH []) [] := by
      rw [b48_eq]
      exact CodeOK.of_base rfl fun ρ0 w0 hr0 => .block (h2 ρ0 w0 hr0).code
    exact ⟨-1, FunOK.of_runH hmix .leaf (HolesOK.one (exSub_ok hB)) (N := 1000) (f := 48) fun k => (idxN l k).trans (by
      simp only [fInt_eq]
      refine (guardK_pos (by repeat' first | trivial | rfl | exact LTm.nil | refine LTm.cons (by kernel_rfl) ?_ | refine Sub0.of_list ?_ | constructor) _ _).trans ?_
      try exact rfl)⟩
  · have hB : CodeOK Try.prog fx48 (subC [1,0,1] c48) (mkTm (tm48 l 0)) (mkH []) [] .ret (mkTm [(4, .int .i64 i)]) (mkH []) [] := by
      rw [b48_eq]
      exact CodeOK.of_base rfl fun ρ0 w0 hr0 => .block_other (fun e => by cases e) (h2 ρ0 w0 hr0).code
    exact ⟨i, FunOK.of_runH hmix .leaf (HolesOK.one (exSub_ok hB)) (N := 1000) (f := 48) fun k => (idxR l i k).trans (by
      simp only [fInt_eq]
      refine (guardK_pos (by repeat' first | trivial | rfl | exact LTm.nil | refine LTm.cons (by kernel_rfl) ?_ | refine Sub0.of_list ?_ | constructor) _ _).trans ?_
      try exact rfl)⟩

/-- An answer of one call without places. -/
noncomputable def orcOne (args0 : List AV) (v : AV) : Orc := fun args A k _ => guardK (args = args0) (k v A) (.err 85 0 0)

theorem good_one {g : FuncId} {args0 : List AV} {v : AV} (h : FunOK Try.prog g args0 (mkH []) v (mkH [])) (ha : ∀ σ, AV.rens σ args0 = args0) (hv : ∀ σ, v.ren σ = v) : Good Try.prog g (orcOne args0 v) := good_pure fun args A k els hk => by
  unfold orcOne guardK at hk
  split at hk
  · rename_i hc
    subst hc
    exact ⟨_, hk, h.every ha hv A⟩
  · cases hk

theorem conT (l : List Int) (r : Int) (k : AV → H → Ans) :
    bodyF Try.prog (execH Try.prog (mkO [(48, orcOne [.fz (ints l) l.length, .func (.ofNat 38) [] []] (.int .i64 r))]) [] 1000) (Pos.ofNat 37) [] [] [.fz (ints l) l.length, .func (.ofNat 38) [] []] (mkH []) k
    = guardK ([AV.fz (ints l) (List.length l), AV.func (Pos.ofNat 38) [] []] = [AV.fz (ints l) (List.length l), AV.func (Pos.ofNat 38) [] []]) (fInt r fun n => brec (k (AV.bool false) (mkH [])) (k (AV.bool true) (mkH [])) !ilt n (Int.ofNat 0)) (Ans.err 85 0 0) := by kernel_rfl

theorem con_ok (l : List Int) (hl : l.length ≤ 1000) : ∃ b : Bool, FunOK Try.prog 37 [.fz (ints l) l.length, .func (.ofNat 38) [] []] (mkH []) (.bool b) (mkH []) := by
  obtain ⟨r, h⟩ := idx_ok l hl
  have key : ∀ b : Bool, (!ilt r (Int.ofNat 0)) = b → FunOK Try.prog 37 [.fz (ints l) l.length, .func (.ofNat 38) [] []] (mkH []) (.bool b) (mkH []) := fun b hb => FunOK.of_runH hmix (OrOK.cons (good_one h (fun _ => rfl) (fun _ => rfl)) .nil) .nil (N := 1000) (f := 37) fun k => (conT l r k).trans (by
    subst hb
    refine (guardK_pos rfl _ _).trans ?_
    simp only [fInt_eq]
    cases ilt r (Int.ofNat 0) <;> exact rfl)
  exact ⟨_, key _ rfl⟩

theorem newT (l : List Int) (b : Bool) (k : AV → H → Ans) :
    bodyF Try.prog (execH Try.prog (mkO [(37, orcOne [.fz (ints l) l.length, .func (.ofNat 38) [] []] (.bool b)), (39, orcCli)]) [] 1000) (Pos.ofNat 21) [] [] [.fz (ints l) l.length] (mkH []) k
    = fInt (Int.ofNat (List.length l)) fun n => brec (guardK ([AV.fz (ints l) (List.length l), AV.func (Pos.ofNat 38) [] []] = [AV.fz (ints l) (List.length l), AV.func (Pos.ofNat 38) [] []]) (brec (boolK (Nat.beq (List.length (ints l)) (List.length l)) (boolK (Nat.blt (List.length l) 400000) (k (AV.tup [AV.ptr (.ofNat 0) 0, AV.int .i64 (Int.ofNat 0)]) (mkH [some (HObj.cells [AV.fz (ints l) (List.length l), AV.int .i64 (Int.ofNat 0), AV.bool true] 3 false)])) (Ans.err 82 0 0)) (Ans.err 82 1 0)) (k (AV.tup [AV.nilp, AV.int .i64 (Int.ofNat 2)]) (mkH [])) b) (Ans.err 85 0 0)) (k (AV.tup [AV.nilp, AV.int .i64 (Int.ofNat 3)]) (mkH [])) (ilt (Int.ofNat 1000) n) := by kernel_rfl

/-- 'lot.New': lots, or none. -/
theorem new_lot (l : List Int) (hl : l.length ≤ 20) : FunOK Try.prog 21 [.fz (ints l) l.length] (mkH []) (.tup [.nilp, .int .i64 (.ofNat 2)]) (mkH []) ∨ FunOK Try.prog 21 [.fz (ints l) l.length] (mkH []) (.tup [.ptr (.ofNat 0) 0, .int .i64 (.ofNat 0)]) (mkH [some (lotZ l l.length 0)]) := by
  obtain ⟨b, h⟩ := con_ok l (by omega)
  have c1 : ilt (Int.ofNat 1000) (Int.ofNat l.length) = false := blt_false (by omega)
  have c2 : Nat.beq (ints l).length l.length = true := AM.beq_true (ints_len _)
  have c3 : Nat.blt l.length 400000 = true := blt_true (by omega)
  cases b
  · exact .inr (FunOK.of_runH hmix (OrOK.cons (good_one h (fun _ => rfl) (fun _ => rfl)) (OrOK.cons good_cli .nil)) .nil (N := 1000) (f := 21) fun k => (newT l false k).trans (by
      simp only [fInt_eq, c1, c2, c3, boolK_true, boolK_false, brec_true, brec_false]
      refine (guardK_pos (by repeat' first | trivial | rfl | constructor) _ _).trans ?_
      try exact rfl))
  · exact .inl (FunOK.of_runH hmix (OrOK.cons (good_one h (fun _ => rfl) (fun _ => rfl)) (OrOK.cons good_cli .nil)) .nil (N := 1000) (f := 21) fun k => (newT l true k).trans (by
      simp only [fInt_eq, c1, c2, c3, boolK_true, boolK_false, brec_true, brec_false]
      refine (guardK_pos (by repeat' first | trivial | rfl | constructor) _ _).trans ?_
      try exact rfl))

theorem drop2 {g : FuncId} {args : List AV} {v : AV} {a b a' b' : HObj} {G : HL} (h : FunOK Try.prog g args (mkH [some a, some b]) v (mkH (some a' :: some b' :: G))) (ha : ∀ σ, a'.ren σ = a') (hb : ∀ σ, b'.ren σ = b') (hv : ∀ τ, v.ren τ = v) : FunOK Try.prog g args (mkH [some a, some b]) v (mkH [some a', some b']) := by
  refine FunOK.sel (τ := seat [0, 1] (G.length + 2)) h ?_ (hv _).symm
  rw [mkH_next]
  refine Sel.of_listN (n := 2) (N := G.length + 2) (B := [some a', some b']) (t := [0, 1]) rfl rfl ?_ (by show [0, 1].Nodup; decide) ⟨rfl, rfl, trivial⟩
  exact .some rfl (ha _).symm (.some rfl (hb _).symm .nil)

theorem bless_iff (a b c d : Int) : bless a b c d = true ↔ a < c ∨ a = c ∧ b < d := by unfold bless; exact decide_eq_true_iff

theorem bmx_less {a b z : Int × Int} (h : bless (bmx a b).1 (bmx a b).2 z.1 z.2 = true) : bless a.1 a.2 z.1 z.2 = true ∧ bless b.1 b.2 z.1 z.2 = true := by
  obtain ⟨a1, a2⟩ := a
  obtain ⟨b1, b2⟩ := b
  obtain ⟨z1, z2⟩ := z
  simp only [bmx] at h
  split at h
  · rename_i hb
    simp only [bless_iff] at *
    omega
  · rename_i hb
    simp only [bless_iff] at *
    omega

/-- A round, as an act. -/
theorem round_act {s : PS} {v : VS} {x : Option NS} (h : Inv s) (hd : okb v.data) (hp : s.phase ≠ 3) : ActOK 29 [.ptr (.ofNat 0) 0, .agg (voteC v)] s v x := by
  by_cases hE : nxE (mxB s v).1 (mxB s v).2 s.me = 0
  · obtain ⟨ms, q, R⟩ := round_ok h.n1 h.n2 h.m h.value.1 hd.1 hE
    obtain ⟨e1, e2, e3, e4⟩ := nxt_ok hE
    have e2' : bless (mxB s v).1 (mxB s v).2 (rouS s v).b1 (rouS s v).b2 = true := by
      show bless _ _ (nxN _ _ _) (nxM _ _ _) = true
      rw [e1]; exact e2
    obtain ⟨g1, g2⟩ := bmx_less (a := bmx (bmx (0, 0) (s.s1, s.s2)) (s.b1, s.b2)) (b := (v.p1, v.p2)) (z := ((rouS s v).b1, (rouS s v).b2)) e2'
    obtain ⟨g3, g4⟩ := bmx_less (a := bmx (0, 0) (s.s1, s.s2)) (b := (s.b1, s.b2)) (z := ((rouS s v).b1, (rouS s v).b2)) g1
    exact ⟨rouS s v, _, 1, _, _, ⟨h.n1, h.n2, h.m, h.own, hd, h.value⟩, ⟨rfl, rfl, rfl, rfl, rfl, rfl, rfl, rfl⟩, .prom ms (q.of rfl rfl) hp rfl g4 e1 g2, R⟩
  · exact ⟨{ s with phase := 4, wait := 0 }, _, 0, _, 0, ⟨h.n1, h.n2, h.m, h.own, h.told, h.value⟩, ⟨rfl, rfl, rfl, rfl, rfl, rfl, rfl, rfl⟩, .quiet rfl rfl rfl (.inr ⟨hp, rfl⟩), round_none hE⟩

/-- 'Start'. -/
theorem start_ok {s : PS} {v : VS} (h : Inv s) (hd : okb v.data) :
    ∃ (s' : PS) (F : List AV) (n : Nat) (N : List AV) (m : Nat) (er : Int), Inv s' ∧ Par s s' ∧ Out s v none s' F n N m ∧ FunOK Try.prog 18 [.ptr (.ofNat 0) 0, .agg (voteC v)] (mkH [some (propO s)]) (.tup [.fz F n, .fz N m, .int .i64 er]) (mkH [some (propO s')]) := by
  have c0 : ieq (Int.ofNat s.nodes) (Int.ofNat 0) = false := ieq_false (by have := h.n1; show ¬ ((s.nodes : Int) = 0); omega)
  by_cases hp : s.phase = 0
  · have c1 : ieq s.phase (Int.ofNat 0) = true := ieq_true hp
    obtain ⟨s', F, n, N, m, i, p, o, R⟩ := round_act (x := none) h hd (by omega)
    refine ⟨s', F, n, N, m, 0, i, p, o, ?_⟩
    have g := good_obj (p := 0) (args' := [.ptr (.ofNat 0) 0, .agg (voteC v)]) R (fun σ => prop_ren σ _) (fun σ => prop_ren σ _) (fun _ => rfl) (fun σ hσ => by show [AV.ptr (σ Pos.z) 0, AV.agg (voteC v)] = _; rw [hσ])
    have R2 := FunOK.of_runH (v := .tup [.fz F n, .fz N m, .int .i64 0]) (A' := mkH [some (propO s'), some (.cells (voteC v) 6 false)]) hmix (OrOK.cons g .nil) .nil (N := 1000) (f := 18) fun k => (staT s s' v _ _ k).trans (by
      simp only [fInt_eq, c0, c1, brec_true, brec_false, Bool.not_true, Bool.not_false, fAVF_fz]
      refine (guardK_pos (by repeat' first | trivial | rfl | constructor) _ _).trans ?_
      try exact rfl)
    exact R2.drop1 (fun σ => prop_ren σ _) (fun _ => rfl)
  · have c1 : ieq s.phase (Int.ofNat 0) = false := ieq_false hp
    refine ⟨s, [], 0, [], 0, 9, h, .refl s, .quiet rfl rfl rfl (.inl rfl), ?_⟩
    have R2 := FunOK.of_runH (v := .tup [.nils, .nils, .int .i64 9]) (A' := mkH [some (propO s), some (.cells (voteC v) 6 false)]) hmix (OrOK.cons good_err .nil) .nil (N := 1000) (f := 18) fun k => (staE s v k).trans (by
      simp only [fInt_eq, c0, c1, brec_true, brec_false, Bool.not_true, Bool.not_false]
      try exact rfl)
    exact (R2.drop1 (fun σ => prop_ren σ _) (fun _ => rfl)).wk (Wk.tup (.cons .nils (.cons .nils (.cons (.refl _) .nil)))) (.refl _)

/-- 'Tick'. -/
theorem tick_ok {s : PS} {v : VS} {l : List Int} (h : Inv s) (hd : okb v.data) (hl : l.length ≤ 20) :
    ∃ (s' : PS) (F : List AV) (n : Nat) (N : List AV) (m : Nat) (o' : HObj), stillO o' ∧ Inv s' ∧ Par s s' ∧ Out s v none s' F n N m ∧ FunOK Try.prog 22 [.ptr (.ofNat 0) 0, .ptr (.ofNat 1) 0, .agg (voteC v)] (mkH [some (propO s), some (lotZ l l.length 0)]) (.tup [.fz F n, .fz N m]) (mkH [some (propO s'), some o']) := by
  have c0 : ieq (Int.ofNat s.nodes) (Int.ofNat 0) = false := ieq_false (by have := h.n1; show ¬ ((s.nodes : Int) = 0); omega)
  obtain ⟨r, o, ho, hP⟩ := pick_ok l 0 s.retry hl
  have gP := good_obj (p := 1) (args' := [.ptr (.ofNat 1) 0, .int .i64 s.retry]) hP (fun σ => (lot_still _ _ _).ren σ) (fun σ => ho.ren σ) (fun _ => rfl) (fun σ hσ => by show [AV.ptr (σ Pos.z) 0, AV.int .i64 s.retry] = _; rw [hσ])
  obtain ⟨ms, qN, hN⟩ := notes_fz (s := { s with ticks := 0 }) true h.value.1 h.n2
  have gN := good_notes hN
  have hlz : ∀ σ, (lotZ l l.length 0).ren σ = lotZ l l.length 0 := (lot_still _ _ _).ren
  have quiet : ∀ {s' : PS} {o' : HObj} {G : HL}, stillO o' → Inv s' → Par s s' → s'.b1 = s.b1 → s'.b2 = s.b2 → s'.value = s.value → (s'.phase = s.phase ∨ s.phase ≠ 3 ∧ s'.phase = 4) → FunOK Try.prog 22 [.ptr (.ofNat 0) 0, .ptr (.ofNat 1) 0, .agg (voteC v)] (mkH [some (propO s), some (lotZ l l.length 0)]) (.tup [.nils, .nils]) (mkH (some (propO s') :: some o' :: G)) → ∃ (s' : PS) (F : List AV) (n : Nat) (N : List AV) (m : Nat) (o' : HObj), stillO o' ∧ Inv s' ∧ Par s s' ∧ Out s v none s' F n N m ∧ FunOK Try.prog 22 [.ptr (.ofNat 0) 0, .ptr (.ofNat 1) 0, .agg (voteC v)] (mkH [some (propO s), some (lotZ l l.length 0)]) (.tup [.fz F n, .fz N m]) (mkH [some (propO s'), some o']) :=
    fun {s'} {o'} {G} ho i p q1 q2 q3 q4 R => ⟨s', [], 0, [], 0, o', ho, i, p, .quiet q1 q2 q3 q4, (drop2 R (fun σ => prop_ren σ _) (fun σ => ho.ren σ) (fun _ => rfl)).wk (Wk.tup (.cons .nils (.cons .nils .nil))) (.refl _)⟩
  by_cases h12 : s.phase = 1 ∨ s.phase = 2
  · have gE : ∀ (v' w' : AV) (sX : PS), Good Try.prog 29 orcErr := fun _ _ _ => good_err
    cases hc : ilt (wrapK .i64 (Int.add s.ticks (Int.ofNat 1))) s.retry
    · cases hb : bless s.b1 s.b2 s.s1 s.s2
      · have R := FunOK.of_runH (v := .tup [.nils, .fz (flat (noteC { s with ticks := 0 }) ms) ms.length]) (A' := mkH [some (propO { s with ticks := 0 }), some (lotZ l l.length 0), some (.cells (voteC v) 6 false)]) hmix (OrOK.cons good_less (OrOK.cons gN (OrOK.cons gP (OrOK.cons good_err .nil)))) .nil (N := 1000) (f := 22) fun k => (tickA s { s with ticks := 0 } v r _ (lotZ l l.length 0) o k).trans (by
          rcases h12 with h1 | h1
          · have c1 : ieq s.phase (Int.ofNat 1) = true := ieq_true h1
            simp only [fInt_eq, c0, c1, hc, hb, brec_true, brec_false, Bool.not_true, Bool.not_false]
            refine (guardK_pos (by repeat' first | trivial | rfl | constructor) _ _).trans ?_
            simp only [fAVF_fz]
            try exact rfl
          · have c1 : ieq s.phase (Int.ofNat 1) = false := ieq_false (by show ¬ s.phase = 1; omega)
            have c2 : ieq s.phase (Int.ofNat 2) = true := ieq_true h1
            simp only [fInt_eq, c0, c1, c2, hc, hb, brec_true, brec_false, Bool.not_true, Bool.not_false]
            refine (guardK_pos (by repeat' first | trivial | rfl | constructor) _ _).trans ?_
            simp only [fAVF_fz]
            try exact rfl)
        exact ⟨{ s with ticks := 0 }, [], 0, _, _, _, lot_still _ _ _, ⟨h.n1, h.n2, h.m, h.own, h.told, h.value⟩, ⟨rfl, rfl, rfl, rfl, rfl, rfl, rfl, rfl⟩, .again ms qN rfl rfl rfl rfl h12, (drop2 R (fun σ => prop_ren σ _) hlz (fun _ => rfl)).wk (Wk.tup (.cons .nils (.cons (.refl _) .nil))) (.refl _)⟩
      · refine quiet (s' := { s with ticks := 0, phase := 4, wait := wrapK .i64 (Int.add (Int.ofNat 1) r) }) ho ⟨h.n1, h.n2, h.m, h.own, h.told, h.value⟩ ⟨rfl, rfl, rfl, rfl, rfl, rfl, rfl, rfl⟩ rfl rfl rfl (.inr ⟨(by omega), rfl⟩) (G := [some (.cells (voteC v) 6 false)]) ?_
        exact FunOK.of_runH hmix (OrOK.cons good_less (OrOK.cons gN (OrOK.cons gP (OrOK.cons good_err .nil)))) .nil (N := 1000) (f := 22) fun k => (tickA s { s with ticks := 0 } v r _ (lotZ l l.length 0) o k).trans (by
          rcases h12 with h1 | h1
          · have c1 : ieq s.phase (Int.ofNat 1) = true := ieq_true h1
            simp only [fInt_eq, c0, c1, hc, hb, brec_true, brec_false, Bool.not_true, Bool.not_false]
            refine (guardK_pos (by repeat' first | trivial | rfl | constructor) _ _).trans ?_
            try simp only [fInt_eq]
            try exact rfl
          · have c1 : ieq s.phase (Int.ofNat 1) = false := ieq_false (by show ¬ s.phase = 1; omega)
            have c2 : ieq s.phase (Int.ofNat 2) = true := ieq_true h1
            simp only [fInt_eq, c0, c1, c2, hc, hb, brec_true, brec_false, Bool.not_true, Bool.not_false]
            refine (guardK_pos (by repeat' first | trivial | rfl | constructor) _ _).trans ?_
            try simp only [fInt_eq]
            try exact rfl)
    · refine quiet (s' := { s with ticks := wrapK .i64 (Int.add s.ticks (Int.ofNat 1)) }) (lot_still l l.length 0) ⟨h.n1, h.n2, h.m, h.own, h.told, h.value⟩ ⟨rfl, rfl, rfl, rfl, rfl, rfl, rfl, rfl⟩ rfl rfl rfl (.inl rfl) (G := [some (.cells (voteC v) 6 false)]) ?_
      exact FunOK.of_runH hmix (OrOK.cons good_less (OrOK.cons gN (OrOK.cons gP (OrOK.cons good_err .nil)))) .nil (N := 1000) (f := 22) fun k => (tickA s { s with ticks := 0 } v r _ (lotZ l l.length 0) o k).trans (by
        rcases h12 with h1 | h1
        · have c1 : ieq s.phase (Int.ofNat 1) = true := ieq_true h1
          simp only [fInt_eq, c0, c1, hc, brec_true, brec_false, Bool.not_true, Bool.not_false]
          try exact rfl
        · have c1 : ieq s.phase (Int.ofNat 1) = false := ieq_false (by show ¬ s.phase = 1; omega)
          have c2 : ieq s.phase (Int.ofNat 2) = true := ieq_true h1
          simp only [fInt_eq, c0, c1, c2, hc, brec_true, brec_false, Bool.not_true, Bool.not_false]
          try exact rfl)
  · have c1 : ieq s.phase (Int.ofNat 1) = false := ieq_false (by show ¬ s.phase = 1; omega)
    have c2 : ieq s.phase (Int.ofNat 2) = false := ieq_false (by show ¬ s.phase = 2; omega)
    by_cases h4 : s.phase = 4
    · have c4 : ieq s.phase (Int.ofNat 4) = true := ieq_true h4
      obtain ⟨s', F, n, N, m, i, p, out, RR⟩ := round_act (s := { s with wait := wrapK .i64 (Int.sub s.wait (Int.ofNat 1)) }) (v := v) (x := none) ⟨h.n1, h.n2, h.m, h.own, h.told, h.value⟩ hd (by show s.phase ≠ 3; omega)
      have g := good_obj (p := 0) (args' := [.ptr (.ofNat 0) 0, .agg (voteC v)]) RR (fun σ => prop_ren σ _) (fun σ => prop_ren σ _) (fun _ => rfl) (fun σ hσ => by show [AV.ptr (σ Pos.z) 0, AV.agg (voteC v)] = _; rw [hσ])
      cases c5 : ieq s.wait (Int.ofNat 0)
      · cases c6 : ieq (wrapK .i64 (Int.sub s.wait (Int.ofNat 1))) (Int.ofNat 0)
        · refine quiet (s' := { s with wait := wrapK .i64 (Int.sub s.wait (Int.ofNat 1)) }) (lot_still l l.length 0) ⟨h.n1, h.n2, h.m, h.own, h.told, h.value⟩ ⟨rfl, rfl, rfl, rfl, rfl, rfl, rfl, rfl⟩ rfl rfl rfl (.inl rfl) (G := [some (.cells (voteC v) 6 false)]) ?_
          exact FunOK.of_runH hmix (OrOK.cons good_less (OrOK.cons good_err (OrOK.cons good_err (OrOK.cons g .nil)))) .nil (N := 1000) (f := 22) fun k => (tickB s _ s' v _ _ (lotZ l l.length 0) k).trans (by
            simp only [fInt_eq, c0, c1, c2, c4, c5, c6, brec_true, brec_false, Bool.not_true, Bool.not_false]
            try exact rfl)
        · have R := FunOK.of_runH (v := .tup [.fz F n, .fz N m]) (A' := mkH [some (propO s'), some (lotZ l l.length 0), some (.cells (voteC v) 6 false)]) hmix (OrOK.cons good_less (OrOK.cons good_err (OrOK.cons good_err (OrOK.cons g .nil)))) .nil (N := 1000) (f := 22) fun k => (tickB s _ s' v _ _ (lotZ l l.length 0) k).trans (by
            simp only [fInt_eq, c0, c1, c2, c4, c5, c6, brec_true, brec_false, Bool.not_true, Bool.not_false, fAVF_fz]
            refine (guardK_pos (by repeat' first | trivial | rfl | constructor) _ _).trans ?_
            try exact rfl)
          refine ⟨s', F, n, N, m, _, lot_still _ _ _, i, ⟨p.set, p.me, p.nodes, p.c1, p.c2, p.c3, p.own, p.retry⟩, ?_, drop2 R (fun σ => prop_ren σ _) hlz (fun _ => rfl)⟩
          cases out with
          | quiet a b c d => exact .quiet a b c d
          | again ms a b c d e f => exact .again ms a b c d e f
          | prom ms a b c d e f => exact .prom ms a b c d e f
          | acc ms n a b c d e f => exact .acc ms n a b c d e f
          | dec ms a b c d e f => exact .dec ms a b c d e f
          | told y a b c d e f g' => exact .told y a b c d e f g'
      · refine quiet (s' := s) (lot_still l l.length 0) h (.refl s) rfl rfl rfl (.inl rfl) (G := [some (.cells (voteC v) 6 false)]) ?_
        exact FunOK.of_runH hmix (OrOK.cons good_less (OrOK.cons good_err (OrOK.cons good_err (OrOK.cons g .nil)))) .nil (N := 1000) (f := 22) fun k => (tickB s _ s' v _ _ (lotZ l l.length 0) k).trans (by
          simp only [fInt_eq, c0, c1, c2, c4, c5, brec_true, brec_false, Bool.not_true, Bool.not_false]
          try exact rfl)
    · have c4 : ieq s.phase (Int.ofNat 4) = false := ieq_false h4
      refine quiet (s' := s) (lot_still l l.length 0) h (.refl s) rfl rfl rfl (.inl rfl) (G := [some (.cells (voteC v) 6 false)]) ?_
      exact FunOK.of_runH hmix (OrOK.cons good_less (OrOK.cons gN (OrOK.cons gP (OrOK.cons good_err .nil)))) .nil (N := 1000) (f := 22) fun k => (tickA s { s with ticks := 0 } v r _ (lotZ l l.length 0) o k).trans (by
        simp only [fInt_eq, c0, c1, c2, c4, brec_true, brec_false, Bool.not_true, Bool.not_false]
        try exact rfl)

/-- An act. -/
structure AS where
  kind : Int
  x : NS
  mine : Bool
  v : VS
  lots : List Int

def actC (a : AS) : List AV := .int .i64 a.kind :: (noteX a.x ++ (.bool a.mine :: (voteC a.v ++ [.fz (ints a.lots) a.lots.length])))

/-- What a proposer is made of. -/
structure BS where
  set : Int
  me : Int
  nodes : Int
  c1 : Int
  c2 : Int
  c3 : Int
  data : List Nat
  retry : Int

def beginC (b : BS) : List AV := [.int .i64 b.set, .int .i64 b.me, .int .i64 b.nodes, .int .i64 b.c1, .int .i64 b.c2, .int .i64 b.c3, .fz (u8s b.data) b.data.length, .int .i64 b.retry]

/-- An act's note, as it is taken. -/
def takenX (s : PS) (a : AS) (b : BS) : NS := bif a.mine then { a.x with c1 := b.c1, c2 := b.c2, c3 := b.c3, set := b.set, to := b.me, b1 := s.b1, b2 := s.b2 } else a.x

theorem actA (s s' : PS) (a : AS) (b : BS) (V W : AV) (er : Int) (k : AV → H → Ans) :
    bodyF Try.prog (execH Try.prog (mkO [(18, orcObj [.ptr (.ofNat 0) 0, .agg (voteC a.v)] 0 (propO s) (propO s') (.tup [V, W, .int .i64 er])), (19, orcErr), (21, orcErr), (22, orcErr)]) [⟨7, 1007, exErr⟩] 1000) (Pos.ofNat 7) [] [] [.ptr (.ofNat 0) 0, .agg (actC a), .agg (beginC b)] (mkH [some (propO s)]) k
    = fInt a.kind fun n => brec (brec (brec (brec (k (AV.tup [AV.nils, AV.nils]) (mkH [some (propO s), some (HObj.cells (actC a) 57 false), some (HObj.cells (beginC b) 8 false)])) (Ans.err 77 0 0) (ieq n (Int.ofNat 3))) (Ans.err 79 0 0) (ieq n (Int.ofNat 2))) (Ans.err 79 0 0) (ieq n (Int.ofNat 1))) (guardK ([AV.ptr (.ofNat 0) 0, AV.agg [AV.int .i64 (VS.set a.4), AV.int .i64 (VS.p1 a.4), AV.int .i64 (VS.p2 a.4), AV.int .i64 (VS.a1 a.4), AV.int .i64 (VS.a2 a.4), AV.fz (u8s (VS.data a.4)) (List.length (VS.data a.4))]] = [AV.ptr (.ofNat 0) 0, AV.agg (voteC a.v)] ∧ some (propO s) = some (propO s)) (fAVF V fun v => fAVF W fun v_1 => fInt er fun n => fAVF v fun v => fAVF v_1 fun v_2 => fInt n fun n => fAVF v fun v => fAVF v_2 fun v_3 => fAVF v fun v => fAVF v_3 fun v_4 => k (AV.tup [v, v_4]) (mkH [some (propO s'), some (HObj.cells (actC a) 57 false), some (HObj.cells (beginC b) 8 false)])) (Ans.err 84 0 0)) (ieq n (Int.ofNat 0)) := by kernel_rfl

theorem actN (s : PS) (a : AS) (b : BS) (k : AV → H → Ans) :
    bodyF Try.prog (execH Try.prog (mkO [(18, orcErr), (19, orcErr), (21, orcLoc [.fz (ints a.lots) a.lots.length] 3 [] (.tup [.nilp, .int .i64 (.ofNat 2)]) [] []), (22, orcErr)]) [⟨7, 1007, exErr⟩] 1000) (Pos.ofNat 7) [] [] [.ptr (.ofNat 0) 0, .agg (actC a), .agg (beginC b)] (mkH [some (propO s)]) k
    = fInt a.kind fun n => brec (brec (brec (brec (k (AV.tup [AV.nils, AV.nils]) (mkH [some (propO s), some (HObj.cells (actC a) 57 false), some (HObj.cells (beginC b) 8 false)])) (guardK ([AV.fz (ints a.lots) (List.length a.lots)] = [AV.fz (ints a.lots) (List.length a.lots)] ∧ Pos.ofNat 3 = Pos.ofNat 3 ∧ True) (k (AV.tup [AV.nils, AV.nils]) (mkH [some (propO s), some (HObj.cells (actC a) 57 false), some (HObj.cells (beginC b) 8 false)])) (Ans.err 78 0 0)) (ieq n (Int.ofNat 3))) (Ans.err 79 0 0) (ieq n (Int.ofNat 2))) (Ans.err 79 0 0) (ieq n (Int.ofNat 1))) (Ans.err 77 0 0) (ieq n (Int.ofNat 0)) := by kernel_rfl

theorem actT (s s' : PS) (a : AS) (b : BS) (lo o : HObj) (V W : AV) (k : AV → H → Ans) :
    bodyF Try.prog (execH Try.prog (mkO [(18, orcErr), (19, orcErr), (21, orcLoc [.fz (ints a.lots) a.lots.length] 3 [] (.tup [.ptr (.ofNat 3) 0, .int .i64 (.ofNat 0)]) [] [some lo]), (22, orcLoc [.ptr (.ofNat 0) 0, .ptr (.ofNat 3) 0, .agg (voteC a.v)] 4 [(0, propO s), (3, lo)] (.tup [V, W]) [(0, some (propO s')), (3, some o)] [])]) [⟨7, 1007, exErr⟩] 1000) (Pos.ofNat 7) [] [] [.ptr (.ofNat 0) 0, .agg (actC a), .agg (beginC b)] (mkH [some (propO s)]) k
    = fInt a.kind fun n => brec (brec (brec (brec (k (AV.tup [AV.nils, AV.nils]) (mkH [some (propO s), some (HObj.cells (actC a) 57 false), some (HObj.cells (beginC b) 8 false)])) (guardK ([AV.fz (ints a.lots) (List.length a.lots)] = [AV.fz (ints a.lots) (List.length a.lots)] ∧ Pos.ofNat 3 = Pos.ofNat 3 ∧ True) (guardK ([AV.ptr (.ofNat 0) 0, AV.ptr (.ofNat 3) 0, AV.agg [AV.int .i64 (VS.set a.4), AV.int .i64 (VS.p1 a.4), AV.int .i64 (VS.p2 a.4), AV.int .i64 (VS.a1 a.4), AV.int .i64 (VS.a2 a.4), AV.fz (u8s (VS.data a.4)) (List.length (VS.data a.4))]] = [AV.ptr (.ofNat 0) 0, AV.ptr (.ofNat 3) 0, AV.agg (voteC a.v)] ∧ Pos.ofNat 4 = Pos.ofNat 4 ∧ some (propO s) = some (HObj.cells (propC s) 84 false) ∧ some lo = some lo ∧ True) (fAVF V fun v => fAVF W fun v_1 => fAVF v fun v => fAVF v_1 fun v_2 => k (AV.tup [v, v_2]) (mkH [some (propO s'), some (HObj.cells (actC a) 57 false), some (HObj.cells (beginC b) 8 false), some o])) (Ans.err 78 0 0)) (Ans.err 78 0 0)) (ieq n (Int.ofNat 3))) (Ans.err 79 0 0) (ieq n (Int.ofNat 2))) (Ans.err 79 0 0) (ieq n (Int.ofNat 1))) (Ans.err 77 0 0) (ieq n (Int.ofNat 0)) := by kernel_rfl

noncomputable def fx7 : Fx := ⟨none, 7, 58⟩

noncomputable def r7 : Code := subC [1,0,1,1,1,1,1,0,0] (bodyC Try.f7)

noncomputable def L7 (s : PS) (a : AS) (b : BS) : HL := [some (propO s), some (.cells (actC a) 57 false), some (.cells (beginC b) 8 false)]

theorem actB (s s' : PS) (a : AS) (b : BS) (y : List AV) (V W : AV) (k : AExit → List AV → H → Ans) :
    execH Try.prog (mkO [(18, orcErr), (19, orcObj [.ptr (.ofNat 0) 0, .agg y, .agg (voteC a.v)] 0 (propO s) (propO s') (.tup [V, W])), (21, orcErr), (22, orcErr)]) [] 1000 fx7 r7 (mkTm [(0, .ptr (.ofNat 0) 0), (4, .ptr (.ofNat 1) 0), (5, .ptr (.ofNat 2) 0)]) (mkH (L7 s a b)) [] (pickK [6, 7] [] [] k)
    = fInt (Int.ofNat s.nodes) fun n => brec (boolK (boolK (ieq (VS.set a.4) (VS.set a.4)) (boolK (ieq (VS.p1 a.4) (VS.p1 a.4)) (boolK (ieq (VS.p2 a.4) (VS.p2 a.4)) (boolK (ieq (VS.a1 a.4) (VS.a1 a.4)) (boolK (ieq (VS.a2 a.4) (VS.a2 a.4)) (boolK (same2F (AV.fz (u8s (VS.data a.4)) (List.length (VS.data a.4))) (AV.fz (u8s (VS.data a.4)) (List.length (VS.data a.4)))) true false) false) false) false) false) false) (boolK (boolK (ieq b.set b.set) (boolK (ieq b.me b.me) (boolK (ieq b.nodes b.nodes) (boolK (ieq b.c1 b.c1) (boolK (ieq b.c2 b.c2) (boolK (ieq b.c3 b.c3) (boolK (same2F (AV.fz (u8s b.data) (List.length b.data)) (AV.fz (u8s b.data) (List.length b.data))) (boolK (ieq b.retry b.retry) true false) false) false) false) false) false) false) false) (boolK (boolK (ieq a.kind a.kind) (boolK (ieq (NS.kind a.2) (NS.kind a.2)) (boolK (ieq (NS.frm a.2) (NS.frm a.2)) (boolK (ieq (NS.to a.2) (NS.to a.2)) (boolK (ieq (NS.c1 a.2) (NS.c1 a.2)) (boolK (ieq (NS.c2 a.2) (NS.c2 a.2)) (boolK (ieq (NS.c3 a.2) (NS.c3 a.2)) (boolK (ieq (NS.set a.2) (NS.set a.2)) (boolK (ieq (NS.home a.2) (NS.home a.2)) (boolK (ieq (NS.b1 a.2) (NS.b1 a.2)) (boolK (ieq (NS.b2 a.2) (NS.b2 a.2)) (boolK (ieq (NS.o1 a.2) (NS.o1 a.2)) (boolK (ieq (NS.o2 a.2) (NS.o2 a.2)) (boolK (boolK (NS.yes a.2) (NS.yes a.2) (boolK (NS.yes a.2) false true)) (boolK (ieq (NS.id a.2 0) (NS.id a.2 0)) (boolK (ieq (NS.id a.2 1) (NS.id a.2 1)) (boolK (ieq (NS.id a.2 2) (NS.id a.2 2)) (boolK (ieq (NS.id a.2 3) (NS.id a.2 3)) (boolK (ieq (NS.id a.2 4) (NS.id a.2 4)) (boolK (ieq (NS.id a.2 5) (NS.id a.2 5)) (boolK (ieq (NS.id a.2 6) (NS.id a.2 6)) (boolK (ieq (NS.id a.2 7) (NS.id a.2 7)) (boolK (ieq (NS.id a.2 8) (NS.id a.2 8)) (boolK (ieq (NS.id a.2 9) (NS.id a.2 9)) (boolK (ieq (NS.id a.2 10) (NS.id a.2 10)) (boolK (ieq (NS.id a.2 11) (NS.id a.2 11)) (boolK (ieq (NS.id a.2 12) (NS.id a.2 12)) (boolK (ieq (NS.id a.2 13) (NS.id a.2 13)) (boolK (ieq (NS.id a.2 14) (NS.id a.2 14)) (boolK (ieq (NS.id a.2 15) (NS.id a.2 15)) (boolK (ieq (NS.id a.2 16) (NS.id a.2 16)) (boolK (ieq (NS.id a.2 17) (NS.id a.2 17)) (boolK (ieq (NS.id a.2 18) (NS.id a.2 18)) (boolK (ieq (NS.id a.2 19) (NS.id a.2 19)) (boolK (ieq (NS.id a.2 20) (NS.id a.2 20)) (boolK (ieq (NS.id a.2 21) (NS.id a.2 21)) (boolK (ieq (NS.id a.2 22) (NS.id a.2 22)) (boolK (ieq (NS.id a.2 23) (NS.id a.2 23)) (boolK (ieq (NS.id a.2 24) (NS.id a.2 24)) (boolK (ieq (NS.id a.2 25) (NS.id a.2 25)) (boolK (ieq (NS.id a.2 26) (NS.id a.2 26)) (boolK (ieq (NS.id a.2 27) (NS.id a.2 27)) (boolK (ieq (NS.id a.2 28) (NS.id a.2 28)) (boolK (ieq (NS.id a.2 29) (NS.id a.2 29)) (boolK (ieq (NS.id a.2 30) (NS.id a.2 30)) (boolK (ieq (NS.id a.2 31) (NS.id a.2 31)) (boolK (same2F (AV.fz (u8s (NS.data a.2)) (List.length (NS.data a.2))) (AV.fz (u8s (NS.data a.2)) (List.length (NS.data a.2)))) (boolK (same2F (AV.fz (NS.ids a.2) (NS.idn a.2)) (AV.fz (NS.ids a.2) (NS.idn a.2))) (boolK (same2F (AV.fz (NS.wl a.2) (NS.wn a.2)) (AV.fz (NS.wl a.2) (NS.wn a.2))) (boolK (boolK a.mine a.mine (boolK a.mine false true)) (boolK (ieq (VS.set a.4) (VS.set a.4)) (boolK (ieq (VS.p1 a.4) (VS.p1 a.4)) (boolK (ieq (VS.p2 a.4) (VS.p2 a.4)) (boolK (ieq (VS.a1 a.4) (VS.a1 a.4)) (boolK (ieq (VS.a2 a.4) (VS.a2 a.4)) (boolK (same2F (AV.fz (u8s (VS.data a.4)) (List.length (VS.data a.4))) (AV.fz (u8s (VS.data a.4)) (List.length (VS.data a.4)))) (boolK (same2F (AV.fz (ints a.lots) (List.length a.lots)) (AV.fz (ints a.lots) (List.length a.lots))) true false) false) false) false) false) false) false) false) false) false) false) false) false) false) false) false) false) false) false) false) false) false) false) false) false) false) false) false) false) false) false) false) false) false) false) false) false) false) false) false) false) false) false) false) false) false) false) false) false) false) false) false) false) false) false) false) false) (brec (boolK (boolK (ieq (VS.set a.4) (VS.set a.4)) (boolK (ieq (VS.p1 a.4) (VS.p1 a.4)) (boolK (ieq (VS.p2 a.4) (VS.p2 a.4)) (boolK (ieq (VS.a1 a.4) (VS.a1 a.4)) (boolK (ieq (VS.a2 a.4) (VS.a2 a.4)) (boolK (same2F (AV.fz (u8s (VS.data a.4)) (List.length (VS.data a.4))) (AV.fz (u8s (VS.data a.4)) (List.length (VS.data a.4)))) true false) false) false) false) false) false) (guardK ([AV.ptr (.ofNat 0) 0, AV.agg (AV.int .i64 (NS.kind a.2) :: AV.int .i64 (NS.frm a.2) :: AV.int .i64 (NS.to a.2) :: AV.int .i64 (NS.c1 a.2) :: AV.int .i64 (NS.c2 a.2) :: AV.int .i64 (NS.c3 a.2) :: AV.int .i64 (NS.set a.2) :: AV.int .i64 (NS.home a.2) :: AV.int .i64 (NS.b1 a.2) :: AV.int .i64 (NS.b2 a.2) :: AV.int .i64 (NS.o1 a.2) :: AV.int .i64 (NS.o2 a.2) :: AV.bool (NS.yes a.2) :: idl (NS.id a.2) 32 0 [AV.fz (u8s (NS.data a.2)) (List.length (NS.data a.2)), AV.fz (NS.ids a.2) (NS.idn a.2), AV.fz (NS.wl a.2) (NS.wn a.2)]), AV.agg [AV.int .i64 (VS.set a.4), AV.int .i64 (VS.p1 a.4), AV.int .i64 (VS.p2 a.4), AV.int .i64 (VS.a1 a.4), AV.int .i64 (VS.a2 a.4), AV.fz (u8s (VS.data a.4)) (List.length (VS.data a.4))]] = [AV.ptr (.ofNat 0) 0, AV.agg y, AV.agg (voteC a.v)] ∧ some (propO s) = some (propO s)) (fAVF V fun v => fAVF W fun v_1 => fAVF v fun v => fAVF v_1 fun v_2 => k AExit.normal [v, v_2] (mkH [some (propO s'), some (HObj.cells (actC a) 57 false), some (HObj.cells (beginC b) 8 false), some (HObj.cells [AV.int .i64 s.b1, AV.int .i64 s.b2] 2 false), some (HObj.cells (actC a) 57 false), some (HObj.cells (beginC b) 8 false), some (HObj.cells [AV.int .i64 s.b1, AV.int .i64 s.b2] 2 false), some (HObj.cells (AV.int .i64 (NS.kind a.2) :: AV.int .i64 (NS.frm a.2) :: AV.int .i64 (NS.to a.2) :: AV.int .i64 (NS.c1 a.2) :: AV.int .i64 (NS.c2 a.2) :: AV.int .i64 (NS.c3 a.2) :: AV.int .i64 (NS.set a.2) :: AV.int .i64 (NS.home a.2) :: AV.int .i64 (NS.b1 a.2) :: AV.int .i64 (NS.b2 a.2) :: AV.int .i64 (NS.o1 a.2) :: AV.int .i64 (NS.o2 a.2) :: AV.bool (NS.yes a.2) :: idl (NS.id a.2) 32 0 [AV.fz (u8s (NS.data a.2)) (List.length (NS.data a.2)), AV.fz (NS.ids a.2) (NS.idn a.2), AV.fz (NS.wl a.2) (NS.wn a.2)]) 48 false), some (HObj.cells (AV.int .i64 (NS.kind a.2) :: AV.int .i64 (NS.frm a.2) :: AV.int .i64 (NS.to a.2) :: AV.int .i64 (NS.c1 a.2) :: AV.int .i64 (NS.c2 a.2) :: AV.int .i64 (NS.c3 a.2) :: AV.int .i64 (NS.set a.2) :: AV.int .i64 (NS.home a.2) :: AV.int .i64 (NS.b1 a.2) :: AV.int .i64 (NS.b2 a.2) :: AV.int .i64 (NS.o1 a.2) :: AV.int .i64 (NS.o2 a.2) :: AV.bool (NS.yes a.2) :: idl (NS.id a.2) 32 0 [AV.fz (u8s (NS.data a.2)) (List.length (NS.data a.2)), AV.fz (NS.ids a.2) (NS.idn a.2), AV.fz (NS.wl a.2) (NS.wn a.2)]) 48 false)])) (Ans.err 84 0 0)) (Ans.err 7 8 3000)) (fInt b.set fun n => fInt n fun n_1 => fInt b.me fun n_2 => fInt n_2 fun n_3 => boolK (boolK (ieq s.b1 s.b1) (boolK (ieq s.b2 s.b2) true false) false) (boolK (ieq b.me n_2) (boolK (ieq b.set n) (boolK (boolK (ieq s.b1 s.b1) (boolK (ieq s.b2 s.b2) true false) false) (boolK (ieq b.me n_2) (boolK (boolK (ieq s.b1 s.b1) (boolK (ieq s.b2 s.b2) true false) false) (boolK (boolK (ieq (VS.set a.4) (VS.set a.4)) (boolK (ieq (VS.p1 a.4) (VS.p1 a.4)) (boolK (ieq (VS.p2 a.4) (VS.p2 a.4)) (boolK (ieq (VS.a1 a.4) (VS.a1 a.4)) (boolK (ieq (VS.a2 a.4) (VS.a2 a.4)) (boolK (same2F (AV.fz (u8s (VS.data a.4)) (List.length (VS.data a.4))) (AV.fz (u8s (VS.data a.4)) (List.length (VS.data a.4)))) true false) false) false) false) false) false) (guardK ([AV.ptr (.ofNat 0) 0, AV.agg (AV.int .i64 (NS.kind a.2) :: AV.int .i64 (NS.frm a.2) :: AV.int .i64 n_3 :: AV.int .i64 b.c1 :: AV.int .i64 b.c2 :: AV.int .i64 b.c3 :: AV.int .i64 n_1 :: AV.int .i64 (NS.home a.2) :: AV.int .i64 s.b1 :: AV.int .i64 s.b2 :: AV.int .i64 (NS.o1 a.2) :: AV.int .i64 (NS.o2 a.2) :: AV.bool (NS.yes a.2) :: idl (NS.id a.2) 32 0 [AV.fz (u8s (NS.data a.2)) (List.length (NS.data a.2)), AV.fz (NS.ids a.2) (NS.idn a.2), AV.fz (NS.wl a.2) (NS.wn a.2)]), AV.agg [AV.int .i64 (VS.set a.4), AV.int .i64 (VS.p1 a.4), AV.int .i64 (VS.p2 a.4), AV.int .i64 (VS.a1 a.4), AV.int .i64 (VS.a2 a.4), AV.fz (u8s (VS.data a.4)) (List.length (VS.data a.4))]] = [AV.ptr (.ofNat 0) 0, AV.agg y, AV.agg (voteC a.v)] ∧ some (propO s) = some (propO s)) (fAVF V fun v => fAVF W fun v_1 => fAVF v fun v => fAVF v_1 fun v_2 => k AExit.normal [v, v_2] (mkH [some (propO s'), some (HObj.cells (actC a) 57 false), some (HObj.cells (beginC b) 8 false), some (HObj.cells [AV.int .i64 s.b1, AV.int .i64 s.b2] 2 false), some (HObj.cells (actC a) 57 false), some (HObj.cells (beginC b) 8 false), some (HObj.cells [AV.int .i64 s.b1, AV.int .i64 s.b2] 2 false), some (HObj.cells (AV.int .i64 (NS.kind a.2) :: AV.int .i64 (NS.frm a.2) :: AV.int .i64 n_3 :: AV.int .i64 b.c1 :: AV.int .i64 b.c2 :: AV.int .i64 b.c3 :: AV.int .i64 n_1 :: AV.int .i64 (NS.home a.2) :: AV.int .i64 s.b1 :: AV.int .i64 s.b2 :: AV.int .i64 (NS.o1 a.2) :: AV.int .i64 (NS.o2 a.2) :: AV.bool (NS.yes a.2) :: idl (NS.id a.2) 32 0 [AV.fz (u8s (NS.data a.2)) (List.length (NS.data a.2)), AV.fz (NS.ids a.2) (NS.idn a.2), AV.fz (NS.wl a.2) (NS.wn a.2)]) 48 false), some (HObj.cells (AV.int .i64 (NS.kind a.2) :: AV.int .i64 (NS.frm a.2) :: AV.int .i64 n_3 :: AV.int .i64 b.c1 :: AV.int .i64 b.c2 :: AV.int .i64 b.c3 :: AV.int .i64 n_1 :: AV.int .i64 (NS.home a.2) :: AV.int .i64 s.b1 :: AV.int .i64 s.b2 :: AV.int .i64 (NS.o1 a.2) :: AV.int .i64 (NS.o2 a.2) :: AV.bool (NS.yes a.2) :: idl (NS.id a.2) 32 0 [AV.fz (u8s (NS.data a.2)) (List.length (NS.data a.2)), AV.fz (NS.ids a.2) (NS.idn a.2), AV.fz (NS.wl a.2) (NS.wn a.2)]) 48 false)])) (Ans.err 84 0 0)) (Ans.err 7 8 3000)) (Ans.err 20 14 3000)) (Ans.err 20 12 3000)) (Ans.err 20 12 3000)) (Ans.err 20 10 3000)) (Ans.err 20 10 3000)) (Ans.err 20 10 3000)) a.mine) (Ans.err 7 5 3000)) (Ans.err 7 5 3000)) (Ans.err 7 5 3000)) (boolK (boolK (ieq (VS.set a.4) (VS.set a.4)) (boolK (ieq (VS.p1 a.4) (VS.p1 a.4)) (boolK (ieq (VS.p2 a.4) (VS.p2 a.4)) (boolK (ieq (VS.a1 a.4) (VS.a1 a.4)) (boolK (ieq (VS.a2 a.4) (VS.a2 a.4)) (boolK (same2F (AV.fz (u8s (VS.data a.4)) (List.length (VS.data a.4))) (AV.fz (u8s (VS.data a.4)) (List.length (VS.data a.4)))) true false) false) false) false) false) false) (boolK (boolK (ieq b.set b.set) (boolK (ieq b.me b.me) (boolK (ieq b.nodes b.nodes) (boolK (ieq b.c1 b.c1) (boolK (ieq b.c2 b.c2) (boolK (ieq b.c3 b.c3) (boolK (same2F (AV.fz (u8s b.data) (List.length b.data)) (AV.fz (u8s b.data) (List.length b.data))) (boolK (ieq b.retry b.retry) true false) false) false) false) false) false) false) false) (boolK (boolK (ieq a.kind a.kind) (boolK (ieq (NS.kind a.2) (NS.kind a.2)) (boolK (ieq (NS.frm a.2) (NS.frm a.2)) (boolK (ieq (NS.to a.2) (NS.to a.2)) (boolK (ieq (NS.c1 a.2) (NS.c1 a.2)) (boolK (ieq (NS.c2 a.2) (NS.c2 a.2)) (boolK (ieq (NS.c3 a.2) (NS.c3 a.2)) (boolK (ieq (NS.set a.2) (NS.set a.2)) (boolK (ieq (NS.home a.2) (NS.home a.2)) (boolK (ieq (NS.b1 a.2) (NS.b1 a.2)) (boolK (ieq (NS.b2 a.2) (NS.b2 a.2)) (boolK (ieq (NS.o1 a.2) (NS.o1 a.2)) (boolK (ieq (NS.o2 a.2) (NS.o2 a.2)) (boolK (boolK (NS.yes a.2) (NS.yes a.2) (boolK (NS.yes a.2) false true)) (boolK (ieq (NS.id a.2 0) (NS.id a.2 0)) (boolK (ieq (NS.id a.2 1) (NS.id a.2 1)) (boolK (ieq (NS.id a.2 2) (NS.id a.2 2)) (boolK (ieq (NS.id a.2 3) (NS.id a.2 3)) (boolK (ieq (NS.id a.2 4) (NS.id a.2 4)) (boolK (ieq (NS.id a.2 5) (NS.id a.2 5)) (boolK (ieq (NS.id a.2 6) (NS.id a.2 6)) (boolK (ieq (NS.id a.2 7) (NS.id a.2 7)) (boolK (ieq (NS.id a.2 8) (NS.id a.2 8)) (boolK (ieq (NS.id a.2 9) (NS.id a.2 9)) (boolK (ieq (NS.id a.2 10) (NS.id a.2 10)) (boolK (ieq (NS.id a.2 11) (NS.id a.2 11)) (boolK (ieq (NS.id a.2 12) (NS.id a.2 12)) (boolK (ieq (NS.id a.2 13) (NS.id a.2 13)) (boolK (ieq (NS.id a.2 14) (NS.id a.2 14)) (boolK (ieq (NS.id a.2 15) (NS.id a.2 15)) (boolK (ieq (NS.id a.2 16) (NS.id a.2 16)) (boolK (ieq (NS.id a.2 17) (NS.id a.2 17)) (boolK (ieq (NS.id a.2 18) (NS.id a.2 18)) (boolK (ieq (NS.id a.2 19) (NS.id a.2 19)) (boolK (ieq (NS.id a.2 20) (NS.id a.2 20)) (boolK (ieq (NS.id a.2 21) (NS.id a.2 21)) (boolK (ieq (NS.id a.2 22) (NS.id a.2 22)) (boolK (ieq (NS.id a.2 23) (NS.id a.2 23)) (boolK (ieq (NS.id a.2 24) (NS.id a.2 24)) (boolK (ieq (NS.id a.2 25) (NS.id a.2 25)) (boolK (ieq (NS.id a.2 26) (NS.id a.2 26)) (boolK (ieq (NS.id a.2 27) (NS.id a.2 27)) (boolK (ieq (NS.id a.2 28) (NS.id a.2 28)) (boolK (ieq (NS.id a.2 29) (NS.id a.2 29)) (boolK (ieq (NS.id a.2 30) (NS.id a.2 30)) (boolK (ieq (NS.id a.2 31) (NS.id a.2 31)) (boolK (same2F (AV.fz (u8s (NS.data a.2)) (List.length (NS.data a.2))) (AV.fz (u8s (NS.data a.2)) (List.length (NS.data a.2)))) (boolK (same2F (AV.fz (NS.ids a.2) (NS.idn a.2)) (AV.fz (NS.ids a.2) (NS.idn a.2))) (boolK (same2F (AV.fz (NS.wl a.2) (NS.wn a.2)) (AV.fz (NS.wl a.2) (NS.wn a.2))) (boolK (boolK a.mine a.mine (boolK a.mine false true)) (boolK (ieq (VS.set a.4) (VS.set a.4)) (boolK (ieq (VS.p1 a.4) (VS.p1 a.4)) (boolK (ieq (VS.p2 a.4) (VS.p2 a.4)) (boolK (ieq (VS.a1 a.4) (VS.a1 a.4)) (boolK (ieq (VS.a2 a.4) (VS.a2 a.4)) (boolK (same2F (AV.fz (u8s (VS.data a.4)) (List.length (VS.data a.4))) (AV.fz (u8s (VS.data a.4)) (List.length (VS.data a.4)))) (boolK (same2F (AV.fz (ints a.lots) (List.length a.lots)) (AV.fz (ints a.lots) (List.length a.lots))) true false) false) false) false) false) false) false) false) false) false) false) false) false) false) false) false) false) false) false) false) false) false) false) false) false) false) false) false) false) false) false) false) false) false) false) false) false) false) false) false) false) false) false) false) false) false) false) false) false) false) false) false) false) false) false) false) false) (brec (boolK (boolK (ieq (VS.set a.4) (VS.set a.4)) (boolK (ieq (VS.p1 a.4) (VS.p1 a.4)) (boolK (ieq (VS.p2 a.4) (VS.p2 a.4)) (boolK (ieq (VS.a1 a.4) (VS.a1 a.4)) (boolK (ieq (VS.a2 a.4) (VS.a2 a.4)) (boolK (same2F (AV.fz (u8s (VS.data a.4)) (List.length (VS.data a.4))) (AV.fz (u8s (VS.data a.4)) (List.length (VS.data a.4)))) true false) false) false) false) false) false) (guardK ([AV.ptr (.ofNat 0) 0, AV.agg (AV.int .i64 (NS.kind a.2) :: AV.int .i64 (NS.frm a.2) :: AV.int .i64 (NS.to a.2) :: AV.int .i64 (NS.c1 a.2) :: AV.int .i64 (NS.c2 a.2) :: AV.int .i64 (NS.c3 a.2) :: AV.int .i64 (NS.set a.2) :: AV.int .i64 (NS.home a.2) :: AV.int .i64 (NS.b1 a.2) :: AV.int .i64 (NS.b2 a.2) :: AV.int .i64 (NS.o1 a.2) :: AV.int .i64 (NS.o2 a.2) :: AV.bool (NS.yes a.2) :: idl (NS.id a.2) 32 0 [AV.fz (u8s (NS.data a.2)) (List.length (NS.data a.2)), AV.fz (NS.ids a.2) (NS.idn a.2), AV.fz (NS.wl a.2) (NS.wn a.2)]), AV.agg [AV.int .i64 (VS.set a.4), AV.int .i64 (VS.p1 a.4), AV.int .i64 (VS.p2 a.4), AV.int .i64 (VS.a1 a.4), AV.int .i64 (VS.a2 a.4), AV.fz (u8s (VS.data a.4)) (List.length (VS.data a.4))]] = [AV.ptr (.ofNat 0) 0, AV.agg y, AV.agg (voteC a.v)] ∧ some (propO s) = some (propO s)) (fAVF V fun v => fAVF W fun v_1 => fAVF v fun v => fAVF v_1 fun v_2 => k AExit.normal [v, v_2] (mkH [some (propO s'), some (HObj.cells (actC a) 57 false), some (HObj.cells (beginC b) 8 false), some (HObj.cells [AV.int .i64 (Int.ofNat 0), AV.int .i64 (Int.ofNat 0)] 2 false), some (HObj.cells (actC a) 57 false), some (HObj.cells (beginC b) 8 false), some (HObj.cells [AV.int .i64 (Int.ofNat 0), AV.int .i64 (Int.ofNat 0)] 2 false), some (HObj.cells (AV.int .i64 (NS.kind a.2) :: AV.int .i64 (NS.frm a.2) :: AV.int .i64 (NS.to a.2) :: AV.int .i64 (NS.c1 a.2) :: AV.int .i64 (NS.c2 a.2) :: AV.int .i64 (NS.c3 a.2) :: AV.int .i64 (NS.set a.2) :: AV.int .i64 (NS.home a.2) :: AV.int .i64 (NS.b1 a.2) :: AV.int .i64 (NS.b2 a.2) :: AV.int .i64 (NS.o1 a.2) :: AV.int .i64 (NS.o2 a.2) :: AV.bool (NS.yes a.2) :: idl (NS.id a.2) 32 0 [AV.fz (u8s (NS.data a.2)) (List.length (NS.data a.2)), AV.fz (NS.ids a.2) (NS.idn a.2), AV.fz (NS.wl a.2) (NS.wn a.2)]) 48 false), some (HObj.cells (AV.int .i64 (NS.kind a.2) :: AV.int .i64 (NS.frm a.2) :: AV.int .i64 (NS.to a.2) :: AV.int .i64 (NS.c1 a.2) :: AV.int .i64 (NS.c2 a.2) :: AV.int .i64 (NS.c3 a.2) :: AV.int .i64 (NS.set a.2) :: AV.int .i64 (NS.home a.2) :: AV.int .i64 (NS.b1 a.2) :: AV.int .i64 (NS.b2 a.2) :: AV.int .i64 (NS.o1 a.2) :: AV.int .i64 (NS.o2 a.2) :: AV.bool (NS.yes a.2) :: idl (NS.id a.2) 32 0 [AV.fz (u8s (NS.data a.2)) (List.length (NS.data a.2)), AV.fz (NS.ids a.2) (NS.idn a.2), AV.fz (NS.wl a.2) (NS.wn a.2)]) 48 false)])) (Ans.err 84 0 0)) (Ans.err 7 8 3000)) (fInt b.set fun n => fInt n fun n_1 => fInt b.me fun n_2 => fInt n_2 fun n_3 => boolK (ieq b.me n_2) (boolK (ieq b.set n) (boolK (ieq b.me n_2) (boolK (boolK (ieq (VS.set a.4) (VS.set a.4)) (boolK (ieq (VS.p1 a.4) (VS.p1 a.4)) (boolK (ieq (VS.p2 a.4) (VS.p2 a.4)) (boolK (ieq (VS.a1 a.4) (VS.a1 a.4)) (boolK (ieq (VS.a2 a.4) (VS.a2 a.4)) (boolK (same2F (AV.fz (u8s (VS.data a.4)) (List.length (VS.data a.4))) (AV.fz (u8s (VS.data a.4)) (List.length (VS.data a.4)))) true false) false) false) false) false) false) (guardK ([AV.ptr (.ofNat 0) 0, AV.agg (AV.int .i64 (NS.kind a.2) :: AV.int .i64 (NS.frm a.2) :: AV.int .i64 n_3 :: AV.int .i64 b.c1 :: AV.int .i64 b.c2 :: AV.int .i64 b.c3 :: AV.int .i64 n_1 :: AV.int .i64 (NS.home a.2) :: AV.int .i64 (Int.ofNat 0) :: AV.int .i64 (Int.ofNat 0) :: AV.int .i64 (NS.o1 a.2) :: AV.int .i64 (NS.o2 a.2) :: AV.bool (NS.yes a.2) :: idl (NS.id a.2) 32 0 [AV.fz (u8s (NS.data a.2)) (List.length (NS.data a.2)), AV.fz (NS.ids a.2) (NS.idn a.2), AV.fz (NS.wl a.2) (NS.wn a.2)]), AV.agg [AV.int .i64 (VS.set a.4), AV.int .i64 (VS.p1 a.4), AV.int .i64 (VS.p2 a.4), AV.int .i64 (VS.a1 a.4), AV.int .i64 (VS.a2 a.4), AV.fz (u8s (VS.data a.4)) (List.length (VS.data a.4))]] = [AV.ptr (.ofNat 0) 0, AV.agg y, AV.agg (voteC a.v)] ∧ some (propO s) = some (propO s)) (fAVF V fun v => fAVF W fun v_1 => fAVF v fun v => fAVF v_1 fun v_2 => k AExit.normal [v, v_2] (mkH [some (propO s'), some (HObj.cells (actC a) 57 false), some (HObj.cells (beginC b) 8 false), some (HObj.cells [AV.int .i64 (Int.ofNat 0), AV.int .i64 (Int.ofNat 0)] 2 false), some (HObj.cells (actC a) 57 false), some (HObj.cells (beginC b) 8 false), some (HObj.cells [AV.int .i64 (Int.ofNat 0), AV.int .i64 (Int.ofNat 0)] 2 false), some (HObj.cells (AV.int .i64 (NS.kind a.2) :: AV.int .i64 (NS.frm a.2) :: AV.int .i64 n_3 :: AV.int .i64 b.c1 :: AV.int .i64 b.c2 :: AV.int .i64 b.c3 :: AV.int .i64 n_1 :: AV.int .i64 (NS.home a.2) :: AV.int .i64 (Int.ofNat 0) :: AV.int .i64 (Int.ofNat 0) :: AV.int .i64 (NS.o1 a.2) :: AV.int .i64 (NS.o2 a.2) :: AV.bool (NS.yes a.2) :: idl (NS.id a.2) 32 0 [AV.fz (u8s (NS.data a.2)) (List.length (NS.data a.2)), AV.fz (NS.ids a.2) (NS.idn a.2), AV.fz (NS.wl a.2) (NS.wn a.2)]) 48 false), some (HObj.cells (AV.int .i64 (NS.kind a.2) :: AV.int .i64 (NS.frm a.2) :: AV.int .i64 n_3 :: AV.int .i64 b.c1 :: AV.int .i64 b.c2 :: AV.int .i64 b.c3 :: AV.int .i64 n_1 :: AV.int .i64 (NS.home a.2) :: AV.int .i64 (Int.ofNat 0) :: AV.int .i64 (Int.ofNat 0) :: AV.int .i64 (NS.o1 a.2) :: AV.int .i64 (NS.o2 a.2) :: AV.bool (NS.yes a.2) :: idl (NS.id a.2) 32 0 [AV.fz (u8s (NS.data a.2)) (List.length (NS.data a.2)), AV.fz (NS.ids a.2) (NS.idn a.2), AV.fz (NS.wl a.2) (NS.wn a.2)]) 48 false)])) (Ans.err 84 0 0)) (Ans.err 7 8 3000)) (Ans.err 20 12 3000)) (Ans.err 20 10 3000)) (Ans.err 20 10 3000)) a.mine) (Ans.err 7 5 3000)) (Ans.err 7 5 3000)) (Ans.err 7 5 3000)) (ieq n (Int.ofNat 0)) := by kernel_rfl

theorem actR (s : PS) (a : AS) (b : BS) (F : List AV) (n : Nat) (N : List AV) (m : Nat) (A' : H) (k : AV → H → Ans) :
    bodyF Try.prog (execH Try.prog (mkO [(18, orcErr), (19, orcErr), (21, orcErr), (22, orcErr)]) [⟨7, 1007, exSub fx7 r7 (mkTm [(0, .ptr (.ofNat 0) 0), (4, .ptr (.ofNat 1) 0), (5, .ptr (.ofNat 2) 0)]) (mkH (L7 s a b)) .normal (mkTm [(6, .fz F n), (7, .fz N m)]) A'⟩] 1000) (Pos.ofNat 7) [] [] [.ptr (.ofNat 0) 0, .agg (actC a), .agg (beginC b)] (mkH [some (propO s)]) k
    = fInt a.kind fun n_1 => brec (brec (brec (brec (k (AV.tup [AV.nils, AV.nils]) (mkH [some (propO s), some (HObj.cells (actC a) 57 false), some (HObj.cells (beginC b) 8 false)])) (Ans.err 77 0 0) (ieq n_1 (Int.ofNat 3))) (guardK (fx7 = fx7 ∧ r7 = r7 ∧ Sub0 (mkTm [(0, AV.ptr (.ofNat 0) 0), (4, AV.ptr (.ofNat 1) 0), (5, AV.ptr (.ofNat 2) 0)]) (mkTm [(0, AV.ptr (.ofNat 0) 0), (1, AV.agg (actC a)), (2, AV.agg [AV.int .i64 b.set, AV.int .i64 b.me, AV.int .i64 b.nodes, AV.int .i64 b.c1, AV.int .i64 b.c2, AV.int .i64 b.c3, AV.fz (u8s b.data) (List.length b.data), AV.int .i64 b.retry]), (4, AV.ptr (.ofNat 1) 0), (5, AV.ptr (.ofNat 2) 0), (6, AV.nils), (7, AV.nils), (13, AV.ptr (.ofNat 1) 0), (14, AV.int .i64 n_1), (15, AV.bool false), (16, AV.bool false), (27, AV.bool true), (28, AV.bool false), (29, AV.bool true)]) ∧ mkH [some (propO s), some (HObj.cells (actC a) 57 false), some (HObj.cells (beginC b) 8 false)] = mkH (L7 s a b) ∧ MkNil []) (k (AV.tup [AV.fz F n, AV.fz N m]) A') (Ans.err 0 0 0)) (ieq n_1 (Int.ofNat 2))) (guardK (fx7 = fx7 ∧ r7 = r7 ∧ Sub0 (mkTm [(0, AV.ptr (.ofNat 0) 0), (4, AV.ptr (.ofNat 1) 0), (5, AV.ptr (.ofNat 2) 0)]) (mkTm [(0, AV.ptr (.ofNat 0) 0), (1, AV.agg (actC a)), (2, AV.agg [AV.int .i64 b.set, AV.int .i64 b.me, AV.int .i64 b.nodes, AV.int .i64 b.c1, AV.int .i64 b.c2, AV.int .i64 b.c3, AV.fz (u8s b.data) (List.length b.data), AV.int .i64 b.retry]), (4, AV.ptr (.ofNat 1) 0), (5, AV.ptr (.ofNat 2) 0), (6, AV.nils), (7, AV.nils), (13, AV.ptr (.ofNat 1) 0), (14, AV.int .i64 n_1), (15, AV.bool false), (16, AV.bool false), (27, AV.bool true), (28, AV.bool true)]) ∧ mkH [some (propO s), some (HObj.cells (actC a) 57 false), some (HObj.cells (beginC b) 8 false)] = mkH (L7 s a b) ∧ MkNil []) (k (AV.tup [AV.fz F n, AV.fz N m]) A') (Ans.err 0 0 0)) (ieq n_1 (Int.ofNat 1))) (Ans.err 77 0 0) (ieq n_1 (Int.ofNat 0)) := by kernel_rfl

theorem same2F_fz (l : List AV) (n : Nat) : same2F (.fz l n) (.fz l n) = true := by
  rw [same2F_eq]
  show (ceq l l && Nat.beq n n) = true
  rw [ceq_self, AM.beq_true rfl]; rfl

theorem boolK_bb (b : Bool) : boolK b b (boolK b false true) = true := by cases b <;> rfl

theorem takenX_data (s : PS) (a : AS) (b : BS) : (takenX s a b).data = a.x.data := by unfold takenX; cases a.mine <;> rfl
theorem takenX_kind (s : PS) (a : AS) (b : BS) : (takenX s a b).kind = a.x.kind := by unfold takenX; cases a.mine <;> rfl

theorem take7_okG {s s' : PS} {a : AS} {b : BS} {F : List AV} {n : Nat} {N : List AV} {m : Nat} (h0 : s.nodes ≠ 0) (R : FunOK Try.prog 19 [.ptr (.ofNat 0) 0, .agg (noteX (takenX s a b)), .agg (voteC a.v)] (mkH [some (propO s)]) (.tup [.fz F n, .fz N m]) (mkH [some (propO s')])) :
    ∃ G : HL, CodeOK Try.prog fx7 r7 (mkTm [(0, .ptr (.ofNat 0) 0), (4, .ptr (.ofNat 1) 0), (5, .ptr (.ofNat 2) 0)]) (mkH (L7 s a b)) [] .normal (mkTm ([6, 7].zip [.fz F n, .fz N m])) (mkH (some (propO s') :: G)) [] := by
  have c0 : ieq (Int.ofNat s.nodes) (Int.ofNat 0) = false := ieq_false (by show ¬ ((s.nodes : Int) = 0); omega)
  have g := good_obj (p := 0) (args' := [.ptr (.ofNat 0) 0, .agg (noteX (takenX s a b)), .agg (voteC a.v)]) R (fun σ => prop_ren σ _) (fun σ => prop_ren σ _) (fun _ => rfl) (fun σ hσ => by
    show [AV.ptr (σ Pos.z) 0, (AV.agg (noteX (takenX s a b))).ren σ, (AV.agg (voteC a.v)).ren σ] = _
    rw [hσ]; rfl)
  cases hm : a.mine
  · have hx : takenX s a b = a.x := by unfold takenX; rw [hm]; rfl
    rw [hx] at g
    exact ⟨_, CodeOK.of_pick (A' := mkH (some (propO s') :: _)) hmix (OrOK.cons good_err (OrOK.cons g (OrOK.cons good_err (OrOK.cons good_err .nil)))) .nil (N := 1000) [6, 7] [] [] fun k => (actB s s' a b _ _ _ k).trans (by
      simp only [fInt_eq, c0, ieq_self, same2F_fz, boolK_bb, boolK_true, boolK_false, brec_true, brec_false, hm]
      refine (guardK_pos (by exact ⟨rfl, trivial⟩) _ _).trans ?_
      simp only [fAVF_fz]
      try exact rfl)⟩
  · have hx : takenX s a b = { a.x with c1 := b.c1, c2 := b.c2, c3 := b.c3, set := b.set, to := b.me, b1 := s.b1, b2 := s.b2 } := by unfold takenX; rw [hm]; rfl
    rw [hx] at g
    exact ⟨_, CodeOK.of_pick (A' := mkH (some (propO s') :: _)) hmix (OrOK.cons good_err (OrOK.cons g (OrOK.cons good_err (OrOK.cons good_err .nil)))) .nil (N := 1000) [6, 7] [] [] fun k => (actB s s' a b _ _ _ k).trans (by
      simp only [fInt_eq, c0, ieq_self, same2F_fz, boolK_bb, boolK_true, boolK_false, brec_true, brec_false, hm]
      refine (guardK_pos (by exact ⟨rfl, trivial⟩) _ _).trans ?_
      simp only [fAVF_fz]
      try exact rfl)⟩

theorem take7_ok {s s' : PS} {a : AS} {b : BS} {F : List AV} {n : Nat} {N : List AV} {m : Nat} (h : Inv s) (R : FunOK Try.prog 19 [.ptr (.ofNat 0) 0, .agg (noteX (takenX s a b)), .agg (voteC a.v)] (mkH [some (propO s)]) (.tup [.fz F n, .fz N m]) (mkH [some (propO s')])) :
    ∃ G : HL, CodeOK Try.prog fx7 r7 (mkTm [(0, .ptr (.ofNat 0) 0), (4, .ptr (.ofNat 1) 0), (5, .ptr (.ofNat 2) 0)]) (mkH (L7 s a b)) [] .normal (mkTm ([6, 7].zip [.fz F n, .fz N m])) (mkH (some (propO s') :: G)) [] := take7_okG (by have := h.n1; omega) R

end Pro
