/-
  GraphCuts: the law's beginning, for every whole number; what is left to run hangs on its remainder alone.
-/
import Derived.Test.YtknhohgnilamcaaDoorGc2
namespace Go.Proofs.YtknhohgnilamcaaDoor.Ir
set_option linter.unusedVariables false
set_option maxRecDepth 100000
open Go Go.Proofs.YtknhohgnilamcaaDoor
noncomputable def c0 : IR := bodyI f3
noncomputable def c1 : IR := sndI c0
noncomputable def c2 : IR := sndI c1
noncomputable def c3 : IR := sndI c2
noncomputable def c4 : IR := sndI c3
noncomputable def A0 (n : Int) : T V := frameOf [.int .i64 n] .H .nil
noncomputable def A1 (n : Int) : T V := T.set (.bool false) p2 (A0 n)
noncomputable def A2 (n : Int) : T V := T.set (.bool true) p3 (T.set (.bool true) p11 (A1 n))
noncomputable def A3 (n : Int) : T V := T.set (.bool false) p13 (T.set (.bool true) p12 (A2 n))
noncomputable def A4 (n x : Int) : T V := T.set (.int .i64 (wrapK .i64 (Int.add x (.ofNat 2)))) p0 (T.set (.int .i64 (wrapK .i64 (Int.add x (.ofNat 2)))) p16 (T.set (.int .i64 x) p15 (T.set (.int .i64 n) p14 (A3 n))))
theorem e0 (n : Int) : exec machC (runFn machC 299) 299 (fstI c0) (A0 n) sg0 = some (.nrm, A1 n, sg0) := by kernel_rfl
theorem e1 (n : Int) : exec machC (runFn machC 299) 299 (fstI c1) (A1 n) sg0 = some (.nrm, A2 n, sg0) := by kernel_rfl
theorem e2 (n : Int) : exec machC (runFn machC 299) 299 (fstI c2) (A2 n) sg0 = some (.nrm, A3 n, sg0) := by kernel_rfl
theorem e3 (n : Int) : exec machC (runFn machC 299) 299 (fstI c3) (A3 n) sg0 = some (.nrm, A4 n (Int.emod n (.ofNat 10)), sg0) := by kernel_rfl
noncomputable def F (n x : Int) : Option (V × St) := finR (resI f3) (execQ machC (runFnQ machC 299) 299 c4 (A4 n x) sg0)
theorem get3 : T.get p3 machC.tab = some (.code 114 c0 (resI f3)) := by kernel_rfl
theorem s_0 : c0 = .seq (fstI c0) c1 := by kernel_rfl
theorem s_1 : c1 = .seq (fstI c1) c2 := by kernel_rfl
theorem s_2 : c2 = .seq (fstI c2) c3 := by kernel_rfl
theorem s_3 : c3 = .seq (fstI c3) c4 := by kernel_rfl
theorem law_run (n : Int) : runFn machC 300 p3 [.int .i64 n] sg0 = F n (Int.emod n (.ofNat 10)) := by
  rw [run_fin get3 (by kernel_rfl)]
  unfold F
  rw [runFnQ_eq, execQ_eq]
  refine congrArg (finR (resI f3)) ?_
  show exec machC (runFn machC 299) 299 c0 (A0 n) sg0 = _
  rw [s_0, ex_seq (e0 n), s_1, ex_seq (e1 n), s_2, ex_seq (e2 n), s_3, ex_seq (e3 n)]
end Go.Proofs.YtknhohgnilamcaaDoor.Ir
