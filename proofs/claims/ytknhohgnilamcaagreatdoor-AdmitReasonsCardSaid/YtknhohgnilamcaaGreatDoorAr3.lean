/-
  AdmitReasons: the law's beginning, for every two whole numbers; what is left to run hangs on the first one's remainder (and the second one is never looked at).
-/
import Derived.Test.YtknhohgnilamcaaGreatDoorAr2
namespace Go.Proofs.YtknhohgnilamcaaGreatDoor.Ir
set_option linter.unusedVariables false
set_option maxRecDepth 100000
open Go Go.Proofs.YtknhohgnilamcaaGreatDoor
noncomputable def c0 : IR := bodyI f7
noncomputable def c1 : IR := sndI c0
noncomputable def c2 : IR := sndI c1
noncomputable def c3 : IR := sndI c2
noncomputable def c4 : IR := sndI c3
noncomputable def c5 : IR := sndI c4
noncomputable def qA (r : Option (XE × T V × St)) : T V := match r with | some (_, A, _) => A | none => .nil
noncomputable def qS (r : Option (XE × T V × St)) : St := match r with | some (_, _, σ) => σ | none => ⟨.nil, .H⟩
noncomputable def A0 (n m : Int) : T V := frameOf [.int .i64 n, .int .i64 m] .H .nil
noncomputable def A1 (n m : Int) : T V := T.set (.bool false) p4 (A0 n m)
noncomputable def A2 (n m : Int) : T V := T.set (.bool true) p5 (T.set (.bool true) p11 (A1 n m))
noncomputable def A3 (n m : Int) : T V := T.set (.bool false) p13 (T.set (.bool true) p12 (A2 n m))
noncomputable def r3 (n m : Int) : Option (XE × T V × St) := exec machC (runFn machC 299) 299 (fstI c3) (A3 n m) sg0
noncomputable def A5 (n m x : Int) : T V := T.set (.int .i64 x) p0 (T.set (.int .i64 x) p18 (T.set (.int .i64 (.ofNat 25)) p17 (T.set (ev (qA (r3 n m)) s6) p16 (T.set (.int .i64 n) p15 (qA (r3 n m))))))
theorem e0 (n m : Int) : exec machC (runFn machC 299) 299 (fstI c0) (A0 n m) sg0 = some (.nrm, A1 n m, sg0) := by kernel_rfl
theorem e1 (n m : Int) : exec machC (runFn machC 299) 299 (fstI c1) (A1 n m) sg0 = some (.nrm, A2 n m, sg0) := by kernel_rfl
theorem e2 (n m : Int) : exec machC (runFn machC 299) 299 (fstI c2) (A2 n m) sg0 = some (.nrm, A3 n m, sg0) := by kernel_rfl
theorem e3 (n m : Int) : exec machC (runFn machC 299) 299 (fstI c3) (A3 n m) sg0 = some (.nrm, qA (r3 n m), qS (r3 n m)) := by kernel_rfl
theorem e4 (n m : Int) : exec machC (runFn machC 299) 299 (fstI c4) (qA (r3 n m)) (qS (r3 n m)) = some (.nrm, A5 n m (Int.emod n (.ofNat 25)), qS (r3 n m)) := by kernel_rfl
noncomputable def F (n m x : Int) : Option (V × St) := finR (resI f7) (execQ machC (runFnQ machC 299) 299 c5 (A5 n m x) (qS (r3 n m)))
theorem get7 : T.get p7 machC.tab = some (.code 68 c0 (resI f7)) := by kernel_rfl
theorem s_0 : c0 = .seq (fstI c0) c1 := by kernel_rfl
theorem s_1 : c1 = .seq (fstI c1) c2 := by kernel_rfl
theorem s_2 : c2 = .seq (fstI c2) c3 := by kernel_rfl
theorem s_3 : c3 = .seq (fstI c3) c4 := by kernel_rfl
theorem s_4 : c4 = .seq (fstI c4) c5 := by kernel_rfl
theorem law_run (n m : Int) : runFn machC 300 p7 [.int .i64 n, .int .i64 m] sg0 = F n m (Int.emod n (.ofNat 25)) := by
  rw [run_fin get7 (by kernel_rfl)]
  unfold F
  rw [runFnQ_eq, execQ_eq]
  refine congrArg (finR (resI f7)) ?_
  show exec machC (runFn machC 299) 299 c0 (A0 n m) sg0 = _
  rw [s_0, ex_seq (e0 n m), s_1, ex_seq (e1 n m), s_2, ex_seq (e2 n m), s_3, ex_seq (e3 n m), s_4, ex_seq (e4 n m)]
end Go.Proofs.YtknhohgnilamcaaGreatDoor.Ir
