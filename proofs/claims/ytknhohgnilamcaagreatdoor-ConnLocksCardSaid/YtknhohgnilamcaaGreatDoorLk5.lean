/-
  The law's beginning, for every two whole numbers: what is left to run hangs on their remainders alone.
-/
import Derived.Test.YtknhohgnilamcaaGreatDoorLk4
namespace Go.Proofs.YtknhohgnilamcaaGreatDoor.Ir
set_option linter.unusedVariables false
set_option maxRecDepth 100000
open Go Go.Proofs.YtknhohgnilamcaaGreatDoor
noncomputable def bodyI (e : FnE) : IR := match e with | .code _ b _ => b | .spec _ => .skip
noncomputable def resI (e : FnE) : List RV := match e with | .code _ _ r => r | .spec _ => []
noncomputable def fstI (c : IR) : IR := match c with | .seq a _ => a | c => c
noncomputable def sndI (c : IR) : IR := match c with | .seq _ b => b | c => c
noncomputable def c0 : IR := bodyI f3
noncomputable def c1 : IR := sndI c0
noncomputable def c2 : IR := sndI c1
noncomputable def c3 : IR := sndI c2
noncomputable def c4 : IR := sndI c3
noncomputable def c5 : IR := sndI c4
noncomputable def A0 (n m : Int) (t : Bool) : T V := frameOf [.int .i64 n, .int .i64 m, .bool t] .H .nil
noncomputable def A1 (n m : Int) (t : Bool) : T V := T.set (.bool false) p6 (A0 n m t)
noncomputable def A2 (n m : Int) (t : Bool) : T V := T.set (.bool true) p7 (T.set (.bool true) p18 (A1 n m t))
noncomputable def A3 (n m : Int) (t : Bool) : T V := T.set (.bool false) p20 (T.set (.bool true) p19 (A2 n m t))
noncomputable def A4 (n m x : Int) (t : Bool) : T V := T.set (.int .i64 x) p0 (T.set (.int .i64 x) p22 (T.set (.int .i64 n) p21 (A3 n m t)))
noncomputable def A5 (n m x y : Int) (t : Bool) : T V := T.set (.int .i64 (wrapK .i64 (Int.add y (.ofNat 1)))) p1 (T.set (.int .i64 (wrapK .i64 (Int.add y (.ofNat 1)))) p25 (T.set (.int .i64 y) p24 (T.set (.int .i64 m) p23 (A4 n m x t))))
theorem e0 (n m : Int) (t : Bool) : exec machC (runFn machC 299) 299 (fstI c0) (A0 n m t) sg0 = some (.nrm, A1 n m t, sg0) := by kernel_rfl
theorem e1 (n m : Int) (t : Bool) : exec machC (runFn machC 299) 299 (fstI c1) (A1 n m t) sg0 = some (.nrm, A2 n m t, sg0) := by kernel_rfl
theorem e2 (n m : Int) (t : Bool) : exec machC (runFn machC 299) 299 (fstI c2) (A2 n m t) sg0 = some (.nrm, A3 n m t, sg0) := by kernel_rfl
theorem e3 (n m : Int) (t : Bool) : exec machC (runFn machC 299) 299 (fstI c3) (A3 n m t) sg0 = some (.nrm, A4 n m (Int.emod n (.ofNat 20)) t, sg0) := by kernel_rfl
theorem e4 (n m x : Int) (t : Bool) : exec machC (runFn machC 299) 299 (fstI c4) (A4 n m x t) sg0 = some (.nrm, A5 n m x (Int.emod m (.ofNat 20)) t, sg0) := by kernel_rfl
noncomputable def F (n m x y : Int) (t : Bool) : Option (V × St) := finR (resI f3) (execQ machC (runFnQ machC 299) 299 c5 (A5 n m x y t) sg0)
theorem get3 : T.get p3 machC.tab = some (.code 108 c0 (resI f3)) := by kernel_rfl
theorem s_0 : c0 = .seq (fstI c0) c1 := by kernel_rfl
theorem s_1 : c1 = .seq (fstI c1) c2 := by kernel_rfl
theorem s_2 : c2 = .seq (fstI c2) c3 := by kernel_rfl
theorem s_3 : c3 = .seq (fstI c3) c4 := by kernel_rfl
theorem s_4 : c4 = .seq (fstI c4) c5 := by kernel_rfl
theorem law_run (n m : Int) (t : Bool) : runFn machC 300 p3 [.int .i64 n, .int .i64 m, .bool t] sg0 = F n m (Int.emod n (.ofNat 20)) (Int.emod m (.ofNat 20)) t := by
  rw [run_fin get3 (by kernel_rfl)]
  unfold F
  rw [runFnQ_eq, execQ_eq]
  refine congrArg (finR (resI f3)) ?_
  show exec machC (runFn machC 299) 299 c0 (A0 n m t) sg0 = _
  rw [s_0, ex_seq (e0 n m t), s_1, ex_seq (e1 n m t), s_2, ex_seq (e2 n m t), s_3, ex_seq (e3 n m t), s_4, ex_seq (e4 n m _ t)]
noncomputable def upto (n : Nat) : List Nat := Nat.rec (motive := fun _ => List Nat) [] (fun n ih => n :: ih) n
theorem upto_mem {n : Nat} : ∀ {k : Nat}, k < n → k ∈ upto n := by
  induction n with
  | zero => intro k h; omega
  | succ n ih =>
    intro k h
    show k ∈ n :: upto n
    by_cases e : k = n
    · simp [e]
    · exact List.mem_cons_of_mem _ (ih (by omega))
noncomputable def caseOk (n m : Int) (x : Nat) : Bool := lall (fun y => okV (F n m (.ofNat x) (.ofNat y) true) (.bool true) && okV (F n m (.ofNat x) (.ofNat y) false) (.bool true)) (upto 20)
end Go.Proofs.YtknhohgnilamcaaGreatDoor.Ir
