/-
  The cases, run by the kernel.
-/
import Derived.Test.YtbikpdgeldhkoaaDoorGr4
namespace Go.Proofs.YtbikpdgeldhkoaaDoor.Ir
set_option linter.unusedVariables false
set_option maxRecDepth 100000
open Go Go.Proofs.YtbikpdgeldhkoaaDoor
theorem case_7_0 (r : Nat) (y : Int) : chk (.ofNat 7) y (.ofNat r) [0, 1, 2, 3, 4, 5, 6] = okS (chk (.ofNat 7) y (.ofNat r) [0, 1, 2, 3, 4, 5, 6]) 7 y r := by kernel_rfl
theorem case_15_0 (r : Nat) (y : Int) : chk (.ofNat 15) y (.ofNat r) [0, 1, 2, 3, 4, 5, 6, 7, 8] = okS (chk (.ofNat 15) y (.ofNat r) [0, 1, 2, 3, 4, 5, 6, 7, 8]) 15 y r := by kernel_rfl
theorem case_15_9 (r : Nat) (y : Int) : chk (.ofNat 15) y (.ofNat r) [9, 10, 11, 12, 13, 14] = okS (chk (.ofNat 15) y (.ofNat r) [9, 10, 11, 12, 13, 14]) 15 y r := by kernel_rfl
theorem case_18_0 (r : Nat) (y : Int) : chk (.ofNat 18) y (.ofNat r) [0, 1, 2, 3, 4, 5] = okS (chk (.ofNat 18) y (.ofNat r) [0, 1, 2, 3, 4, 5]) 18 y r := by kernel_rfl
theorem case_18_6 (r : Nat) (y : Int) : chk (.ofNat 18) y (.ofNat r) [6, 7, 8, 9, 10, 11] = okS (chk (.ofNat 18) y (.ofNat r) [6, 7, 8, 9, 10, 11]) 18 y r := by kernel_rfl
end Go.Proofs.YtbikpdgeldhkoaaDoor.Ir
