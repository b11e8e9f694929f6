/-
  The cases, run by the kernel.
-/
import Derived.Test.YtbikpdgeldhkoaaDoorGr4
namespace Go.Proofs.YtbikpdgeldhkoaaDoor.Ir
set_option linter.unusedVariables false
set_option maxRecDepth 100000
open Go Go.Proofs.YtbikpdgeldhkoaaDoor
theorem case_9_0 (r : Nat) (y : Int) : chk (.ofNat 9) y (.ofNat r) [0, 1, 2, 3, 4, 5, 6, 7, 8] = okS (chk (.ofNat 9) y (.ofNat r) [0, 1, 2, 3, 4, 5, 6, 7, 8]) 9 y r := by kernel_rfl
theorem case_13_0 (r : Nat) (y : Int) : chk (.ofNat 13) y (.ofNat r) [0, 1, 2, 3, 4, 5, 6, 7, 8, 9, 10] = okS (chk (.ofNat 13) y (.ofNat r) [0, 1, 2, 3, 4, 5, 6, 7, 8, 9, 10]) 13 y r := by kernel_rfl
theorem case_14_10 (r : Nat) (y : Int) : chk (.ofNat 14) y (.ofNat r) [10, 11, 12, 13] = okS (chk (.ofNat 14) y (.ofNat r) [10, 11, 12, 13]) 14 y r := by kernel_rfl
theorem case_18_12 (r : Nat) (y : Int) : chk (.ofNat 18) y (.ofNat r) [12, 13, 14, 15, 16, 17] = okS (chk (.ofNat 18) y (.ofNat r) [12, 13, 14, 15, 16, 17]) 18 y r := by kernel_rfl
theorem case_20_10 (r : Nat) (y : Int) : chk (.ofNat 20) y (.ofNat r) [10, 11, 12, 13, 14] = okS (chk (.ofNat 20) y (.ofNat r) [10, 11, 12, 13, 14]) 20 y r := by kernel_rfl
end Go.Proofs.YtbikpdgeldhkoaaDoor.Ir
