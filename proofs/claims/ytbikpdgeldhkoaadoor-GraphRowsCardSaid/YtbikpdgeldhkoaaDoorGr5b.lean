/-
  The cases, run by the kernel.
-/
import Derived.Test.YtbikpdgeldhkoaaDoorGr4
namespace Go.Proofs.YtbikpdgeldhkoaaDoor.Ir
set_option linter.unusedVariables false
set_option maxRecDepth 100000
open Go Go.Proofs.YtbikpdgeldhkoaaDoor
theorem case_2_0 (r : Nat) (y : Int) : chk (.ofNat 2) y (.ofNat r) [0, 1] = okS (chk (.ofNat 2) y (.ofNat r) [0, 1]) 2 y r := by kernel_rfl
theorem case_10_0 (r : Nat) (y : Int) : chk (.ofNat 10) y (.ofNat r) [0, 1, 2, 3, 4, 5, 6, 7, 8, 9] = okS (chk (.ofNat 10) y (.ofNat r) [0, 1, 2, 3, 4, 5, 6, 7, 8, 9]) 10 y r := by kernel_rfl
theorem case_13_11 (r : Nat) (y : Int) : chk (.ofNat 13) y (.ofNat r) [11, 12] = okS (chk (.ofNat 13) y (.ofNat r) [11, 12]) 13 y r := by kernel_rfl
theorem case_16_0 (r : Nat) (y : Int) : chk (.ofNat 16) y (.ofNat r) [0, 1, 2, 3, 4, 5, 6, 7] = okS (chk (.ofNat 16) y (.ofNat r) [0, 1, 2, 3, 4, 5, 6, 7]) 16 y r := by kernel_rfl
theorem case_19_10 (r : Nat) (y : Int) : chk (.ofNat 19) y (.ofNat r) [10, 11, 12, 13, 14] = okS (chk (.ofNat 19) y (.ofNat r) [10, 11, 12, 13, 14]) 19 y r := by kernel_rfl
theorem case_20_15 (r : Nat) (y : Int) : chk (.ofNat 20) y (.ofNat r) [15, 16, 17, 18, 19] = okS (chk (.ofNat 20) y (.ofNat r) [15, 16, 17, 18, 19]) 20 y r := by kernel_rfl
end Go.Proofs.YtbikpdgeldhkoaaDoor.Ir
