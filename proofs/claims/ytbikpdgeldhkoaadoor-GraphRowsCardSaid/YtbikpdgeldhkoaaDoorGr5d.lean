/-
  The cases, run by the kernel.
-/
import Derived.Test.YtbikpdgeldhkoaaDoorGr4
namespace Go.Proofs.YtbikpdgeldhkoaaDoor.Ir
set_option linter.unusedVariables false
set_option maxRecDepth 100000
open Go Go.Proofs.YtbikpdgeldhkoaaDoor
theorem case_1_0 (r : Nat) (y : Int) : chk (.ofNat 1) y (.ofNat r) [0] = okS (chk (.ofNat 1) y (.ofNat r) [0]) 1 y r := by kernel_rfl
theorem case_8_0 (r : Nat) (y : Int) : chk (.ofNat 8) y (.ofNat r) [0, 1, 2, 3, 4, 5, 6, 7] = okS (chk (.ofNat 8) y (.ofNat r) [0, 1, 2, 3, 4, 5, 6, 7]) 8 y r := by kernel_rfl
theorem case_12_0 (r : Nat) (y : Int) : chk (.ofNat 12) y (.ofNat r) [0, 1, 2, 3, 4, 5, 6, 7, 8, 9, 10, 11] = okS (chk (.ofNat 12) y (.ofNat r) [0, 1, 2, 3, 4, 5, 6, 7, 8, 9, 10, 11]) 12 y r := by kernel_rfl
theorem case_17_0 (r : Nat) (y : Int) : chk (.ofNat 17) y (.ofNat r) [0, 1, 2, 3, 4, 5, 6] = okS (chk (.ofNat 17) y (.ofNat r) [0, 1, 2, 3, 4, 5, 6]) 17 y r := by kernel_rfl
theorem case_17_14 (r : Nat) (y : Int) : chk (.ofNat 17) y (.ofNat r) [14, 15, 16] = okS (chk (.ofNat 17) y (.ofNat r) [14, 15, 16]) 17 y r := by kernel_rfl
theorem case_20_0 (r : Nat) (y : Int) : chk (.ofNat 20) y (.ofNat r) [0, 1, 2, 3, 4] = okS (chk (.ofNat 20) y (.ofNat r) [0, 1, 2, 3, 4]) 20 y r := by kernel_rfl
end Go.Proofs.YtbikpdgeldhkoaaDoor.Ir
