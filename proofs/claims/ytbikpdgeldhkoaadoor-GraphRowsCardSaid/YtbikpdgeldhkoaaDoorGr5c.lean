/-
  The cases, run by the kernel.
-/
import Derived.Test.YtbikpdgeldhkoaaDoorGr4
namespace Go.Proofs.YtbikpdgeldhkoaaDoor.Ir
set_option linter.unusedVariables false
set_option maxRecDepth 100000
open Go Go.Proofs.YtbikpdgeldhkoaaDoor
theorem case_3_0 (r : Nat) (y : Int) : chk (.ofNat 3) y (.ofNat r) [0, 1, 2] = okS (chk (.ofNat 3) y (.ofNat r) [0, 1, 2]) 3 y r := by kernel_rfl
theorem case_6_0 (r : Nat) (y : Int) : chk (.ofNat 6) y (.ofNat r) [0, 1, 2, 3, 4, 5] = okS (chk (.ofNat 6) y (.ofNat r) [0, 1, 2, 3, 4, 5]) 6 y r := by kernel_rfl
theorem case_11_0 (r : Nat) (y : Int) : chk (.ofNat 11) y (.ofNat r) [0, 1, 2, 3, 4, 5, 6, 7, 8, 9, 10] = okS (chk (.ofNat 11) y (.ofNat r) [0, 1, 2, 3, 4, 5, 6, 7, 8, 9, 10]) 11 y r := by kernel_rfl
theorem case_14_0 (r : Nat) (y : Int) : chk (.ofNat 14) y (.ofNat r) [0, 1, 2, 3, 4, 5, 6, 7, 8, 9] = okS (chk (.ofNat 14) y (.ofNat r) [0, 1, 2, 3, 4, 5, 6, 7, 8, 9]) 14 y r := by kernel_rfl
theorem case_16_8 (r : Nat) (y : Int) : chk (.ofNat 16) y (.ofNat r) [8, 9, 10, 11, 12, 13, 14, 15] = okS (chk (.ofNat 16) y (.ofNat r) [8, 9, 10, 11, 12, 13, 14, 15]) 16 y r := by kernel_rfl
theorem case_19_5 (r : Nat) (y : Int) : chk (.ofNat 19) y (.ofNat r) [5, 6, 7, 8, 9] = okS (chk (.ofNat 19) y (.ofNat r) [5, 6, 7, 8, 9]) 19 y r := by kernel_rfl
end Go.Proofs.YtbikpdgeldhkoaaDoor.Ir
