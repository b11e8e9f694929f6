/-
  The cases, run by the kernel.
-/
import Derived.Test.YtbikpdgeldhkoaaDoorVc4
namespace Go.Proofs.YtbikpdgeldhkoaaDoor.Ir
set_option linter.unusedVariables false
set_option maxRecDepth 100000
open Go Go.Proofs.YtbikpdgeldhkoaaDoor
theorem case_4_0 (v y : Int) : chk (.ofNat 4) v y [0, 1, 2, 3] = okS (chk (.ofNat 4) v y [0, 1, 2, 3]) v y := by kernel_rfl
theorem case_12_7 (v y : Int) : chk (.ofNat 12) v y [7, 8, 9, 10, 11] = okS (chk (.ofNat 12) v y [7, 8, 9, 10, 11]) v y := by kernel_rfl
theorem case_16_0 (v y : Int) : chk (.ofNat 16) v y [0, 1, 2, 3, 4] = okS (chk (.ofNat 16) v y [0, 1, 2, 3, 4]) v y := by kernel_rfl
theorem case_16_10 (v y : Int) : chk (.ofNat 16) v y [10, 11, 12, 13, 14] = okS (chk (.ofNat 16) v y [10, 11, 12, 13, 14]) v y := by kernel_rfl
theorem case_17_8 (v y : Int) : chk (.ofNat 17) v y [8, 9, 10, 11] = okS (chk (.ofNat 17) v y [8, 9, 10, 11]) v y := by kernel_rfl
theorem case_20_3 (v y : Int) : chk (.ofNat 20) v y [3, 4, 5] = okS (chk (.ofNat 20) v y [3, 4, 5]) v y := by kernel_rfl
end Go.Proofs.YtbikpdgeldhkoaaDoor.Ir
