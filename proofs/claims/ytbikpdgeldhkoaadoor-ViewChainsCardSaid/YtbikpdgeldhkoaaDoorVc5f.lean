/-
  The cases, run by the kernel.
-/
import Derived.Test.YtbikpdgeldhkoaaDoorVc4
namespace Go.Proofs.YtbikpdgeldhkoaaDoor.Ir
set_option linter.unusedVariables false
set_option maxRecDepth 100000
open Go Go.Proofs.YtbikpdgeldhkoaaDoor
theorem case_7_0 (v y : Int) : chk (.ofNat 7) v y [0, 1, 2, 3, 4, 5, 6] = okS (chk (.ofNat 7) v y [0, 1, 2, 3, 4, 5, 6]) v y := by kernel_rfl
theorem case_12_0 (v y : Int) : chk (.ofNat 12) v y [0, 1, 2, 3, 4, 5, 6] = okS (chk (.ofNat 12) v y [0, 1, 2, 3, 4, 5, 6]) v y := by kernel_rfl
theorem case_13_6 (v y : Int) : chk (.ofNat 13) v y [6, 7, 8, 9, 10, 11] = okS (chk (.ofNat 13) v y [6, 7, 8, 9, 10, 11]) v y := by kernel_rfl
theorem case_14_6 (v y : Int) : chk (.ofNat 14) v y [6, 7, 8, 9, 10, 11] = okS (chk (.ofNat 14) v y [6, 7, 8, 9, 10, 11]) v y := by kernel_rfl
theorem case_16_15 (v y : Int) : chk (.ofNat 16) v y [15] = okS (chk (.ofNat 16) v y [15]) v y := by kernel_rfl
theorem case_20_15 (v y : Int) : chk (.ofNat 20) v y [15, 16, 17] = okS (chk (.ofNat 20) v y [15, 16, 17]) v y := by kernel_rfl
end Go.Proofs.YtbikpdgeldhkoaaDoor.Ir
