/-
  The cases, run by the kernel.
-/
import Derived.Test.YtbikpdgeldhkoaaDoorVc4
namespace Go.Proofs.YtbikpdgeldhkoaaDoor.Ir
set_option linter.unusedVariables false
set_option maxRecDepth 100000
open Go Go.Proofs.YtbikpdgeldhkoaaDoor
theorem case_8_0 (v y : Int) : chk (.ofNat 8) v y [0, 1, 2, 3, 4, 5, 6, 7] = okS (chk (.ofNat 8) v y [0, 1, 2, 3, 4, 5, 6, 7]) v y := by kernel_rfl
theorem case_10_9 (v y : Int) : chk (.ofNat 10) v y [9] = okS (chk (.ofNat 10) v y [9]) v y := by kernel_rfl
theorem case_15_0 (v y : Int) : chk (.ofNat 15) v y [0, 1, 2, 3, 4] = okS (chk (.ofNat 15) v y [0, 1, 2, 3, 4]) v y := by kernel_rfl
theorem case_18_0 (v y : Int) : chk (.ofNat 18) v y [0, 1, 2, 3] = okS (chk (.ofNat 18) v y [0, 1, 2, 3]) v y := by kernel_rfl
theorem case_19_0 (v y : Int) : chk (.ofNat 19) v y [0, 1, 2, 3] = okS (chk (.ofNat 19) v y [0, 1, 2, 3]) v y := by kernel_rfl
theorem case_20_6 (v y : Int) : chk (.ofNat 20) v y [6, 7, 8] = okS (chk (.ofNat 20) v y [6, 7, 8]) v y := by kernel_rfl
end Go.Proofs.YtbikpdgeldhkoaaDoor.Ir
