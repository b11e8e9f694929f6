/-
  The cases, run by the kernel.
-/
import Derived.Test.YtbikpdgeldhkoaaDoorVc4
namespace Go.Proofs.YtbikpdgeldhkoaaDoor.Ir
set_option linter.unusedVariables false
set_option maxRecDepth 100000
open Go Go.Proofs.YtbikpdgeldhkoaaDoor
theorem case_3_0 (v y : Int) : chk (.ofNat 3) v y [0, 1, 2] = okS (chk (.ofNat 3) v y [0, 1, 2]) v y := by kernel_rfl
theorem case_10_0 (v y : Int) : chk (.ofNat 10) v y [0, 1, 2, 3, 4, 5, 6, 7, 8] = okS (chk (.ofNat 10) v y [0, 1, 2, 3, 4, 5, 6, 7, 8]) v y := by kernel_rfl
theorem case_16_5 (v y : Int) : chk (.ofNat 16) v y [5, 6, 7, 8, 9] = okS (chk (.ofNat 16) v y [5, 6, 7, 8, 9]) v y := by kernel_rfl
theorem case_17_4 (v y : Int) : chk (.ofNat 17) v y [4, 5, 6, 7] = okS (chk (.ofNat 17) v y [4, 5, 6, 7]) v y := by kernel_rfl
theorem case_19_16 (v y : Int) : chk (.ofNat 19) v y [16, 17, 18] = okS (chk (.ofNat 19) v y [16, 17, 18]) v y := by kernel_rfl
theorem case_20_0 (v y : Int) : chk (.ofNat 20) v y [0, 1, 2] = okS (chk (.ofNat 20) v y [0, 1, 2]) v y := by kernel_rfl
end Go.Proofs.YtbikpdgeldhkoaaDoor.Ir
