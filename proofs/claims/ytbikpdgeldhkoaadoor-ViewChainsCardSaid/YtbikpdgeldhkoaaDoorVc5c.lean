/-
  The cases, run by the kernel.
-/
import Derived.Test.YtbikpdgeldhkoaaDoorVc4
namespace Go.Proofs.YtbikpdgeldhkoaaDoor.Ir
set_option linter.unusedVariables false
set_option maxRecDepth 100000
open Go Go.Proofs.YtbikpdgeldhkoaaDoor
theorem case_13_12 (v y : Int) : chk (.ofNat 13) v y [12] = okS (chk (.ofNat 13) v y [12]) v y := by kernel_rfl
theorem case_15_10 (v y : Int) : chk (.ofNat 15) v y [10, 11, 12, 13, 14] = okS (chk (.ofNat 15) v y [10, 11, 12, 13, 14]) v y := by kernel_rfl
theorem case_18_8 (v y : Int) : chk (.ofNat 18) v y [8, 9, 10, 11] = okS (chk (.ofNat 18) v y [8, 9, 10, 11]) v y := by kernel_rfl
theorem case_18_16 (v y : Int) : chk (.ofNat 18) v y [16, 17] = okS (chk (.ofNat 18) v y [16, 17]) v y := by kernel_rfl
theorem case_19_8 (v y : Int) : chk (.ofNat 19) v y [8, 9, 10, 11] = okS (chk (.ofNat 19) v y [8, 9, 10, 11]) v y := by kernel_rfl
theorem case_20_12 (v y : Int) : chk (.ofNat 20) v y [12, 13, 14] = okS (chk (.ofNat 20) v y [12, 13, 14]) v y := by kernel_rfl
end Go.Proofs.YtbikpdgeldhkoaaDoor.Ir
