/-
  The cases, run by the kernel.
-/
import Derived.Test.YtbikpdgeldhkoaaDoorVc4
namespace Go.Proofs.YtbikpdgeldhkoaaDoor.Ir
set_option linter.unusedVariables false
set_option maxRecDepth 100000
open Go Go.Proofs.YtbikpdgeldhkoaaDoor
theorem case_2_0 (v y : Int) : chk (.ofNat 2) v y [0, 1] = okS (chk (.ofNat 2) v y [0, 1]) v y := by kernel_rfl
theorem case_6_0 (v y : Int) : chk (.ofNat 6) v y [0, 1, 2, 3, 4, 5] = okS (chk (.ofNat 6) v y [0, 1, 2, 3, 4, 5]) v y := by kernel_rfl
theorem case_9_0 (v y : Int) : chk (.ofNat 9) v y [0, 1, 2, 3, 4, 5, 6, 7, 8] = okS (chk (.ofNat 9) v y [0, 1, 2, 3, 4, 5, 6, 7, 8]) v y := by kernel_rfl
theorem case_11_0 (v y : Int) : chk (.ofNat 11) v y [0, 1, 2, 3, 4, 5, 6, 7] = okS (chk (.ofNat 11) v y [0, 1, 2, 3, 4, 5, 6, 7]) v y := by kernel_rfl
theorem case_14_0 (v y : Int) : chk (.ofNat 14) v y [0, 1, 2, 3, 4, 5] = okS (chk (.ofNat 14) v y [0, 1, 2, 3, 4, 5]) v y := by kernel_rfl
theorem case_14_12 (v y : Int) : chk (.ofNat 14) v y [12, 13] = okS (chk (.ofNat 14) v y [12, 13]) v y := by kernel_rfl
theorem case_17_0 (v y : Int) : chk (.ofNat 17) v y [0, 1, 2, 3] = okS (chk (.ofNat 17) v y [0, 1, 2, 3]) v y := by kernel_rfl
end Go.Proofs.YtbikpdgeldhkoaaDoor.Ir
