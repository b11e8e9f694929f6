/-
  The cases, run by the kernel.
-/
import Derived.Test.YtbikpdgeldhkoaaDoorVc4
namespace Go.Proofs.YtbikpdgeldhkoaaDoor.Ir
set_option linter.unusedVariables false
set_option maxRecDepth 100000
open Go Go.Proofs.YtbikpdgeldhkoaaDoor
theorem case_1_0 (v y : Int) : chk (.ofNat 1) v y [0] = okS (chk (.ofNat 1) v y [0]) v y := by kernel_rfl
theorem case_11_8 (v y : Int) : chk (.ofNat 11) v y [8, 9, 10] = okS (chk (.ofNat 11) v y [8, 9, 10]) v y := by kernel_rfl
theorem case_13_0 (v y : Int) : chk (.ofNat 13) v y [0, 1, 2, 3, 4, 5] = okS (chk (.ofNat 13) v y [0, 1, 2, 3, 4, 5]) v y := by kernel_rfl
theorem case_17_12 (v y : Int) : chk (.ofNat 17) v y [12, 13, 14, 15] = okS (chk (.ofNat 17) v y [12, 13, 14, 15]) v y := by kernel_rfl
theorem case_17_16 (v y : Int) : chk (.ofNat 17) v y [16] = okS (chk (.ofNat 17) v y [16]) v y := by kernel_rfl
theorem case_18_12 (v y : Int) : chk (.ofNat 18) v y [12, 13, 14, 15] = okS (chk (.ofNat 18) v y [12, 13, 14, 15]) v y := by kernel_rfl
theorem case_19_12 (v y : Int) : chk (.ofNat 19) v y [12, 13, 14, 15] = okS (chk (.ofNat 19) v y [12, 13, 14, 15]) v y := by kernel_rfl
end Go.Proofs.YtbikpdgeldhkoaaDoor.Ir
