/-
  The cases, run by the kernel.
-/
import Derived.Test.YtbikpdgeldhkoaaDoorGr4
namespace Go.Proofs.YtbikpdgeldhkoaaDoor.Ir
set_option linter.unusedVariables false
set_option maxRecDepth 100000
open Go Go.Proofs.YtbikpdgeldhkoaaDoor
theorem case_4_0 (r : Nat) (y : Int) : chk (.ofNat 4) y (.ofNat r) [0, 1, 2, 3] = okS (chk (.ofNat 4) y (.ofNat r) [0, 1, 2, 3]) 4 y r := by kernel_rfl
theorem case_5_0 (r : Nat) (y : Int) : chk (.ofNat 5) y (.ofNat r) [0, 1, 2, 3, 4] = okS (chk (.ofNat 5) y (.ofNat r) [0, 1, 2, 3, 4]) 5 y r := by kernel_rfl
theorem case_17_7 (r : Nat) (y : Int) : chk (.ofNat 17) y (.ofNat r) [7, 8, 9, 10, 11, 12, 13] = okS (chk (.ofNat 17) y (.ofNat r) [7, 8, 9, 10, 11, 12, 13]) 17 y r := by kernel_rfl
theorem case_19_0 (r : Nat) (y : Int) : chk (.ofNat 19) y (.ofNat r) [0, 1, 2, 3, 4] = okS (chk (.ofNat 19) y (.ofNat r) [0, 1, 2, 3, 4]) 19 y r := by kernel_rfl
theorem case_19_15 (r : Nat) (y : Int) : chk (.ofNat 19) y (.ofNat r) [15, 16, 17, 18] = okS (chk (.ofNat 19) y (.ofNat r) [15, 16, 17, 18]) 19 y r := by kernel_rfl
theorem case_20_5 (r : Nat) (y : Int) : chk (.ofNat 20) y (.ofNat r) [5, 6, 7, 8, 9] = okS (chk (.ofNat 20) y (.ofNat r) [5, 6, 7, 8, 9]) 20 y r := by kernel_rfl
end Go.Proofs.YtbikpdgeldhkoaaDoor.Ir
