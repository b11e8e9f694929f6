/-
  The cases, run by the kernel.
-/
import Derived.Test.YtneolnnngjbdcaaGreatDoorPa3
namespace Go.Proofs.YtneolnnngjbdcaaGreatDoor.Ir
set_option linter.unusedVariables false
set_option linter.unusedSimpArgs false
set_option maxRecDepth 100000
open Go Go.Proofs.YtneolnnngjbdcaaGreatDoor
theorem path_0_0 (a b : Int) : runT [false, false, true, true, true, true, true, false] a b = some (.bool true, [], fixT (vvT (runT [false, false, true, true, true, true, true, false] a b)) [tn b 1 0, tn a 6 0]) := by kernel_rfl
theorem path_1_0 (a b : Int) : runT [true, false, false, true, true, true, true, true, false] a b = some (.bool true, [], fixT (vvT (runT [true, false, false, true, true, true, true, true, false] a b)) [tn b 2 0, tn a 6 1]) := by kernel_rfl
theorem path_1_1 (a b : Int) : runT [true, false, true, false, true, true, true, true, true, false] a b = some (.bool true, [], fixT (vvT (runT [true, false, true, false, true, true, true, true, true, false] a b)) [tn b 2 1, tn a 6 1]) := by kernel_rfl
theorem path_2_0 (a b : Int) : runT [true, true, false, false, true, true, true, true, true, false] a b = some (.bool true, [], fixT (vvT (runT [true, true, false, false, true, true, true, true, true, false] a b)) [tn b 3 0, tn a 6 2]) := by kernel_rfl
theorem path_2_1 (a b : Int) : runT [true, true, false, true, false, true, true, true, true, true, false] a b = some (.bool true, [], fixT (vvT (runT [true, true, false, true, false, true, true, true, true, true, false] a b)) [tn b 3 1, tn a 6 2]) := by kernel_rfl
theorem path_2_2 (a b : Int) : runT [true, true, false, true, true, false, true, true, true, true, true, false] a b = some (.bool true, [], fixT (vvT (runT [true, true, false, true, true, false, true, true, true, true, true, false] a b)) [tn b 3 2, tn a 6 2]) := by kernel_rfl
theorem path_3_0 (a b : Int) : runT [true, true, true, false, false, true, true, true, true, true, false] a b = some (.bool true, [], fixT (vvT (runT [true, true, true, false, false, true, true, true, true, true, false] a b)) [tn b 4 0, tn a 6 3]) := by kernel_rfl
theorem path_3_1 (a b : Int) : runT [true, true, true, false, true, false, true, true, true, true, true, false] a b = some (.bool true, [], fixT (vvT (runT [true, true, true, false, true, false, true, true, true, true, true, false] a b)) [tn b 4 1, tn a 6 3]) := by kernel_rfl
theorem path_3_2 (a b : Int) : runT [true, true, true, false, true, true, false, true, true, true, true, true, false] a b = some (.bool true, [], fixT (vvT (runT [true, true, true, false, true, true, false, true, true, true, true, true, false] a b)) [tn b 4 2, tn a 6 3]) := by kernel_rfl
theorem path_3_3 (a b : Int) : runT [true, true, true, false, true, true, true, false, true, true, true, true, true, false] a b = some (.bool true, [], fixT (vvT (runT [true, true, true, false, true, true, true, false, true, true, true, true, true, false] a b)) [tn b 4 3, tn a 6 3]) := by kernel_rfl
end Go.Proofs.YtneolnnngjbdcaaGreatDoor.Ir
