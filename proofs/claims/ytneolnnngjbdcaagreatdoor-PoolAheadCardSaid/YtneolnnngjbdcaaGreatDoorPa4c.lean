/-
  The cases, run by the kernel.
-/
import Derived.Test.YtneolnnngjbdcaaGreatDoorPa3
namespace Go.Proofs.YtneolnnngjbdcaaGreatDoor.Ir
set_option linter.unusedVariables false
set_option linter.unusedSimpArgs false
set_option maxRecDepth 100000
open Go Go.Proofs.YtneolnnngjbdcaaGreatDoor
theorem path_4_0 (a b : Int) : runT [true, true, true, true, false, false, true, true, true, true, true, false] a b = some (.bool true, [], fixT (vvT (runT [true, true, true, true, false, false, true, true, true, true, true, false] a b)) [tn b 5 0, tn a 6 4]) := by kernel_rfl
theorem path_4_1 (a b : Int) : runT [true, true, true, true, false, true, false, true, true, true, true, true, false] a b = some (.bool true, [], fixT (vvT (runT [true, true, true, true, false, true, false, true, true, true, true, true, false] a b)) [tn b 5 1, tn a 6 4]) := by kernel_rfl
theorem path_4_2 (a b : Int) : runT [true, true, true, true, false, true, true, false, true, true, true, true, true, false] a b = some (.bool true, [], fixT (vvT (runT [true, true, true, true, false, true, true, false, true, true, true, true, true, false] a b)) [tn b 5 2, tn a 6 4]) := by kernel_rfl
theorem path_4_3 (a b : Int) : runT [true, true, true, true, false, true, true, true, false, true, true, true, true, true, false] a b = some (.bool true, [], fixT (vvT (runT [true, true, true, true, false, true, true, true, false, true, true, true, true, true, false] a b)) [tn b 5 3, tn a 6 4]) := by kernel_rfl
theorem path_4_4 (a b : Int) : runT [true, true, true, true, false, true, true, true, true, false, true, true, true, true, true, false] a b = some (.bool true, [], fixT (vvT (runT [true, true, true, true, false, true, true, true, true, false, true, true, true, true, true, false] a b)) [tn b 5 4, tn a 6 4]) := by kernel_rfl
end Go.Proofs.YtneolnnngjbdcaaGreatDoor.Ir
