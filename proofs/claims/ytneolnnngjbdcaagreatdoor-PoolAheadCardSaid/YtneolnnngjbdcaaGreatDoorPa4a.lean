/-
  The cases, run by the kernel.
-/
import Derived.Test.YtneolnnngjbdcaaGreatDoorPa3
namespace Go.Proofs.YtneolnnngjbdcaaGreatDoor.Ir
set_option linter.unusedVariables false
set_option linter.unusedSimpArgs false
set_option maxRecDepth 100000
open Go Go.Proofs.YtneolnnngjbdcaaGreatDoor
theorem path_5_0 (a b : Int) : runT [true, true, true, true, true, false, false, true, true, true, true, true, false] a b = some (.bool true, [], fixT (vvT (runT [true, true, true, true, true, false, false, true, true, true, true, true, false] a b)) [tn b 6 0, tn a 6 5]) := by kernel_rfl
theorem path_5_1 (a b : Int) : runT [true, true, true, true, true, false, true, false, true, true, true, true, true, false] a b = some (.bool true, [], fixT (vvT (runT [true, true, true, true, true, false, true, false, true, true, true, true, true, false] a b)) [tn b 6 1, tn a 6 5]) := by kernel_rfl
theorem path_5_2 (a b : Int) : runT [true, true, true, true, true, false, true, true, false, true, true, true, true, true, false] a b = some (.bool true, [], fixT (vvT (runT [true, true, true, true, true, false, true, true, false, true, true, true, true, true, false] a b)) [tn b 6 2, tn a 6 5]) := by kernel_rfl
end Go.Proofs.YtneolnnngjbdcaaGreatDoor.Ir
