/-
  The paths, run by the kernel for all numbers.
-/
import Derived.Test.YtknhohgnilamcaaGreatDoorTc3
namespace Go.Proofs.YtknhohgnilamcaaGreatDoor.Ir
set_option linter.unusedVariables false
set_option linter.unusedSimpArgs false
set_option maxRecDepth 100000
open Go Go.Proofs.YtknhohgnilamcaaGreatDoor
def bits17 : List Bool := [false, true, true, true, true, true, false, true, true, true, true, true, false, false, true, false, false, false, false, false, false, false, false, false, false, false, false, false, true, true, true, true, true, true, true, true, true, true, true]
noncomputable def log17 (a b c : Int) : List (Bool × Bool) := [(true, true), (true, true), (true, true), (true, true), (true, true), (tf a b, true), (te b c, true), (te b c, true), (te b c, true), (te b c, true), (te b c, true), (false, false), (tc a b c, false), (tc a b c, false), (tc a b c, false), (tc a b c, false), (tc a b c, false), (false, false), (ta a b c, false), (ta a b c, false), (ta a b c, false), (ta a b c, false), (false, false), (be2b b c, false), (be1 a b, true), (false, false), (false, false), (true, true), (true, true), (true, true), (true, true), (true, true), (false, false), (true, true), (true, true), (true, true), (true, true), (true, true), (false, false)]
theorem path17 (a b c : Int) : runT bits17 a b c = some (.bool true, log17 a b c, dgT (vvT (runT bits17 a b c))) := by kernel_rfl
def bits30 : List Bool := [false, true, true, true, true, true, false, true, true, true, true, true, false, false, false, true, false, false, false, false, false, false, false, false, false, false, false, false, false, false, false, false, false, false]
noncomputable def log30 (a b c : Int) : List (Bool × Bool) := [(false, false), (te b c, false), (te b c, false), (te b c, false), (te b c, false), (te b c, false), (false, false), (tc a b c, false), (tc a b c, false), (tc a b c, false), (tc a b c, false), (tc a b c, false), (false, false), (ta a b c, false), (ta a b c, false), (ta a b c, false), (ta a b c, false), (false, false), (be2a a b c, true), (be1 a b, false), (false, false), (false, false), (true, true), (true, true), (true, true), (true, true), (true, true), (false, false), (true, true), (true, true), (true, true), (true, true), (true, true), (false, false)]
theorem path30 (a b c : Int) : runT bits30 a b c = some (.bool true, log30 a b c, dgT (vvT (runT bits30 a b c))) := by kernel_rfl
end Go.Proofs.YtknhohgnilamcaaGreatDoor.Ir
