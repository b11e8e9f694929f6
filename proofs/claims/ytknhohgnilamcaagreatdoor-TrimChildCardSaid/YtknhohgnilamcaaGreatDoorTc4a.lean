/-
  The paths, run by the kernel for all numbers.
-/
import Derived.Test.YtknhohgnilamcaaGreatDoorTc3
namespace Go.Proofs.YtknhohgnilamcaaGreatDoor.Ir
set_option linter.unusedVariables false
set_option linter.unusedSimpArgs false
set_option maxRecDepth 100000
open Go Go.Proofs.YtknhohgnilamcaaGreatDoor
def bits0 : List Bool := [false, true, true, true, true, true, false, true, true, true, true, true, false, false, true, true, false, false, false, false, false, false, false, false, false, false, false, false, false, false, false, false, false, false]
noncomputable def log0 (a b c : Int) : List (Bool × Bool) := [(false, false), (te b c, false), (te b c, false), (te b c, false), (te b c, false), (te b c, false), (false, false), (tc a b c, false), (tc a b c, false), (tc a b c, false), (tc a b c, false), (tc a b c, false), (false, false), (ta a b c, false), (ta a b c, false), (ta a b c, false), (ta a b c, false), (false, false), (be2b b c, true), (be1 a b, true), (false, false), (false, false), (true, true), (true, true), (true, true), (true, true), (true, true), (false, false), (true, true), (true, true), (true, true), (true, true), (true, true), (false, false)]
theorem path0 (a b c : Int) : runT bits0 a b c = some (.bool true, log0 a b c, dgT (vvT (runT bits0 a b c))) := by kernel_rfl
def bits19 : List Bool := [false, true, true, true, true, true, false, true, true, true, true, true, false, false, true, false, false, false, false, false, false, false, true, true, true, true, true, false, true, true, true, true, true, false]
noncomputable def log19 (a b c : Int) : List (Bool × Bool) := [(tf a b, false), (te b c, true), (te b c, true), (te b c, true), (te b c, true), (te b c, true), (td a b, false), (tc a b c, true), (tc a b c, true), (tc a b c, true), (tc a b c, true), (tc a b c, true), (false, false), (ta a b c, false), (ta a b c, false), (ta a b c, false), (ta a b c, false), (false, false), (be2b b c, false), (be1 a b, true), (false, false), (false, false), (true, true), (true, true), (true, true), (true, true), (true, true), (false, false), (true, true), (true, true), (true, true), (true, true), (true, true), (false, false)]
theorem path19 (a b c : Int) : runT bits19 a b c = some (.bool true, log19 a b c, dgT (vvT (runT bits19 a b c))) := by kernel_rfl
def bits44 : List Bool := [false, true, true, true, true, true, false, true, true, true, true, true, false, false, false, true, false, true, true, true, true, true, true, true, true, true, true]
noncomputable def log44 (a b c : Int) : List (Bool × Bool) := [(true, true), (true, true), (true, true), (true, true), (true, true), (tb b c, true), (ta a b c, true), (ta a b c, true), (ta a b c, true), (ta a b c, true), (false, false), (be2a a b c, true), (be1 a b, false), (false, false), (false, false), (true, true), (true, true), (true, true), (true, true), (true, true), (false, false), (true, true), (true, true), (true, true), (true, true), (true, true), (false, false)]
theorem path44 (a b c : Int) : runT bits44 a b c = some (.bool true, log44 a b c, dgT (vvT (runT bits44 a b c))) := by kernel_rfl
end Go.Proofs.YtknhohgnilamcaaGreatDoor.Ir
