/-
  The paths, run by the kernel for all numbers.
-/
import Derived.Test.YtknhohgnilamcaaGreatDoorTc3
namespace Go.Proofs.YtknhohgnilamcaaGreatDoor.Ir
set_option linter.unusedVariables false
set_option linter.unusedSimpArgs false
set_option maxRecDepth 100000
open Go Go.Proofs.YtknhohgnilamcaaGreatDoor
def bits7 : List Bool := [false, true, true, true, true, true, false, true, true, true, true, true, false, false, true, true, false, true, true, true, true, false, false, false, false, false, false, false, false, false, false, false, false, false]
noncomputable def log7 (a b c : Int) : List (Bool × Bool) := [(false, false), (te b c, false), (te b c, false), (te b c, false), (te b c, false), (te b c, false), (false, false), (tc a b c, false), (tc a b c, false), (tc a b c, false), (tc a b c, false), (tc a b c, false), (tb b c, false), (ta a b c, true), (ta a b c, true), (ta a b c, true), (ta a b c, true), (false, false), (be2b b c, true), (be1 a b, true), (false, false), (false, false), (true, true), (true, true), (true, true), (true, true), (true, true), (false, false), (true, true), (true, true), (true, true), (true, true), (true, true), (false, false)]
theorem path7 (a b c : Int) : runT bits7 a b c = some (.bool true, log7 a b c, dgT (vvT (runT bits7 a b c))) := by kernel_rfl
def bits20 : List Bool := [false, true, true, true, true, true, false, true, true, true, true, true, false, false, true, false, false, false, false, false, false, false, true, true, true, true, true, false, true, true, true, true, true, true, true, true, true, true, true]
noncomputable def log20 (a b c : Int) : List (Bool × Bool) := [(true, true), (true, true), (true, true), (true, true), (true, true), (tf a b, true), (te b c, true), (te b c, true), (te b c, true), (te b c, true), (te b c, true), (td a b, false), (tc a b c, true), (tc a b c, true), (tc a b c, true), (tc a b c, true), (tc a b c, true), (false, false), (ta a b c, false), (ta a b c, false), (ta a b c, false), (ta a b c, false), (false, false), (be2b b c, false), (be1 a b, true), (false, false), (false, false), (true, true), (true, true), (true, true), (true, true), (true, true), (false, false), (true, true), (true, true), (true, true), (true, true), (true, true), (false, false)]
theorem path20 (a b c : Int) : runT bits20 a b c = some (.bool true, log20 a b c, dgT (vvT (runT bits20 a b c))) := by kernel_rfl
def bits51 : List Bool := [false, true, true, true, true, true, false, true, true, true, true, true, false, false, false, false, false, false, false, false, false, false, true, true, true, true, true, true, true, true, true, true, true]
noncomputable def log51 (a b c : Int) : List (Bool × Bool) := [(true, true), (true, true), (true, true), (true, true), (true, true), (td a b, true), (tc a b c, true), (tc a b c, true), (tc a b c, true), (tc a b c, true), (tc a b c, true), (false, false), (ta a b c, false), (ta a b c, false), (ta a b c, false), (ta a b c, false), (false, false), (be2a a b c, false), (be1 a b, false), (false, false), (false, false), (true, true), (true, true), (true, true), (true, true), (true, true), (false, false), (true, true), (true, true), (true, true), (true, true), (true, true), (false, false)]
theorem path51 (a b c : Int) : runT bits51 a b c = some (.bool true, log51 a b c, dgT (vvT (runT bits51 a b c))) := by kernel_rfl
end Go.Proofs.YtknhohgnilamcaaGreatDoor.Ir
