/-
  The paths, run by the kernel for all numbers.
-/
import Derived.Test.YtknhohgnilamcaaGreatDoorTc3
namespace Go.Proofs.YtknhohgnilamcaaGreatDoor.Ir
set_option linter.unusedVariables false
set_option linter.unusedSimpArgs false
set_option maxRecDepth 100000
open Go Go.Proofs.YtknhohgnilamcaaGreatDoor
def bits14 : List Bool := [false, true, true, true, true, true, false, true, true, true, true, true, false, false, true, true, false, true, true, true, true, true, true, true, true, true, true]
noncomputable def log14 (a b c : Int) : List (Bool × Bool) := [(true, true), (true, true), (true, true), (true, true), (true, true), (tb b c, true), (ta a b c, true), (ta a b c, true), (ta a b c, true), (ta a b c, true), (false, false), (be2b b c, true), (be1 a b, true), (false, false), (false, false), (true, true), (true, true), (true, true), (true, true), (true, true), (false, false), (true, true), (true, true), (true, true), (true, true), (true, true), (false, false)]
theorem path14 (a b c : Int) : runT bits14 a b c = some (.bool true, log14 a b c, dgT (vvT (runT bits14 a b c))) := by kernel_rfl
def bits24 : List Bool := [false, true, true, true, true, true, false, true, true, true, true, true, false, false, true, false, false, true, true, true, true, false, false, false, false, false, false, false, true, true, true, true, true, true, true, true, true, true, true]
noncomputable def log24 (a b c : Int) : List (Bool × Bool) := [(true, true), (true, true), (true, true), (true, true), (true, true), (tf a b, true), (te b c, true), (te b c, true), (te b c, true), (te b c, true), (te b c, true), (false, false), (tc a b c, false), (tc a b c, false), (tc a b c, false), (tc a b c, false), (tc a b c, false), (tb b c, false), (ta a b c, true), (ta a b c, true), (ta a b c, true), (ta a b c, true), (false, false), (be2b b c, false), (be1 a b, true), (false, false), (false, false), (true, true), (true, true), (true, true), (true, true), (true, true), (false, false), (true, true), (true, true), (true, true), (true, true), (true, true), (false, false)]
theorem path24 (a b c : Int) : runT bits24 a b c = some (.bool true, log24 a b c, dgT (vvT (runT bits24 a b c))) := by kernel_rfl
end Go.Proofs.YtknhohgnilamcaaGreatDoor.Ir
