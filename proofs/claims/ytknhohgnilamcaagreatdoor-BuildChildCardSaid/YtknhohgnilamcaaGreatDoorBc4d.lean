/-
  The paths, run by the kernel for all numbers.
-/
import Derived.Test.YtknhohgnilamcaaGreatDoorBc3
namespace Go.Proofs.YtknhohgnilamcaaGreatDoor.Ir
set_option linter.unusedVariables false
set_option linter.unusedSimpArgs false
set_option maxRecDepth 100000
open Go Go.Proofs.YtknhohgnilamcaaGreatDoor
def bits7 : List Bool := [false, true, true, true, true, true, true, true, true, true, true, false, true, true, true, true, true, true, false, false, false, true, false, true, false, true, true, true, true, true, true, true, true, true, true, true]
noncomputable def log7 (a b c : Int) : List (Bool × Bool) := [(true, true), (true, true), (true, true), (true, true), (true, true), (true, true), (true, true), (true, true), (true, true), (true, true), (gg a b c, true), (ee a b c, false), (true, true), (be1 a b, false), (be2a a c, true), (be1 a b, false), (false, false), (false, false), (true, true), (true, true), (true, true), (true, true), (true, true), (true, true), (false, false), (true, true), (true, true), (true, true), (true, true), (true, true), (true, true), (true, true), (true, true), (true, true), (true, true), (false, false)]
theorem path7 (a b c : Int) : runT bits7 a b c false = some (.bool true, log7 a b c, dgT (vvT (runT bits7 a b c false))) := by kernel_rfl
def bits14 : List Bool := [false, true, true, true, true, true, true, true, true, true, true, false, true, true, true, true, true, true, false, false, false, false, false, true, false, false, true, true, true, true, true, true, true, true, true, true]
noncomputable def log14 (a b c : Int) : List (Bool × Bool) := [(true, true), (true, true), (true, true), (true, true), (true, true), (true, true), (true, true), (true, true), (true, true), (true, true), (gg a b c, false), (ee a b c, false), (true, true), (be3 b c, false), (be2a a c, false), (be1 a b, false), (false, false), (false, false), (true, true), (true, true), (true, true), (true, true), (true, true), (true, true), (false, false), (true, true), (true, true), (true, true), (true, true), (true, true), (true, true), (true, true), (true, true), (true, true), (true, true), (false, false)]
theorem path14 (a b c : Int) : runT bits14 a b c false = some (.bool true, log14 a b c, dgT (vvT (runT bits14 a b c false))) := by kernel_rfl
end Go.Proofs.YtknhohgnilamcaaGreatDoor.Ir
