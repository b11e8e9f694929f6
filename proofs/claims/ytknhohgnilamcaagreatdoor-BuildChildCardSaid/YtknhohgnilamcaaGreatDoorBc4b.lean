/-
  The paths, run by the kernel for all numbers.
-/
import Derived.Test.YtknhohgnilamcaaGreatDoorBc3
namespace Go.Proofs.YtknhohgnilamcaaGreatDoor.Ir
set_option linter.unusedVariables false
set_option linter.unusedSimpArgs false
set_option maxRecDepth 100000
open Go Go.Proofs.YtknhohgnilamcaaGreatDoor
def bits3 : List Bool := [false, true, true, true, true, true, true, true, true, true, true, false, true, true, true, true, true, true, false, false, true, false, true, true, true, true, true, true]
noncomputable def log3 (a b c : Int) : List (Bool × Bool) := [(true, true), (true, true), (true, true), (true, true), (ee a b c, true), (true, true), (be2b a b c, false), (be1 a b, true), (false, false), (false, false), (true, true), (true, true), (true, true), (true, true), (true, true), (true, true), (false, false), (true, true), (true, true), (true, true), (true, true), (true, true), (true, true), (true, true), (true, true), (true, true), (true, true), (false, false)]
theorem path3 (a b c : Int) : runT bits3 a b c false = some (.bool true, log3 a b c, dgT (vvT (runT bits3 a b c false))) := by kernel_rfl
def bits11 : List Bool := [false, true, true, true, true, true, true, true, true, true, true, false, true, true, true, true, true, true, false, false, false, false, true, true, false, false, true, true, true, true, true, true, true, true, true, true]
noncomputable def log11 (a b c : Int) : List (Bool × Bool) := [(true, true), (true, true), (true, true), (true, true), (true, true), (true, true), (true, true), (true, true), (true, true), (true, true), (gg a b c, false), (ee a b c, false), (true, true), (be3 b c, true), (be2a a c, false), (be1 a b, false), (false, false), (false, false), (true, true), (true, true), (true, true), (true, true), (true, true), (true, true), (false, false), (true, true), (true, true), (true, true), (true, true), (true, true), (true, true), (true, true), (true, true), (true, true), (true, true), (false, false)]
theorem path11 (a b c : Int) : runT bits11 a b c false = some (.bool true, log11 a b c, dgT (vvT (runT bits11 a b c false))) := by kernel_rfl
def bits18 : List Bool := [false, true, true, true, false, false, false, false, false, false, true, false, true, true, true, true, true, true, false, false, false, false, true, true, true, true, true]
noncomputable def log18 (a b c : Int) : List (Bool × Bool) := [(true, true), (true, true), (true, true), (true, true), (ef a c, true), (false, false), (be2a a c, false), (false, false), (false, false), (true, true), (true, true), (true, true), (true, true), (true, true), (true, true), (false, false), (true, true), (false, false), (false, false), (false, false), (false, false), (false, false), (false, false), (true, true), (true, true), (true, true), (false, false)]
theorem path18 (a b c : Int) : runT bits18 a b c true = some (.bool true, log18 a b c, dgT (vvT (runT bits18 a b c true))) := by kernel_rfl
end Go.Proofs.YtknhohgnilamcaaGreatDoor.Ir
