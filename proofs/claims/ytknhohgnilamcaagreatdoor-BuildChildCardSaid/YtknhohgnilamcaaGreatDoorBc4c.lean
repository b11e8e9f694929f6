/-
  The paths, run by the kernel for all numbers.
-/
import Derived.Test.YtknhohgnilamcaaGreatDoorBc3
namespace Go.Proofs.YtknhohgnilamcaaGreatDoor.Ir
set_option linter.unusedVariables false
set_option linter.unusedSimpArgs false
set_option maxRecDepth 100000
open Go Go.Proofs.YtknhohgnilamcaaGreatDoor
def bits5 : List Bool := [false, true, true, true, true, true, true, true, true, true, true, false, true, true, true, true, true, true, false, false, true, false, true, false, false, true, true, true, true, true, true, true, true, true, true]
noncomputable def log5 (a b c : Int) : List (Bool × Bool) := [(true, true), (true, true), (true, true), (true, true), (true, true), (true, true), (true, true), (true, true), (true, true), (true, true), (gg a b c, false), (ee a b c, false), (true, true), (be2b a b c, false), (be1 a b, true), (false, false), (false, false), (true, true), (true, true), (true, true), (true, true), (true, true), (true, true), (false, false), (true, true), (true, true), (true, true), (true, true), (true, true), (true, true), (true, true), (true, true), (true, true), (true, true), (false, false)]
theorem path5 (a b c : Int) : runT bits5 a b c false = some (.bool true, log5 a b c, dgT (vvT (runT bits5 a b c false))) := by kernel_rfl
def bits12 : List Bool := [false, true, true, true, true, true, true, true, true, true, true, false, true, true, true, true, true, true, false, false, false, false, false, true, true, true, true, true, true]
noncomputable def log12 (a b c : Int) : List (Bool × Bool) := [(true, true), (true, true), (true, true), (true, true), (ee a b c, true), (true, true), (be3 b c, false), (be2a a c, false), (be1 a b, false), (false, false), (false, false), (true, true), (true, true), (true, true), (true, true), (true, true), (true, true), (false, false), (true, true), (true, true), (true, true), (true, true), (true, true), (true, true), (true, true), (true, true), (true, true), (true, true), (false, false)]
theorem path12 (a b c : Int) : runT bits12 a b c false = some (.bool true, log12 a b c, dgT (vvT (runT bits12 a b c false))) := by kernel_rfl
def bits20 : List Bool := [false, true, true, true, false, false, false, false, false, false, true, false, true, true, true, true, true, true, false, false, false, false, false, false, true, true, true, true, true, true, true, true, true, true]
noncomputable def log20 (a b c : Int) : List (Bool × Bool) := [(true, true), (true, true), (true, true), (true, true), (true, true), (true, true), (true, true), (true, true), (true, true), (true, true), (gf a c, false), (ef a c, false), (false, false), (be2a a c, false), (false, false), (false, false), (true, true), (true, true), (true, true), (true, true), (true, true), (true, true), (false, false), (true, true), (false, false), (false, false), (false, false), (false, false), (false, false), (false, false), (true, true), (true, true), (true, true), (false, false)]
theorem path20 (a b c : Int) : runT bits20 a b c true = some (.bool true, log20 a b c, dgT (vvT (runT bits20 a b c true))) := by kernel_rfl
end Go.Proofs.YtknhohgnilamcaaGreatDoor.Ir
