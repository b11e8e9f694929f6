/-
  The paths, run by the kernel for all numbers.
-/
import Derived.Test.YtknhohgnilamcaaGreatDoorBc3
namespace Go.Proofs.YtknhohgnilamcaaGreatDoor.Ir
set_option linter.unusedVariables false
set_option linter.unusedSimpArgs false
set_option maxRecDepth 100000
open Go Go.Proofs.YtknhohgnilamcaaGreatDoor
def bits1 : List Bool := [false, true, true, true, true, true, true, true, true, true, true, false, true, true, true, true, true, true, false, false, true, true, true, true, false, true, true, true, true, true, true, true, true, true, true, true]
noncomputable def log1 (a b c : Int) : List (Bool × Bool) := [(true, true), (true, true), (true, true), (true, true), (true, true), (true, true), (true, true), (true, true), (true, true), (true, true), (gg a b c, true), (ee a b c, false), (true, true), (be1 a b, true), (be2b a b c, true), (be1 a b, true), (false, false), (false, false), (true, true), (true, true), (true, true), (true, true), (true, true), (true, true), (false, false), (true, true), (true, true), (true, true), (true, true), (true, true), (true, true), (true, true), (true, true), (true, true), (true, true), (false, false)]
theorem path1 (a b c : Int) : runT bits1 a b c false = some (.bool true, log1 a b c, dgT (vvT (runT bits1 a b c false))) := by kernel_rfl
def bits9 : List Bool := [false, true, true, true, true, true, true, true, true, true, true, false, true, true, true, true, true, true, false, false, false, false, true, true, true, true, true, true, true]
noncomputable def log9 (a b c : Int) : List (Bool × Bool) := [(true, true), (true, true), (true, true), (true, true), (ee a b c, true), (true, true), (be3 b c, true), (be2a a c, false), (be1 a b, false), (false, false), (false, false), (true, true), (true, true), (true, true), (true, true), (true, true), (true, true), (false, false), (true, true), (true, true), (true, true), (true, true), (true, true), (true, true), (true, true), (true, true), (true, true), (true, true), (false, false)]
theorem path9 (a b c : Int) : runT bits9 a b c false = some (.bool true, log9 a b c, dgT (vvT (runT bits9 a b c false))) := by kernel_rfl
def bits16 : List Bool := [false, true, true, true, false, false, false, false, false, false, true, false, true, true, true, true, true, true, false, false, true, false, false, true, true, true, true, true, true, true, true, true, true, true]
noncomputable def log16 (a b c : Int) : List (Bool × Bool) := [(true, true), (true, true), (true, true), (true, true), (true, true), (true, true), (true, true), (true, true), (true, true), (true, true), (gf a c, true), (ef a c, false), (false, false), (be2a a c, true), (false, false), (false, false), (true, true), (true, true), (true, true), (true, true), (true, true), (true, true), (false, false), (true, true), (false, false), (false, false), (false, false), (false, false), (false, false), (false, false), (true, true), (true, true), (true, true), (false, false)]
theorem path16 (a b c : Int) : runT bits16 a b c true = some (.bool true, log16 a b c, dgT (vvT (runT bits16 a b c true))) := by kernel_rfl
end Go.Proofs.YtknhohgnilamcaaGreatDoor.Ir
