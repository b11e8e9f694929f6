/-
  The cases, run by the kernel.
-/
import Derived.Test.YtldidldbhngmnaaGreatDoorEnSix
set_option linter.unusedVariables false
set_option linter.unusedSimpArgs false
set_option linter.unusedSectionVars false
namespace Go.Proofs.YtldidldbhngmnaaGreatDoor.Ir
set_option maxRecDepth 100000
open Go Go.Proofs.YtldidldbhngmnaaGreatDoor
theorem path_5_3 (g : Nat → Int → Nat) (n a b : Int) : runT g [true,true,true,true,true,false,true,true,true,false] n a b = some (.bool true,rlog g n,fixT (vvT (runT g [true,true,true,true,true,false,true,true,true,false] n a b)) 24 0 (tn b 7 3) (tn a 6 5)) := by kernel_rfl
theorem path_3_1 (g : Nat → Int → Nat) (n a b : Int) : runT g [true,true,true,false,true,false] n a b = some (.bool true,rlog g n,fixT (vvT (runT g [true,true,true,false,true,false] n a b)) 24 0 (tn b 5 1) (tn a 6 3)) := by kernel_rfl
theorem path_2_1 (g : Nat → Int → Nat) (n a b : Int) : runT g [true,true,false,true,false] n a b = some (.bool true,rlog g n,fixT (vvT (runT g [true,true,false,true,false] n a b)) 24 0 (tn b 4 1) (tn a 6 2)) := by kernel_rfl
end Go.Proofs.YtldidldbhngmnaaGreatDoor.Ir
