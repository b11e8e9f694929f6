/-
  The cases, run by the kernel.
-/
import Derived.Test.YtldidldbhngmnaaGreatDoorEnSix
set_option linter.unusedVariables false
set_option linter.unusedSimpArgs false
set_option linter.unusedSectionVars false
namespace Go.Proofs.YtldidldbhngmnaaGreatDoor.Ir
set_option maxRecDepth 100000
open Go Go.Proofs.YtldidldbhngmnaaGreatDoor
theorem path_5_1 (g : Nat → Int → Nat) (n a b : Int) : runT g [true,true,true,true,true,false,true,false] n a b = some (.bool true,rlog g n,fixT (vvT (runT g [true,true,true,true,true,false,true,false] n a b)) 24 0 (tn b 7 1) (tn a 6 5)) := by kernel_rfl
theorem path_4_5 (g : Nat → Int → Nat) (n a b : Int) : runT g [true,true,true,true,false,true,true,true,true,true,false] n a b = some (.bool true,rlog g n,fixT (vvT (runT g [true,true,true,true,false,true,true,true,true,true,false] n a b)) 24 0 (tn b 6 5) (tn a 6 4)) := by kernel_rfl
theorem path_0_1 (g : Nat → Int → Nat) (n a b : Int) : runT g [false,true,false] n a b = some (.bool true,rlog g n,fixT (vvT (runT g [false,true,false] n a b)) 24 0 (tn b 2 1) (tn a 6 0)) := by kernel_rfl
end Go.Proofs.YtldidldbhngmnaaGreatDoor.Ir
