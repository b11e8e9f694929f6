/-
  The cases, run by the kernel.
-/
import Derived.Test.YtcecdaeceipbnaaGreatDoorNr3
namespace Go.Proofs.YtcecdaeceipbnaaGreatDoor.Ir
set_option linter.unusedVariables false
set_option linter.unusedSimpArgs false
set_option maxRecDepth 100000
open Go Go.Proofs.YtcecdaeceipbnaaGreatDoor
theorem path_0_0_0 (a b : Int) : runT [false, false] a b false = some (.bool true, [], fixT (vvT (runT [false, false] a b false)) 1 30 (tn b 9 0) (tn a 6 0)) := by kernel_rfl
theorem path_0_0_1 (a b : Int) : runT [false, false] a b true = some (.bool true, [], fixT (vvT (runT [false, false] a b true)) 1 30 (tn b 9 0) (tn a 6 0)) := by kernel_rfl
theorem path_0_1_0 (a b : Int) : runT [false, true, false] a b false = some (.bool true, [], fixT (vvT (runT [false, true, false] a b false)) 1 30 (tn b 9 1) (tn a 6 0)) := by kernel_rfl
theorem path_0_1_1 (a b : Int) : runT [false, true, false] a b true = some (.bool true, [], fixT (vvT (runT [false, true, false] a b true)) 1 30 (tn b 9 1) (tn a 6 0)) := by kernel_rfl
theorem path_0_2_0 (a b : Int) : runT [false, true, true, false] a b false = some (.bool true, [], fixT (vvT (runT [false, true, true, false] a b false)) 1 30 (tn b 9 2) (tn a 6 0)) := by kernel_rfl
theorem path_0_2_1 (a b : Int) : runT [false, true, true, false] a b true = some (.bool true, [], fixT (vvT (runT [false, true, true, false] a b true)) 1 30 (tn b 9 2) (tn a 6 0)) := by kernel_rfl
theorem path_0_3_0 (a b : Int) : runT [false, true, true, true, false] a b false = some (.bool true, [], fixT (vvT (runT [false, true, true, true, false] a b false)) 1 30 (tn b 9 3) (tn a 6 0)) := by kernel_rfl
theorem path_0_3_1 (a b : Int) : runT [false, true, true, true, false] a b true = some (.bool true, [], fixT (vvT (runT [false, true, true, true, false] a b true)) 1 30 (tn b 9 3) (tn a 6 0)) := by kernel_rfl
theorem path_0_4_0 (a b : Int) : runT [false, true, true, true, true, false] a b false = some (.bool true, [], fixT (vvT (runT [false, true, true, true, true, false] a b false)) 1 30 (tn b 9 4) (tn a 6 0)) := by kernel_rfl
theorem path_0_4_1 (a b : Int) : runT [false, true, true, true, true, false] a b true = some (.bool true, [], fixT (vvT (runT [false, true, true, true, true, false] a b true)) 1 30 (tn b 9 4) (tn a 6 0)) := by kernel_rfl
theorem path_0_5_0 (a b : Int) : runT [false, true, true, true, true, true, false] a b false = some (.bool true, [], fixT (vvT (runT [false, true, true, true, true, true, false] a b false)) 1 30 (tn b 9 5) (tn a 6 0)) := by kernel_rfl
theorem path_0_5_1 (a b : Int) : runT [false, true, true, true, true, true, false] a b true = some (.bool true, [], fixT (vvT (runT [false, true, true, true, true, true, false] a b true)) 1 30 (tn b 9 5) (tn a 6 0)) := by kernel_rfl
theorem path_0_6_0 (a b : Int) : runT [false, true, true, true, true, true, true, false] a b false = some (.bool true, [], fixT (vvT (runT [false, true, true, true, true, true, true, false] a b false)) 1 30 (tn b 9 6) (tn a 6 0)) := by kernel_rfl
theorem path_0_6_1 (a b : Int) : runT [false, true, true, true, true, true, true, false] a b true = some (.bool true, [], fixT (vvT (runT [false, true, true, true, true, true, true, false] a b true)) 1 30 (tn b 9 6) (tn a 6 0)) := by kernel_rfl
theorem path_0_7_0 (a b : Int) : runT [false, true, true, true, true, true, true, true, false] a b false = some (.bool true, [], fixT (vvT (runT [false, true, true, true, true, true, true, true, false] a b false)) 1 30 (tn b 9 7) (tn a 6 0)) := by kernel_rfl
theorem path_0_7_1 (a b : Int) : runT [false, true, true, true, true, true, true, true, false] a b true = some (.bool true, [], fixT (vvT (runT [false, true, true, true, true, true, true, true, false] a b true)) 1 30 (tn b 9 7) (tn a 6 0)) := by kernel_rfl
theorem path_0_8_0 (a b : Int) : runT [false, true, true, true, true, true, true, true, true, false] a b false = some (.bool true, [], fixT (vvT (runT [false, true, true, true, true, true, true, true, true, false] a b false)) 1 30 (tn b 9 8) (tn a 6 0)) := by kernel_rfl
theorem path_0_8_1 (a b : Int) : runT [false, true, true, true, true, true, true, true, true, false] a b true = some (.bool true, [], fixT (vvT (runT [false, true, true, true, true, true, true, true, true, false] a b true)) 1 30 (tn b 9 8) (tn a 6 0)) := by kernel_rfl
end Go.Proofs.YtcecdaeceipbnaaGreatDoor.Ir
