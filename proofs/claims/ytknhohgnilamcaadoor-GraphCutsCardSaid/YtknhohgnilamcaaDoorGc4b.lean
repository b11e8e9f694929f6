/-
  The cases, run by the kernel.
-/
import Derived.Test.YtknhohgnilamcaaDoorGc3
namespace Go.Proofs.YtknhohgnilamcaaDoor.Ir
set_option maxRecDepth 100000
open Go Go.Proofs.YtknhohgnilamcaaDoor
theorem case_5 (n : Int) : okV (F n (.ofNat 5)) (.bool true) = true := by kernel_rfl
theorem case_6 (n : Int) : okV (F n (.ofNat 6)) (.bool true) = true := by kernel_rfl
end Go.Proofs.YtknhohgnilamcaaDoor.Ir
