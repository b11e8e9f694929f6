/-
  The cases, run by the kernel.
-/
import Derived.Test.YtknhohgnilamcaaDoorGc3
namespace Go.Proofs.YtknhohgnilamcaaDoor.Ir
set_option maxRecDepth 100000
open Go Go.Proofs.YtknhohgnilamcaaDoor
theorem case_0 (n : Int) : okV (F n (.ofNat 0)) (.bool true) = true := by kernel_rfl
theorem case_1 (n : Int) : okV (F n (.ofNat 1)) (.bool true) = true := by kernel_rfl
theorem case_2 (n : Int) : okV (F n (.ofNat 2)) (.bool true) = true := by kernel_rfl
theorem case_3 (n : Int) : okV (F n (.ofNat 3)) (.bool true) = true := by kernel_rfl
theorem case_4 (n : Int) : okV (F n (.ofNat 4)) (.bool true) = true := by kernel_rfl
end Go.Proofs.YtknhohgnilamcaaDoor.Ir
