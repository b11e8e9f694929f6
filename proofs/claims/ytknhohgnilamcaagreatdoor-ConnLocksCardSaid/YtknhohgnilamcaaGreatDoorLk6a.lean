/-
  The cases, run by the kernel.
-/
import Derived.Test.YtknhohgnilamcaaGreatDoorLk5
namespace Go.Proofs.YtknhohgnilamcaaGreatDoor.Ir
set_option maxRecDepth 100000
open Go Go.Proofs.YtknhohgnilamcaaGreatDoor
theorem case_0 (n m : Int) : caseOk n m 0 = true := by kernel_rfl
theorem case_1 (n m : Int) : caseOk n m 1 = true := by kernel_rfl
theorem case_2 (n m : Int) : caseOk n m 2 = true := by kernel_rfl
theorem case_3 (n m : Int) : caseOk n m 3 = true := by kernel_rfl
theorem case_4 (n m : Int) : caseOk n m 4 = true := by kernel_rfl
end Go.Proofs.YtknhohgnilamcaaGreatDoor.Ir
