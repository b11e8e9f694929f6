/-
  The cases, run by the kernel.
-/
import Derived.Test.YtknhohgnilamcaaGreatDoorLk5
namespace Go.Proofs.YtknhohgnilamcaaGreatDoor.Ir
set_option maxRecDepth 100000
open Go Go.Proofs.YtknhohgnilamcaaGreatDoor
theorem case_5 (n m : Int) : caseOk n m 5 = true := by kernel_rfl
theorem case_6 (n m : Int) : caseOk n m 6 = true := by kernel_rfl
theorem case_7 (n m : Int) : caseOk n m 7 = true := by kernel_rfl
theorem case_8 (n m : Int) : caseOk n m 8 = true := by kernel_rfl
theorem case_9 (n m : Int) : caseOk n m 9 = true := by kernel_rfl
end Go.Proofs.YtknhohgnilamcaaGreatDoor.Ir
