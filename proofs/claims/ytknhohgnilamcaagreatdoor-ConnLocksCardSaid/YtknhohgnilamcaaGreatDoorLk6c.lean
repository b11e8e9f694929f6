/-
  The cases, run by the kernel.
-/
import Derived.Test.YtknhohgnilamcaaGreatDoorLk5
namespace Go.Proofs.YtknhohgnilamcaaGreatDoor.Ir
set_option maxRecDepth 100000
open Go Go.Proofs.YtknhohgnilamcaaGreatDoor
theorem case_10 (n m : Int) : caseOk n m 10 = true := by kernel_rfl
theorem case_11 (n m : Int) : caseOk n m 11 = true := by kernel_rfl
theorem case_12 (n m : Int) : caseOk n m 12 = true := by kernel_rfl
theorem case_13 (n m : Int) : caseOk n m 13 = true := by kernel_rfl
theorem case_14 (n m : Int) : caseOk n m 14 = true := by kernel_rfl
end Go.Proofs.YtknhohgnilamcaaGreatDoor.Ir
