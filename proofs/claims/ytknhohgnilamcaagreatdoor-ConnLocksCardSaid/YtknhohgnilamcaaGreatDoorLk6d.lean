/-
  The cases, run by the kernel.
-/
import Derived.Test.YtknhohgnilamcaaGreatDoorLk5
namespace Go.Proofs.YtknhohgnilamcaaGreatDoor.Ir
set_option maxRecDepth 100000
open Go Go.Proofs.YtknhohgnilamcaaGreatDoor
theorem case_15 (n m : Int) : caseOk n m 15 = true := by kernel_rfl
theorem case_16 (n m : Int) : caseOk n m 16 = true := by kernel_rfl
theorem case_17 (n m : Int) : caseOk n m 17 = true := by kernel_rfl
theorem case_18 (n m : Int) : caseOk n m 18 = true := by kernel_rfl
theorem case_19 (n m : Int) : caseOk n m 19 = true := by kernel_rfl
end Go.Proofs.YtknhohgnilamcaaGreatDoor.Ir
