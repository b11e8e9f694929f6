/-
  The cases, run by the kernel.
-/
import Derived.Test.YtknhohgnilamcaaGreatDoorAr3
namespace Go.Proofs.YtknhohgnilamcaaGreatDoor.Ir
set_option maxRecDepth 100000
open Go Go.Proofs.YtknhohgnilamcaaGreatDoor
theorem case_0 (n m : Int) : okV (F n m (.ofNat 0)) (.bool true) = true := by kernel_rfl
theorem case_1 (n m : Int) : okV (F n m (.ofNat 1)) (.bool true) = true := by kernel_rfl
theorem case_2 (n m : Int) : okV (F n m (.ofNat 2)) (.bool true) = true := by kernel_rfl
theorem case_3 (n m : Int) : okV (F n m (.ofNat 3)) (.bool true) = true := by kernel_rfl
theorem case_4 (n m : Int) : okV (F n m (.ofNat 4)) (.bool true) = true := by kernel_rfl
theorem case_5 (n m : Int) : okV (F n m (.ofNat 5)) (.bool true) = true := by kernel_rfl
theorem case_6 (n m : Int) : okV (F n m (.ofNat 6)) (.bool true) = true := by kernel_rfl
theorem case_7 (n m : Int) : okV (F n m (.ofNat 7)) (.bool true) = true := by kernel_rfl
theorem case_8 (n m : Int) : okV (F n m (.ofNat 8)) (.bool true) = true := by kernel_rfl
theorem case_9 (n m : Int) : okV (F n m (.ofNat 9)) (.bool true) = true := by kernel_rfl
theorem case_10 (n m : Int) : okV (F n m (.ofNat 10)) (.bool true) = true := by kernel_rfl
theorem case_11 (n m : Int) : okV (F n m (.ofNat 11)) (.bool true) = true := by kernel_rfl
theorem case_12 (n m : Int) : okV (F n m (.ofNat 12)) (.bool true) = true := by kernel_rfl
end Go.Proofs.YtknhohgnilamcaaGreatDoor.Ir
