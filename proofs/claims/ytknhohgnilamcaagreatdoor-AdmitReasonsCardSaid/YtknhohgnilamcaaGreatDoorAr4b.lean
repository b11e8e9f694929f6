/-
  The cases, run by the kernel.
-/
import Derived.Test.YtknhohgnilamcaaGreatDoorAr3
namespace Go.Proofs.YtknhohgnilamcaaGreatDoor.Ir
set_option maxRecDepth 100000
open Go Go.Proofs.YtknhohgnilamcaaGreatDoor
theorem case_13 (n m : Int) : okV (F n m (.ofNat 13)) (.bool true) = true := by kernel_rfl
theorem case_14 (n m : Int) : okV (F n m (.ofNat 14)) (.bool true) = true := by kernel_rfl
theorem case_15 (n m : Int) : okV (F n m (.ofNat 15)) (.bool true) = true := by kernel_rfl
theorem case_16 (n m : Int) : okV (F n m (.ofNat 16)) (.bool true) = true := by kernel_rfl
theorem case_17 (n m : Int) : okV (F n m (.ofNat 17)) (.bool true) = true := by kernel_rfl
theorem case_18 (n m : Int) : okV (F n m (.ofNat 18)) (.bool true) = true := by kernel_rfl
theorem case_19 (n m : Int) : okV (F n m (.ofNat 19)) (.bool true) = true := by kernel_rfl
theorem case_20 (n m : Int) : okV (F n m (.ofNat 20)) (.bool true) = true := by kernel_rfl
theorem case_21 (n m : Int) : okV (F n m (.ofNat 21)) (.bool true) = true := by kernel_rfl
theorem case_22 (n m : Int) : okV (F n m (.ofNat 22)) (.bool true) = true := by kernel_rfl
theorem case_23 (n m : Int) : okV (F n m (.ofNat 23)) (.bool true) = true := by kernel_rfl
theorem case_24 (n m : Int) : okV (F n m (.ofNat 24)) (.bool true) = true := by kernel_rfl
end Go.Proofs.YtknhohgnilamcaaGreatDoor.Ir
