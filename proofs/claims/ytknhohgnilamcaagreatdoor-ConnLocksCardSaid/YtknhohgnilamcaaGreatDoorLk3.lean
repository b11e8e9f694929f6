/-
  The hashes on the road, each run once by the kernel.
-/
import Derived.Test.YtknhohgnilamcaaGreatDoorLk2
namespace Go.Proofs.YtknhohgnilamcaaGreatDoor.Ir
set_option linter.unusedVariables false
set_option maxRecDepth 100000
open Go Go.Proofs.YtknhohgnilamcaaGreatDoor
noncomputable def machA : Mach := ⟨tabA, fun _ _ _ => none, [313], []⟩
noncomputable def stb (l : List Nat) : St := ⟨T.set (.cells (bs l) [] false true) p60 .nil, p60.succ⟩
noncomputable def zeros : List Nat := []
noncomputable def t94 : List Nat := [1, 0, 0, 0, 1, 0, 0, 0, 0, 0, 0, 0, 0, 0, 0, 0, 0, 0, 0, 0, 0, 0, 0, 0, 0, 0, 0, 0, 0, 0, 0, 0, 0, 0, 0, 0, 0, 255, 255, 255, 255, 4, 0, 0, 0, 0, 255, 255, 255, 255, 1, 0, 0, 0, 0, 0, 0, 0, 0, 227, 176, 196, 66, 152, 252, 28, 20, 154, 251, 244, 200, 153, 111, 185, 36, 39, 174, 65, 228, 100, 155, 147, 76, 164, 149, 153, 27, 120, 82, 184, 85, 0, 0, 0, 0]
noncomputable def dd0 : List Nat := [227, 176, 196, 66, 152, 252, 28, 20, 154, 251, 244, 200, 153, 111, 185, 36, 39, 174, 65, 228, 100, 155, 147, 76, 164, 149, 153, 27, 120, 82, 184, 85]
noncomputable def dd94 : List Nat := [226, 212, 35, 214, 46, 175, 204, 89, 87, 160, 216, 26, 59, 207, 202, 181, 76, 42, 101, 131, 243, 67, 18, 202, 96, 192, 85, 141, 48, 72, 148, 173]
noncomputable def dd94d : List Nat := [28, 207, 84, 42, 24, 231, 25, 24, 254, 57, 27, 244, 18, 226, 18, 250, 202, 67, 122, 23, 155, 197, 117, 124, 31, 27, 172, 177, 145, 231, 128, 147]
noncomputable def dd6 : List Nat := [103, 88, 110, 152, 250, 210, 125, 160, 185, 150, 139, 192, 57, 161, 239, 52, 201, 57, 185, 184, 229, 35, 168, 190, 248, 157, 71, 134, 8, 197, 236, 246]
theorem h0 : okV (runFnQ machA 300 p11 [.nils] ⟨.nil, p60⟩) (.agg (bs dd0)) = true := by decide +kernel
theorem h94 : okV (runFnQ machA 300 p11 [.slice p60 0 95 none 1] (stb t94)) (.agg (bs dd94)) = true := by decide +kernel
theorem h32 : okV (runFnQ machA 300 p11 [.slice p60 0 32 none 1] (stb dd94)) (.agg (bs dd94d)) = true := by decide +kernel
theorem h6 : okV (runFnQ machA 300 p11 [.slice p60 0 1 none 1] (stb [6])) (.agg (bs dd6)) = true := by decide +kernel
theorem k6 : okV (runFnQ machA 300 p134 [.slice p60 0 1 none 1] (stb [6])) (.agg (bs dd6)) = true := by decide +kernel
end Go.Proofs.YtknhohgnilamcaaGreatDoor.Ir
