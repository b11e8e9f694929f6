/-
  The machine's functions are the program's; its types; its sentinels' type; the machine without contracts.
-/
import Derived.Test.YtknhohgnilamcaaDoorGc1
import Derived.Test.YtknhohgnilamcaaDoorChecked
import Derived.KernelRfl
namespace Go.Proofs.YtknhohgnilamcaaDoor.Ir
set_option linter.unusedVariables false
set_option maxRecDepth 100000
open Go Go.Proofs.YtknhohgnilamcaaDoor
noncomputable def gs : List Nat := [5, 2, 6, 7, 8, 9, 10, 11, 0, 12, 13, 14, 15, 16, 17, 18, 19, 20, 1, 21, 22, 23, 3, 24, 25]
noncomputable def kts : List (Nat × List IntKind) := [(32, kk .u8 32), (35, kk .u8 32 ++ [.u32])]
theorem kts_ok : kts.all (fun x => keyB Tryd.prog x.1 x.2) = true := by decide +kernel
noncomputable def mks : List (Nat × KSh) := [(32, .cells (kk .u8 32)), (35, .cells (kk .u8 32 ++ [.u32]))]
theorem mks_ok : ∀ x ∈ mks, MapK Tryd.prog x.1 x.2 := by
  intro x hx
  simp only [mks, List.mem_cons, List.mem_nil_iff, or_false] at hx
  rcases hx with rfl | rfl
  · exact (key_of (List.all_eq_true.1 kts_ok (32, kk .u8 32) (by simp [kts]))).2
  · exact (key_of (List.all_eq_true.1 kts_ok (35, kk .u8 32 ++ [.u32]) (by simp [kts]))).2
theorem pt1 : PTok Tryd.prog 152 := ⟨⟨170, (Tryd.prog.info? 152).get!, (Tryd.prog.info? 170).get!, by kernel_rfl, by kernel_rfl, by kernel_rfl, by kernel_rfl, by
  have : Nat.beq (Tryd.prog.info? 170).get!.size 0 = false := by kernel_rfl
  intro h; rw [h] at this; cases this⟩⟩
noncomputable def E : Env Tryd.prog := ⟨gs, kts, fun x hx => (key_of (List.all_eq_true.1 kts_ok x hx)).1, mks, mks_ok, [152], fun t ht => by
  simp only [List.mem_cons, List.mem_nil_iff, or_false] at ht; subst ht; exact pt1⟩
theorem mixed : Tryd.prog.follows .mixedOrders = true := by decide +kernel
theorem tabA_ok : tabOk E tabA id = true := by decide +kernel
theorem tabA_no : noSpec tabA = true := by decide +kernel
noncomputable def machA : Mach := ⟨tabA, fun _ _ _ => none, [152], []⟩
theorem mtA : MtOk Tryd.prog [] := ⟨fun x hx => by cases hx⟩
theorem okA : MOk Tryd.prog E machA (okD E) := mok_of rfl mtA mixed tabA_ok (fun f s h => absurd h (noSpec_get tabA_no f s))
theorem gs_lt : gs.all (fun g => Nat.blt (g + 1) p60.nat) = true := by decide +kernel
theorem gs_lt' : ∀ g ∈ gs, g + 1 < p60.nat := fun g hg => by
  have := List.all_eq_true.1 gs_lt g hg
  rw [blt_eq] at this
  simpa using this
noncomputable def mts : List (Nat × String × Pos) := []
theorem mts_ok : MtOk Tryd.prog mts := mtA
end Go.Proofs.YtknhohgnilamcaaDoor.Ir
