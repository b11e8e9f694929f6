/-
  The machine's functions are the program's; its types; its sentinels' type; the machine without contracts.
-/
import Derived.Test.YtknhohgnilamcaaGreatDoorAr1
import Derived.Test.YtknhohgnilamcaaGreatDoorChecked
import Derived.KernelRfl
namespace Go.Proofs.YtknhohgnilamcaaGreatDoor.Ir
set_option linter.unusedVariables false
set_option maxRecDepth 100000
open Go Go.Proofs.YtknhohgnilamcaaGreatDoor
noncomputable def gs : List Nat := [14, 7, 15, 16, 0, 1, 10, 17, 5, 18, 19, 9, 2, 12, 3, 4, 13, 11, 6, 8, 20, 21, 22, 23, 24]
noncomputable def kts : List (Nat × List IntKind) := [(26, kk .u8 32), (29, kk .u8 32 ++ [.u32])]
theorem kts_ok : kts.all (fun x => keyB Tryz.prog x.1 x.2) = true := by decide +kernel
noncomputable def mks : List (Nat × KSh) := [(26, .cells (kk .u8 32)), (29, .cells (kk .u8 32 ++ [.u32]))]
theorem mks_ok : ∀ x ∈ mks, MapK Tryz.prog x.1 x.2 := by
  intro x hx
  simp only [mks, List.mem_cons, List.mem_nil_iff, or_false] at hx
  rcases hx with rfl | rfl
  · exact (key_of (List.all_eq_true.1 kts_ok (26, kk .u8 32) (by simp [kts]))).2
  · exact (key_of (List.all_eq_true.1 kts_ok (29, kk .u8 32 ++ [.u32]) (by simp [kts]))).2
theorem pt1 : PTok Tryz.prog 313 := ⟨⟨339, (Tryz.prog.info? 313).get!, (Tryz.prog.info? 339).get!, by kernel_rfl, by kernel_rfl, by kernel_rfl, by kernel_rfl, by
  have : Nat.beq (Tryz.prog.info? 339).get!.size 0 = false := by kernel_rfl
  intro h; rw [h] at this; cases this⟩⟩
theorem pt2 : PTok Tryz.prog 77 := ⟨⟨79, (Tryz.prog.info? 77).get!, (Tryz.prog.info? 79).get!, by kernel_rfl, by kernel_rfl, by kernel_rfl, by kernel_rfl, by
  have : Nat.beq (Tryz.prog.info? 79).get!.size 0 = false := by kernel_rfl
  intro h; rw [h] at this; cases this⟩⟩
noncomputable def E : Env Tryz.prog := ⟨gs, kts, fun x hx => (key_of (List.all_eq_true.1 kts_ok x hx)).1, mks, mks_ok, [313, 77], fun t ht => by
  simp only [List.mem_cons, List.mem_nil_iff, or_false] at ht
  rcases ht with rfl | rfl
  · exact pt1
  · exact pt2⟩
theorem mixed : Tryz.prog.follows .mixedOrders = true := by decide +kernel
theorem tabA_ok : tabOk E tabA id = true := by decide +kernel
theorem tabA_no : noSpec tabA = true := by decide +kernel
noncomputable def machA : Mach := ⟨tabA, fun _ _ _ => none, [313, 77], []⟩
theorem mtA : MtOk Tryz.prog [] := ⟨fun x hx => by cases hx⟩
theorem okA : MOk Tryz.prog E machA (okD E) := mok_of rfl mtA mixed tabA_ok (fun f s h => absurd h (noSpec_get tabA_no f s))
theorem gs_lt : gs.all (fun g => Nat.blt (g + 1) p60.nat) = true := by decide +kernel
theorem gs_lt' : ∀ g ∈ gs, g + 1 < p60.nat := fun g hg => by
  have := List.all_eq_true.1 gs_lt g hg
  rw [blt_eq] at this
  simpa using this
noncomputable def mts : List (Nat × String × Pos) := [(77, "Unwrap", p239)]
theorem mts_ok : MtOk Tryz.prog mts := ⟨fun x hx v w => by
  simp only [mts, List.mem_cons, List.mem_nil_iff, or_false] at hx
  subst hx
  have : (method (Tryz.prog.types.size + Made.depth) 77 v "Unwrap").run Tryz.prog w = .ok (239, v) w := by kernel_rfl
  exact this⟩
end Go.Proofs.YtknhohgnilamcaaGreatDoor.Ir
