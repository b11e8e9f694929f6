/-
  The machine's functions are the program's; its types; its sentinels' type; the machine without contracts.
-/
import Derived.Test.YtknhohgnilamcaaGreatDoorBc1
import Derived.Test.YtknhohgnilamcaaGreatDoorChecked
import Derived.KernelRfl
namespace Go.Proofs.YtknhohgnilamcaaGreatDoor.Ir
set_option linter.unusedVariables false
set_option maxRecDepth 100000
open Go Go.Proofs.YtknhohgnilamcaaGreatDoor
noncomputable def gs : List Nat := [7, 5, 6]
noncomputable def kts : List (Nat × List IntKind) := [(26, kk .u8 32), (29, kk .u8 32 ++ [.u32])]
theorem kts_ok : kts.all (fun x => keyB Tryz.prog x.1 x.2) = true := by decide +kernel
noncomputable def mks : List (Nat × KSh) := [(26, .cells (kk .u8 32)), (29, .cells (kk .u8 32 ++ [.u32]))]
theorem mks_ok : ∀ x ∈ mks, MapK Tryz.prog x.1 x.2 := by
  intro x hx
  simp only [mks, List.mem_cons, List.mem_nil_iff, or_false] at hx
  rcases hx with rfl | rfl
  · exact (key_of (List.all_eq_true.1 kts_ok (26, kk .u8 32) (by simp [kts]))).2
  · exact (key_of (List.all_eq_true.1 kts_ok (29, kk .u8 32 ++ [.u32]) (by simp [kts]))).2
theorem pt1 : PTok Tryz.prog 313 := ⟨⟨339, (Tryz.prog.info? 313).get!, (Tryz.prog.info? 339).get!, by kernel_rfl, by kernel_rfl, by kernel_rfl, by kernel_rfl, by
  have : Nat.beq (Tryz.prog.info? 339).get!.size 0 = false := by kernel_rfl
  intro h; rw [h] at this; cases this⟩⟩
noncomputable def E : Env Tryz.prog := ⟨gs, kts, fun x hx => (key_of (List.all_eq_true.1 kts_ok x hx)).1, mks, mks_ok, [313], fun t ht => by
  simp only [List.mem_cons, List.mem_nil_iff, or_false] at ht
  rcases ht with rfl
  · exact pt1⟩
theorem mixed : Tryz.prog.follows .mixedOrders = true := by decide +kernel
theorem tabA_ok : tabOk E tabA id = true := by decide +kernel
theorem tabA_no : noSpec tabA = true := by decide +kernel
noncomputable def machA : Mach := ⟨tabA, fun _ _ _ => none, [313], []⟩
theorem mtA : MtOk Tryz.prog [] := ⟨fun x hx => by cases hx⟩
theorem okA : MOk Tryz.prog E machA (okD E) := mok_of rfl mtA mixed tabA_ok (fun f s h => absurd h (noSpec_get tabA_no f s))
theorem gs_lt : gs.all (fun g => Nat.blt (g + 1) p60.nat) = true := by decide +kernel
theorem gs_lt' : ∀ g ∈ gs, g + 1 < p60.nat := fun g hg => by
  have := List.all_eq_true.1 gs_lt g hg
  rw [blt_eq] at this
  simpa using this
noncomputable def mts : List (Nat × String × Pos) := [(171, "Len", p146), (171, "Less", p241), (171, "Swap", p244), (171, "Push", p243)]
theorem mts_ok : MtOk Tryz.prog mts := ⟨fun x hx v w => by
  simp only [mts, List.mem_cons, List.mem_nil_iff, or_false] at hx
  rcases hx with rfl | rfl | rfl | rfl
  · have : (method (Tryz.prog.types.size + Made.depth) 171 v "Len").run Tryz.prog w = .ok (146, v) w := by kernel_rfl
    exact this
  · have : (method (Tryz.prog.types.size + Made.depth) 171 v "Less").run Tryz.prog w = .ok (241, v) w := by kernel_rfl
    exact this
  · have : (method (Tryz.prog.types.size + Made.depth) 171 v "Swap").run Tryz.prog w = .ok (244, v) w := by kernel_rfl
    exact this
  · have : (method (Tryz.prog.types.size + Made.depth) 171 v "Push").run Tryz.prog w = .ok (243, v) w := by kernel_rfl
    exact this⟩
end Go.Proofs.YtknhohgnilamcaaGreatDoor.Ir
