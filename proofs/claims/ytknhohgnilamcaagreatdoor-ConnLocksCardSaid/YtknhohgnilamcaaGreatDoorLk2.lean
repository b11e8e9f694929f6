/-
  The machine's functions are the program's; its types; its sentinels' type.
-/
import Derived.Test.YtknhohgnilamcaaGreatDoorLk1
import Derived.Test.YtknhohgnilamcaaGreatDoorChecked
import Derived.KernelRfl
namespace Go.Proofs.YtknhohgnilamcaaGreatDoor.Ir
set_option linter.unusedVariables false
set_option maxRecDepth 100000
open Go Go.Proofs.YtknhohgnilamcaaGreatDoor
noncomputable def gs : List Nat := [14, 7, 15, 16, 0, 1, 10, 17, 5, 18, 19, 9, 2, 12, 3, 4, 13, 11, 6, 8, 20, 21, 22, 23, 24]
noncomputable def kts : List (Nat × List IntKind) := [(26, kk .u8 32), (29, kk .u8 32 ++ [.u32])]
theorem kts_ok : kts.all (fun x => keyB Tryz.prog x.1 x.2) = true := by decide +kernel
noncomputable def mks : List (Nat × KSh) := [(26, .cells (kk .u8 32)), (29, .cells (kk .u8 32 ++ [.u32]))]
theorem mks_ok : ∀ x ∈ mks, MapK Tryz.prog x.1 x.2 := by
  intro x hx
  simp only [mks, List.mem_cons, List.mem_nil_iff, or_false] at hx
  rcases hx with rfl | rfl
  · exact (key_of (List.all_eq_true.1 kts_ok (26, kk .u8 32) (by simp [kts]))).2
  · exact (key_of (List.all_eq_true.1 kts_ok (29, kk .u8 32 ++ [.u32]) (by simp [kts]))).2
theorem pt1 : PTok Tryz.prog 313 := ⟨⟨339, (Tryz.prog.info? 313).get!, (Tryz.prog.info? 339).get!, by kernel_rfl, by kernel_rfl, by kernel_rfl, by kernel_rfl, by
  have : Nat.beq (Tryz.prog.info? 339).get!.size 0 = false := by kernel_rfl
  intro h; rw [h] at this; cases this⟩⟩
noncomputable def E : Env Tryz.prog := ⟨gs, kts, fun x hx => (key_of (List.all_eq_true.1 kts_ok x hx)).1, mks, mks_ok, [313], fun t ht => by
  simp only [List.mem_cons, List.mem_nil_iff, or_false] at ht; subst ht; exact pt1⟩
noncomputable def mts : List (Nat × String × Pos) := [(30, "Get", p190)]
theorem mts_ok : MtOk Tryz.prog mts := ⟨fun x hx v w => by
  simp only [mts, List.mem_cons, List.mem_nil_iff, or_false] at hx
  subst hx
  have : (method (Tryz.prog.types.size + Made.depth) 30 v "Get").run Tryz.prog w = .ok (190, v) w := by kernel_rfl
  exact this⟩
theorem mixed : Tryz.prog.follows .mixedOrders = true := by decide +kernel
noncomputable def tabB : T FnE := T.set (.spec 0) p11 (T.set (.spec 1) p134 tabA)
noncomputable def tabC : T FnE := T.set (.spec 2) p8 (T.set (.spec 3) p9 tabB)
theorem tabA_ok : tabOk E tabA id = true := by decide +kernel
theorem tabB_ok : tabOk E tabB id = true := by decide +kernel
theorem tabC_ok : tabOk E tabC id = true := by decide +kernel
end Go.Proofs.YtknhohgnilamcaaGreatDoor.Ir
