/-
  The machine's functions are the program's; its types; its sentinels' type; the machine without contracts.
-/
import Derived.Test.YtcecdaeceipbnaaGreatDoorNr1
import Derived.Test.YtcecdaeceipbnaaGreatDoorChecked
import Derived.KernelRfl
namespace Go.Proofs.YtcecdaeceipbnaaGreatDoor.Ir
set_option linter.unusedVariables false
set_option maxRecDepth 100000
open Go Go.Proofs.YtcecdaeceipbnaaGreatDoor
noncomputable def gs : List Nat := [3, 1, 4, 5, 6, 7, 8, 9, 10, 11, 12, 13, 14, 15, 16, 17, 18, 19, 20, 21, 2, 0, 22, 23, 24]
noncomputable def kts : List (Nat × List IntKind) := [(35, kk .u8 32), (112, kk .u8 32 ++ [.u32])]
theorem kts_ok : kts.all (fun x => keyB Tryz.prog x.1 x.2) = true := by decide +kernel
noncomputable def mks : List (Nat × KSh) := [(35, .cells (kk .u8 32)), (112, .cells (kk .u8 32 ++ [.u32])), (3, .int .i64)]
theorem mks_ok : ∀ x ∈ mks, MapK Tryz.prog x.1 x.2 := by
  intro x hx
  simp only [mks, List.mem_cons, List.mem_nil_iff, or_false] at hx
  rcases hx with rfl | rfl | rfl
  · exact (key_of (List.all_eq_true.1 kts_ok (35, kk .u8 32) (by simp [kts]))).2
  · exact (key_of (List.all_eq_true.1 kts_ok (112, kk .u8 32 ++ [.u32]) (by simp [kts]))).2
  · exact mapK_int Tryz.underlying3
theorem pt1 : PTok Tryz.prog 372 := ⟨⟨389, (Tryz.prog.info? 372).get!, (Tryz.prog.info? 389).get!, by kernel_rfl, by kernel_rfl, by kernel_rfl, by kernel_rfl, by
  have : Nat.beq (Tryz.prog.info? 389).get!.size 0 = false := by kernel_rfl
  intro h; rw [h] at this; cases this⟩⟩
noncomputable def E : Env Tryz.prog := ⟨gs, kts, fun x hx => (key_of (List.all_eq_true.1 kts_ok x hx)).1, mks, mks_ok, [372], fun t ht => by
  simp only [List.mem_cons, List.mem_nil_iff, or_false] at ht
  rcases ht with rfl
  · exact pt1⟩
theorem mixed : Tryz.prog.follows .mixedOrders = true := by decide +kernel
theorem tabA_ok : tabOk E tabA id = true := by decide +kernel
theorem tabA_no : noSpec tabA = true := by decide +kernel
noncomputable def machA : Mach := ⟨tabA, fun _ _ _ => none, [372], []⟩
theorem mtA : MtOk Tryz.prog [] := ⟨fun x hx => by cases hx⟩
theorem okA : MOk Tryz.prog E machA (okD E) := mok_of rfl mtA mixed tabA_ok (fun f s h => absurd h (noSpec_get tabA_no f s))
theorem gs_lt : gs.all (fun g => Nat.blt (g + 1) p60.nat) = true := by decide +kernel
theorem gs_lt' : ∀ g ∈ gs, g + 1 < p60.nat := fun g hg => by
  have := List.all_eq_true.1 gs_lt g hg
  rw [blt_eq] at this
  simpa using this
noncomputable def mts : List (Nat × String × Pos) := []
theorem mts_ok : MtOk Tryz.prog mts := mtA
end Go.Proofs.YtcecdaeceipbnaaGreatDoor.Ir
