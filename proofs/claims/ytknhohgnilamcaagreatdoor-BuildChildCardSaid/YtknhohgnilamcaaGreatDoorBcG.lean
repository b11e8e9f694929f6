/-
  What the row's list of sentinels gives: the machine's beginning stands for the world.
-/
import Derived.Test.YtknhohgnilamcaaGreatDoorBcB
import Derived.Test.YtknhohgnilamcaaGreatDoorCards
import Derived.LaidMore
import Derived.Lay
import Derived.ProofKit
namespace Go.Proofs.YtknhohgnilamcaaGreatDoor.Ir
set_option linter.unusedVariables false
set_option maxRecDepth 100000
open Go Go.Proofs.YtknhohgnilamcaaGreatDoor Go.ChangeShapes Go.WideShapes Go.ChangeAt Go.RowKit
def sl : List (String × List UInt8) := [("sargasso/api.ErrShape", [110, 111, 116, 32, 97, 115, 32, 105, 116, 32, 104, 97, 115, 32, 116, 111, 32, 98, 101]), ("sargasso/api.ErrKnown", [107, 110, 111, 119, 110, 32, 97, 108, 114, 101, 97, 100, 121]), ("sargasso/api.ErrClash", [97, 32, 99, 111, 105, 110, 32, 116, 104, 97, 116, 32, 105, 115, 32, 115, 112, 101, 110, 116, 32, 105, 110, 32, 116, 104, 101, 32, 112, 111, 111, 108])]
theorem gs_lt26 : gs.all (fun g => Nat.blt g 26) = true := by decide +kernel
noncomputable def sg0 : St := ⟨hG 313 26 0 gs, p60⟩
theorem sg0_ro : roT p60.nat sg0.h id = true := by decide +kernel
theorem sl_gs : sl.map (fun x => Tryz.prog.globalNamed x.1) = gs.map some := by kernel_rfl
theorem gs_type : gs.all (fun g => decide ((Tryz.prog.globals[g]?).map (·.type) = some 35)) = true := by decide +kernel
theorem star : "*" ++ "errors.errorString" = "*errors.errorString" := by decide
theorem err_row (u : TypeId) (h : Tryz.prog.typeName? 3 u = some "*errors.errorString") : u = 313 :=
  typeName_ptr_named (nm := "errors.errorString") (by rw [star]; kernel_rfl) (by kernel_rfl) (by decide) u (by rw [star]; exact h)
theorem begins {W : World} {laid : List (String × DataW Unit)} (hl : laid = sl.map (sentRow "*errors.errorString")) (hn : (laid.filter fun x => x.2.handleName?.isSome) = []) (h : laidMetH Tryz.prog laid W) : ∃ ι, Rep ι sg0 W ∧ Gl gs ι := by
  unfold laidMetH at h
  rw [hn] at h
  subst hl
  obtain ⟨ps, hv, hnd, hrows⟩ := h
  obtain ⟨as_, k1, rfl, k3⟩ := sents_of_laid (P := Tryz.prog) (tp := 313) (te := 339) (ti := 35) Tryz.underlying35 err_row Tryz.underlying313 Tryz.underlying339 rfl rfl Tryz.underlying9 (by kernel_rfl) (by kernel_rfl) sl gs ps sl_gs
    (fun g hg => of_decide_eq_true (List.all_eq_true.1 gs_type g hg)) hv hrows
  exact begin_of k1 (by decide +kernel) sl_gs (fun g hg => by
    have := gs_lt26
    have := List.all_eq_true.1 this g hg
    rw [blt_eq] at this
    simpa using this) hnd k3 (by decide +kernel)
end Go.Proofs.YtknhohgnilamcaaGreatDoor.Ir
