/-
  What the row's list of sentinels gives: the machine's beginning stands for the world.
-/
import Derived.Test.YtcecdaeceipbnaaGreatDoorNrB
import Derived.Test.YtcecdaeceipbnaaGreatDoorCards
import Derived.LaidMore
import Derived.Lay
import Derived.ProofKit
namespace Go.Proofs.YtcecdaeceipbnaaGreatDoor.Ir
set_option linter.unusedVariables false
set_option maxRecDepth 100000
open Go Go.Proofs.YtcecdaeceipbnaaGreatDoor Go.ChangeShapes Go.WideShapes Go.ChangeAt Go.RowKit
def sl : List (String × List UInt8) := [("sargasso/api.ErrEnd", [105, 116, 32, 101, 110, 100, 115, 32, 116, 111, 111, 32, 101, 97, 114, 108, 121]), ("sargasso/api.ErrShape", [110, 111, 116, 32, 97, 115, 32, 105, 116, 32, 104, 97, 115, 32, 116, 111, 32, 98, 101]), ("sargasso/api.ErrLong", [116, 111, 111, 32, 108, 111, 110, 103]), ("sargasso/api.ErrMany", [116, 111, 111, 32, 109, 97, 110, 121, 44, 32, 111, 114, 32, 116, 111, 111, 32, 102, 101, 119]), ("sargasso/api.ErrValue", [97, 110, 32, 97, 109, 111, 117, 110, 116, 32, 116, 104, 97, 116, 32, 99, 97, 110, 39, 116, 32, 98, 101]), ("sargasso/api.ErrTwice", [111, 110, 101, 32, 116, 104, 105, 110, 103, 32, 116, 119, 105, 99, 101]), ("sargasso/api.ErrBase", [110, 111, 32, 102, 105, 114, 115, 116, 32, 116, 114, 97, 110, 115, 97, 99, 116, 105, 111, 110, 32, 119, 104, 101, 114, 101, 32, 116, 104, 101, 114, 101, 32, 104, 97, 115, 32, 116, 111, 32, 98, 101, 32, 111, 110, 101, 44, 32, 111, 114, 32, 111, 110, 101, 32, 119, 104, 101, 114, 101, 32, 116, 104, 101, 114, 101, 32, 109, 97, 121, 32, 98, 101, 32, 110, 111, 110, 101]), ("sargasso/api.ErrRoot", [97, 32, 114, 111, 111, 116, 32, 116, 104, 97, 116, 32, 100, 111, 101, 115, 32, 110, 111, 116, 32, 102, 105, 116]), ("sargasso/api.ErrKnown", [107, 110, 111, 119, 110, 32, 97, 108, 114, 101, 97, 100, 121]), ("sargasso/api.ErrParent", [110, 111, 32, 115, 117, 99, 104, 32, 112, 97, 114, 101, 110, 116]), ("sargasso/api.ErrInvalid", [98, 101, 104, 105, 110, 100, 32, 119, 104, 97, 116, 32, 105, 115, 32, 110, 111, 116, 32, 118, 97, 108, 105, 100]), ("sargasso/api.ErrTime", [97, 32, 116, 105, 109, 101, 32, 116, 104, 97, 116, 32, 105, 115, 32, 116, 111, 111, 32, 101, 97, 114, 108, 121]), ("sargasso/api.ErrMissing", [97, 32, 99, 111, 105, 110, 32, 116, 104, 97, 116, 32, 105, 115, 32, 110, 111, 116, 32, 116, 104, 101, 114, 101]), ("sargasso/api.ErrKey", [97, 32, 107, 101, 121, 32, 116, 104, 97, 116, 32, 100, 111, 101, 115, 32, 110, 111, 116, 32, 102, 105, 116]), ("sargasso/api.ErrYoung", [97, 32, 99, 111, 105, 110, 32, 116, 104, 97, 116, 32, 105, 115, 32, 116, 111, 111, 32, 121, 111, 117, 110, 103]), ("sargasso/api.ErrEarly", [116, 111, 111, 32, 101, 97, 114, 108, 121, 32, 116, 111, 32, 98, 101, 32, 116, 97, 107, 101, 110]), ("sargasso/api.ErrLess", [108, 101, 115, 115, 32, 99, 111, 109, 101, 115, 32, 105, 110, 32, 116, 104, 97, 110, 32, 103, 111, 101, 115, 32, 111, 117, 116]), ("sargasso/api.ErrReward", [109, 111, 114, 101, 32, 116, 104, 97, 110, 32, 116, 104, 101, 32, 114, 101, 119, 97, 114, 100]), ("sargasso/api.ErrClash", [97, 32, 99, 111, 105, 110, 32, 116, 104, 97, 116, 32, 105, 115, 32, 115, 112, 101, 110, 116, 32, 105, 110, 32, 116, 104, 101, 32, 112, 111, 111, 108]), ("sargasso/api.ErrLimit", [116, 111, 111, 32, 109, 97, 110, 121, 32, 116, 104, 97, 116, 32, 104, 97, 110, 103, 32, 116, 111, 103, 101, 116, 104, 101, 114]), ("sargasso/api.ErrFull", [116, 104, 101, 114, 101, 32, 105, 115, 32, 110, 111, 32, 114, 111, 111, 109]), ("sargasso/api.ErrRange", [97, 32, 110, 117, 109, 98, 101, 114, 32, 111, 117, 116, 32, 111, 102, 32, 105, 116, 115, 32, 114, 97, 110, 103, 101]), ("sargasso/api.ErrNone", [116, 104, 101, 114, 101, 32, 105, 115, 32, 110, 111, 110, 101]), ("sargasso/api.ErrWord", [110, 111, 32, 115, 117, 99, 104, 32, 119, 111, 114, 100]), ("sargasso/api.ErrNumber", [110, 111, 116, 32, 97, 32, 110, 117, 109, 98, 101, 114])]
theorem gs_lt26 : gs.all (fun g => Nat.blt g 27) = true := by decide +kernel
noncomputable def sg0 : St := ⟨hG 372 27 0 gs, p60⟩
theorem sg0_ro : roT p60.nat sg0.h id = true := by decide +kernel
theorem sl_gs : sl.map (fun x => Tryz.prog.globalNamed x.1) = gs.map some := by kernel_rfl
theorem gs_type : gs.all (fun g => decide ((Tryz.prog.globals[g]?).map (·.type) = some 28)) = true := by decide +kernel
theorem star : "*" ++ "errors.errorString" = "*errors.errorString" := by decide
theorem err_row (u : TypeId) (h : Tryz.prog.typeName? 3 u = some "*errors.errorString") : u = 372 :=
  typeName_ptr_named (nm := "errors.errorString") (by rw [star]; kernel_rfl) (by kernel_rfl) (by decide) u (by rw [star]; exact h)
theorem begins {W : World} {laid : List (String × DataW Unit)} (hl : laid = sl.map (sentRow "*errors.errorString")) (hn : (laid.filter fun x => x.2.handleName?.isSome) = []) (h : laidMetH Tryz.prog laid W) : ∃ ι, Rep ι sg0 W ∧ Gl gs ι := by
  unfold laidMetH at h
  rw [hn] at h
  subst hl
  obtain ⟨ps, hv, hnd, hrows⟩ := h
  obtain ⟨as_, k1, rfl, k3⟩ := sents_of_laid (P := Tryz.prog) (tp := 372) (te := 389) (ti := 28) Tryz.underlying28 err_row Tryz.underlying372 Tryz.underlying389 rfl rfl Tryz.underlying9 (by kernel_rfl) (by kernel_rfl) sl gs ps sl_gs
    (fun g hg => of_decide_eq_true (List.all_eq_true.1 gs_type g hg)) hv hrows
  exact begin_of k1 (by decide +kernel) sl_gs (fun g hg => by
    have := gs_lt26
    have := List.all_eq_true.1 this g hg
    rw [blt_eq] at this
    simpa using this) hnd k3 (by decide +kernel)
end Go.Proofs.YtcecdaeceipbnaaGreatDoor.Ir
