/-
  The contract of the hashes, as the kernel reckons it quickest. (Of no program.)
-/
import Derived.Test.YtcecdaeceipbnaaGreatDoorShd2
import Derived.Test.YtcecdaeceipbnaaGreatDoorShk
namespace Go.Proofs.YtcecdaeceipbnaaGreatDoor.Ir
set_option linter.unusedVariables false
set_option maxRecDepth 100000
open Go Go.Proofs.YtcecdaeceipbnaaGreatDoor
noncomputable def shSpecK (t : List (Nat × Nat)) (z : Option V) (vs : List V) (σ : St) : Option (V × St) := match vs with
  | [.slice p o n _ 1] => (match lookN n t with | some nb => (match sliceB σ p o n with | some bl => some (.agg (bs (forceL (Shk.shaK n nb bl))), σ) | none => none) | none => none)
  | [.nils] => (match z with | some v => some (v, σ) | none => none)
  | _ => none
theorem shSpecK_eq : shSpecK = shSpec := by
  funext t z vs σ
  unfold shSpecK shSpec
  simp only [forceL_eq, Shk.shaK_eq]
  rfl
end Go.Proofs.YtcecdaeceipbnaaGreatDoor.Ir
