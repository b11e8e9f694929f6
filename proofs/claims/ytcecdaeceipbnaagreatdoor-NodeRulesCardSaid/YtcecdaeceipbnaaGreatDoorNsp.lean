/-
  Number as a contract of the machine, its answer as a number that is none below nought.
-/
import Derived.Test.YtcecdaeceipbnaaGreatDoorEnThree
namespace Go.Proofs.YtcecdaeceipbnaaGreatDoor.Ir
set_option linter.unusedVariables false
set_option maxRecDepth 100000
open Go Go.Proofs.YtcecdaeceipbnaaGreatDoor
/-- Number, its answer as a number that is none below nought -/
noncomputable def numSpecN (vs : List V) (σ : St) : Option (V × St) := match vs with
  | [.int .i64 n, .int .i64 b] => (match ilt (.ofNat 0) b with | true => (match ilt b (.ofNat 1000001) with | true => some (.int .i64 (.ofNat (Int.toNat (Int.emod n b))), σ) | false => none) | false => none)
  | _ => none
theorem numSpecN_eq {vs : List V} {σ : St} {r : V × St} (h : numSpecN vs σ = some r) : numSpec vs σ = some r := by
  unfold numSpecN at h
  split at h
  · rename_i n b
    split at h
    · rename_i h1
      split at h
      · rename_i h2
        cases h
        unfold numSpec
        simp only [h1, h2]
        rw [ilt_eq] at h1
        have h1 : (0 : Int) < b := by simpa using h1
        have := Int.emod_nonneg n (show b ≠ 0 by omega)
        have e : (.ofNat (Int.toNat (Int.emod n b)) : Int) = Int.emod n b := Int.toNat_of_nonneg this
        rw [e]
      · cases h
    · cases h
  · cases h
end Go.Proofs.YtcecdaeceipbnaaGreatDoor.Ir
