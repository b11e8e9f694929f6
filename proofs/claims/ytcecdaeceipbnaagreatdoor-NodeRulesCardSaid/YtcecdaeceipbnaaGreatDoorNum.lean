/-
  The contract of sargassoworld.Number: a whole number turned into one of a range.
-/
import Derived.Test.YtcecdaeceipbnaaGreatDoorProg
import Derived.WalkKit
import Derived.ProofKit
import Derived.Lib.MinMax
import Derived.Lib.Hide
namespace Go.Proofs.YtcecdaeceipbnaaGreatDoor
set_option linter.unusedSimpArgs false
set_option linter.unusedVariables false
open Go Go.RowKit Go.BigFrame

theorem ret_int {k : IntKind} {a b : Int} (h : a = b) : Ending.returned (.int k a) = .returned (.int k b) := by rw [h]
theorem tmod_pos {n b : Int} (hb : 1 ≤ b) : (if n.tmod b < 0 then n.tmod b + b else n.tmod b) = n % b := by
  have h1 := Int.tmod_eq_emod (a := n) (b := b)
  have h2 := Int.emod_nonneg n (show b ≠ 0 by omega)
  have h3 := Int.emod_lt_of_pos n (show 0 < b by omega)
  have h4 : (b.natAbs : Int) = b := by omega
  split at h1 <;> split <;> omega

theorem number_calls (n b : Int) (hb : 1 ≤ b) (hb' : b ≤ 1000000) (hn : -9223372036854775808 ≤ n) (hn' : n ≤ 9223372036854775807) (w : World) :
    Calls Tryz.prog 7 #[.int .i64 n, .int .i64 b] w fun e w' => e = .returned (.int .i64 (n % b)) ∧ w = w' := by
  have h0 := tmod_pos (n := n) hb
  have H0 := Lib.hid h0
  clear h0
  have hlo : -1000000 ≤ n.tmod b := by
    have h3 := Int.tmod_eq_emod (a := n) (b := b)
    have h4 := Int.emod_nonneg n (show b ≠ 0 by omega)
    split at h3 <;> omega
  have hhi : n.tmod b ≤ 1000000 := by
    have h3 := Int.tmod_eq_emod (a := n) (b := b)
    have h4 := Int.emod_lt_of_pos n (show 0 < b by omega)
    split at h3 <;> omega
  go_enter Tryz.func7, Tryz.ntmps7
  go_wp2_with fail
  all_goals
    go_ret
    refine ⟨ret_int ?_, rfl⟩
    have h := H0.out
    first | (rw [if_pos (by assumption)] at h; exact h) | (rw [if_neg (by omega)] at h; exact h)

end Go.Proofs.YtcecdaeceipbnaaGreatDoor
