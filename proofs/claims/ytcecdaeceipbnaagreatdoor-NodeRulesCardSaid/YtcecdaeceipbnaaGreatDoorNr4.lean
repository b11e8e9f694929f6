/-
  NodeRules: for all numbers the law answers true.
-/
import Derived.Test.YtcecdaeceipbnaaGreatDoorNr4a
import Derived.Test.YtcecdaeceipbnaaGreatDoorNr4b
import Derived.Test.YtcecdaeceipbnaaGreatDoorNr4c
import Derived.Test.YtcecdaeceipbnaaGreatDoorNr4d
import Derived.Test.YtcecdaeceipbnaaGreatDoorNr4e
import Derived.Test.YtcecdaeceipbnaaGreatDoorNr4f
namespace Go.Proofs.YtcecdaeceipbnaaGreatDoor.Ir
set_option linter.unusedVariables false
set_option linter.unusedSimpArgs false
set_option maxRecDepth 100000
open Go Go.Proofs.YtcecdaeceipbnaaGreatDoor
theorem law_true (a b : Int) (low : Bool) : ∃ σ2, runFn machC 300 p3 [.int .i64 a, .int .i64 b, .bool low] sg0 = some (.bool true, σ2) := by
  have h6 := em_lt a 6 (by decide)
  have h9 := em_lt b 9 (by decide)
  have hk : Int.toNat (Int.emod a (.ofNat 6)) = 0 ∨ Int.toNat (Int.emod a (.ofNat 6)) = 1 ∨ Int.toNat (Int.emod a (.ofNat 6)) = 2 ∨ Int.toNat (Int.emod a (.ofNat 6)) = 3 ∨ Int.toNat (Int.emod a (.ofNat 6)) = 4 ∨ Int.toNat (Int.emod a (.ofNat 6)) = 5 := by omega
  have hs : Int.toNat (Int.emod b (.ofNat 9)) = 0 ∨ Int.toNat (Int.emod b (.ofNat 9)) = 1 ∨ Int.toNat (Int.emod b (.ofNat 9)) = 2 ∨ Int.toNat (Int.emod b (.ofNat 9)) = 3 ∨ Int.toNat (Int.emod b (.ofNat 9)) = 4 ∨ Int.toNat (Int.emod b (.ofNat 9)) = 5 ∨ Int.toNat (Int.emod b (.ofNat 9)) = 6 ∨ Int.toNat (Int.emod b (.ofNat 9)) = 7 ∨ Int.toNat (Int.emod b (.ofNat 9)) = 8 := by omega
  rcases hk with ha | ha | ha | ha | ha | ha
  · rcases hs with hb | hb | hb | hb | hb | hb | hb | hb | hb
    · cases low
      · exact Hot.resO_run (path_0_0_0 a b) (by simp) (fixT_eq (tn_eq hb) (tn_eq ha))
      · exact Hot.resO_run (path_0_0_1 a b) (by simp) (fixT_eq (tn_eq hb) (tn_eq ha))
    · cases low
      · exact Hot.resO_run (path_0_1_0 a b) (by simp) (fixT_eq (tn_eq hb) (tn_eq ha))
      · exact Hot.resO_run (path_0_1_1 a b) (by simp) (fixT_eq (tn_eq hb) (tn_eq ha))
    · cases low
      · exact Hot.resO_run (path_0_2_0 a b) (by simp) (fixT_eq (tn_eq hb) (tn_eq ha))
      · exact Hot.resO_run (path_0_2_1 a b) (by simp) (fixT_eq (tn_eq hb) (tn_eq ha))
    · cases low
      · exact Hot.resO_run (path_0_3_0 a b) (by simp) (fixT_eq (tn_eq hb) (tn_eq ha))
      · exact Hot.resO_run (path_0_3_1 a b) (by simp) (fixT_eq (tn_eq hb) (tn_eq ha))
    · cases low
      · exact Hot.resO_run (path_0_4_0 a b) (by simp) (fixT_eq (tn_eq hb) (tn_eq ha))
      · exact Hot.resO_run (path_0_4_1 a b) (by simp) (fixT_eq (tn_eq hb) (tn_eq ha))
    · cases low
      · exact Hot.resO_run (path_0_5_0 a b) (by simp) (fixT_eq (tn_eq hb) (tn_eq ha))
      · exact Hot.resO_run (path_0_5_1 a b) (by simp) (fixT_eq (tn_eq hb) (tn_eq ha))
    · cases low
      · exact Hot.resO_run (path_0_6_0 a b) (by simp) (fixT_eq (tn_eq hb) (tn_eq ha))
      · exact Hot.resO_run (path_0_6_1 a b) (by simp) (fixT_eq (tn_eq hb) (tn_eq ha))
    · cases low
      · exact Hot.resO_run (path_0_7_0 a b) (by simp) (fixT_eq (tn_eq hb) (tn_eq ha))
      · exact Hot.resO_run (path_0_7_1 a b) (by simp) (fixT_eq (tn_eq hb) (tn_eq ha))
    · cases low
      · exact Hot.resO_run (path_0_8_0 a b) (by simp) (fixT_eq (tn_eq hb) (tn_eq ha))
      · exact Hot.resO_run (path_0_8_1 a b) (by simp) (fixT_eq (tn_eq hb) (tn_eq ha))
  · rcases hs with hb | hb | hb | hb | hb | hb | hb | hb | hb
    · cases low
      · exact Hot.resO_run (path_1_0_0 a b) (by simp) (fixT_eq (tn_eq hb) (tn_eq ha))
      · exact Hot.resO_run (path_1_0_1 a b) (by simp) (fixT_eq (tn_eq hb) (tn_eq ha))
    · cases low
      · exact Hot.resO_run (path_1_1_0 a b) (by simp) (fixT_eq (tn_eq hb) (tn_eq ha))
      · exact Hot.resO_run (path_1_1_1 a b) (by simp) (fixT_eq (tn_eq hb) (tn_eq ha))
    · cases low
      · exact Hot.resO_run (path_1_2_0 a b) (by simp) (fixT_eq (tn_eq hb) (tn_eq ha))
      · exact Hot.resO_run (path_1_2_1 a b) (by simp) (fixT_eq (tn_eq hb) (tn_eq ha))
    · cases low
      · exact Hot.resO_run (path_1_3_0 a b) (by simp) (fixT_eq (tn_eq hb) (tn_eq ha))
      · exact Hot.resO_run (path_1_3_1 a b) (by simp) (fixT_eq (tn_eq hb) (tn_eq ha))
    · cases low
      · exact Hot.resO_run (path_1_4_0 a b) (by simp) (fixT_eq (tn_eq hb) (tn_eq ha))
      · exact Hot.resO_run (path_1_4_1 a b) (by simp) (fixT_eq (tn_eq hb) (tn_eq ha))
    · cases low
      · exact Hot.resO_run (path_1_5_0 a b) (by simp) (fixT_eq (tn_eq hb) (tn_eq ha))
      · exact Hot.resO_run (path_1_5_1 a b) (by simp) (fixT_eq (tn_eq hb) (tn_eq ha))
    · cases low
      · exact Hot.resO_run (path_1_6_0 a b) (by simp) (fixT_eq (tn_eq hb) (tn_eq ha))
      · exact Hot.resO_run (path_1_6_1 a b) (by simp) (fixT_eq (tn_eq hb) (tn_eq ha))
    · cases low
      · exact Hot.resO_run (path_1_7_0 a b) (by simp) (fixT_eq (tn_eq hb) (tn_eq ha))
      · exact Hot.resO_run (path_1_7_1 a b) (by simp) (fixT_eq (tn_eq hb) (tn_eq ha))
    · cases low
      · exact Hot.resO_run (path_1_8_0 a b) (by simp) (fixT_eq (tn_eq hb) (tn_eq ha))
      · exact Hot.resO_run (path_1_8_1 a b) (by simp) (fixT_eq (tn_eq hb) (tn_eq ha))
  · rcases hs with hb | hb | hb | hb | hb | hb | hb | hb | hb
    · cases low
      · exact Hot.resO_run (path_2_0_0 a b) (by simp) (fixT_eq (tn_eq hb) (tn_eq ha))
      · exact Hot.resO_run (path_2_0_1 a b) (by simp) (fixT_eq (tn_eq hb) (tn_eq ha))
    · cases low
      · exact Hot.resO_run (path_2_1_0 a b) (by simp) (fixT_eq (tn_eq hb) (tn_eq ha))
      · exact Hot.resO_run (path_2_1_1 a b) (by simp) (fixT_eq (tn_eq hb) (tn_eq ha))
    · cases low
      · exact Hot.resO_run (path_2_2_0 a b) (by simp) (fixT_eq (tn_eq hb) (tn_eq ha))
      · exact Hot.resO_run (path_2_2_1 a b) (by simp) (fixT_eq (tn_eq hb) (tn_eq ha))
    · cases low
      · exact Hot.resO_run (path_2_3_0 a b) (by simp) (fixT_eq (tn_eq hb) (tn_eq ha))
      · exact Hot.resO_run (path_2_3_1 a b) (by simp) (fixT_eq (tn_eq hb) (tn_eq ha))
    · cases low
      · exact Hot.resO_run (path_2_4_0 a b) (by simp) (fixT_eq (tn_eq hb) (tn_eq ha))
      · exact Hot.resO_run (path_2_4_1 a b) (by simp) (fixT_eq (tn_eq hb) (tn_eq ha))
    · cases low
      · exact Hot.resO_run (path_2_5_0 a b) (by simp) (fixT_eq (tn_eq hb) (tn_eq ha))
      · exact Hot.resO_run (path_2_5_1 a b) (by simp) (fixT_eq (tn_eq hb) (tn_eq ha))
    · cases low
      · exact Hot.resO_run (path_2_6_0 a b) (by simp) (fixT_eq (tn_eq hb) (tn_eq ha))
      · exact Hot.resO_run (path_2_6_1 a b) (by simp) (fixT_eq (tn_eq hb) (tn_eq ha))
    · cases low
      · exact Hot.resO_run (path_2_7_0 a b) (by simp) (fixT_eq (tn_eq hb) (tn_eq ha))
      · exact Hot.resO_run (path_2_7_1 a b) (by simp) (fixT_eq (tn_eq hb) (tn_eq ha))
    · cases low
      · exact Hot.resO_run (path_2_8_0 a b) (by simp) (fixT_eq (tn_eq hb) (tn_eq ha))
      · exact Hot.resO_run (path_2_8_1 a b) (by simp) (fixT_eq (tn_eq hb) (tn_eq ha))
  · rcases hs with hb | hb | hb | hb | hb | hb | hb | hb | hb
    · cases low
      · exact Hot.resO_run (path_3_0_0 a b) (by simp) (fixT_eq (tn_eq hb) (tn_eq ha))
      · exact Hot.resO_run (path_3_0_1 a b) (by simp) (fixT_eq (tn_eq hb) (tn_eq ha))
    · cases low
      · exact Hot.resO_run (path_3_1_0 a b) (by simp) (fixT_eq (tn_eq hb) (tn_eq ha))
      · exact Hot.resO_run (path_3_1_1 a b) (by simp) (fixT_eq (tn_eq hb) (tn_eq ha))
    · cases low
      · exact Hot.resO_run (path_3_2_0 a b) (by simp) (fixT_eq (tn_eq hb) (tn_eq ha))
      · exact Hot.resO_run (path_3_2_1 a b) (by simp) (fixT_eq (tn_eq hb) (tn_eq ha))
    · cases low
      · exact Hot.resO_run (path_3_3_0 a b) (by simp) (fixT_eq (tn_eq hb) (tn_eq ha))
      · exact Hot.resO_run (path_3_3_1 a b) (by simp) (fixT_eq (tn_eq hb) (tn_eq ha))
    · cases low
      · exact Hot.resO_run (path_3_4_0 a b) (by simp) (fixT_eq (tn_eq hb) (tn_eq ha))
      · exact Hot.resO_run (path_3_4_1 a b) (by simp) (fixT_eq (tn_eq hb) (tn_eq ha))
    · cases low
      · exact Hot.resO_run (path_3_5_0 a b) (by simp) (fixT_eq (tn_eq hb) (tn_eq ha))
      · exact Hot.resO_run (path_3_5_1 a b) (by simp) (fixT_eq (tn_eq hb) (tn_eq ha))
    · cases low
      · exact Hot.resO_run (path_3_6_0 a b) (by simp) (fixT_eq (tn_eq hb) (tn_eq ha))
      · exact Hot.resO_run (path_3_6_1 a b) (by simp) (fixT_eq (tn_eq hb) (tn_eq ha))
    · cases low
      · exact Hot.resO_run (path_3_7_0 a b) (by simp) (fixT_eq (tn_eq hb) (tn_eq ha))
      · exact Hot.resO_run (path_3_7_1 a b) (by simp) (fixT_eq (tn_eq hb) (tn_eq ha))
    · cases low
      · exact Hot.resO_run (path_3_8_0 a b) (by simp) (fixT_eq (tn_eq hb) (tn_eq ha))
      · exact Hot.resO_run (path_3_8_1 a b) (by simp) (fixT_eq (tn_eq hb) (tn_eq ha))
  · rcases hs with hb | hb | hb | hb | hb | hb | hb | hb | hb
    · cases low
      · exact Hot.resO_run (path_4_0_0 a b) (by simp) (fixT_eq (tn_eq hb) (tn_eq ha))
      · exact Hot.resO_run (path_4_0_1 a b) (by simp) (fixT_eq (tn_eq hb) (tn_eq ha))
    · cases low
      · exact Hot.resO_run (path_4_1_0 a b) (by simp) (fixT_eq (tn_eq hb) (tn_eq ha))
      · exact Hot.resO_run (path_4_1_1 a b) (by simp) (fixT_eq (tn_eq hb) (tn_eq ha))
    · cases low
      · exact Hot.resO_run (path_4_2_0 a b) (by simp) (fixT_eq (tn_eq hb) (tn_eq ha))
      · exact Hot.resO_run (path_4_2_1 a b) (by simp) (fixT_eq (tn_eq hb) (tn_eq ha))
    · cases low
      · exact Hot.resO_run (path_4_3_0 a b) (by simp) (fixT_eq (tn_eq hb) (tn_eq ha))
      · exact Hot.resO_run (path_4_3_1 a b) (by simp) (fixT_eq (tn_eq hb) (tn_eq ha))
    · cases low
      · exact Hot.resO_run (path_4_4_0 a b) (by simp) (fixT_eq (tn_eq hb) (tn_eq ha))
      · exact Hot.resO_run (path_4_4_1 a b) (by simp) (fixT_eq (tn_eq hb) (tn_eq ha))
    · cases low
      · exact Hot.resO_run (path_4_5_0 a b) (by simp) (fixT_eq (tn_eq hb) (tn_eq ha))
      · exact Hot.resO_run (path_4_5_1 a b) (by simp) (fixT_eq (tn_eq hb) (tn_eq ha))
    · cases low
      · exact Hot.resO_run (path_4_6_0 a b) (by simp) (fixT_eq (tn_eq hb) (tn_eq ha))
      · exact Hot.resO_run (path_4_6_1 a b) (by simp) (fixT_eq (tn_eq hb) (tn_eq ha))
    · cases low
      · exact Hot.resO_run (path_4_7_0 a b) (by simp) (fixT_eq (tn_eq hb) (tn_eq ha))
      · exact Hot.resO_run (path_4_7_1 a b) (by simp) (fixT_eq (tn_eq hb) (tn_eq ha))
    · cases low
      · exact Hot.resO_run (path_4_8_0 a b) (by simp) (fixT_eq (tn_eq hb) (tn_eq ha))
      · exact Hot.resO_run (path_4_8_1 a b) (by simp) (fixT_eq (tn_eq hb) (tn_eq ha))
  · rcases hs with hb | hb | hb | hb | hb | hb | hb | hb | hb
    · cases low
      · exact Hot.resO_run (path_5_0_0 a b) (by simp) (fixT_eq (tn_eq hb) (tn_eq ha))
      · exact Hot.resO_run (path_5_0_1 a b) (by simp) (fixT_eq (tn_eq hb) (tn_eq ha))
    · cases low
      · exact Hot.resO_run (path_5_1_0 a b) (by simp) (fixT_eq (tn_eq hb) (tn_eq ha))
      · exact Hot.resO_run (path_5_1_1 a b) (by simp) (fixT_eq (tn_eq hb) (tn_eq ha))
    · cases low
      · exact Hot.resO_run (path_5_2_0 a b) (by simp) (fixT_eq (tn_eq hb) (tn_eq ha))
      · exact Hot.resO_run (path_5_2_1 a b) (by simp) (fixT_eq (tn_eq hb) (tn_eq ha))
    · cases low
      · exact Hot.resO_run (path_5_3_0 a b) (by simp) (fixT_eq (tn_eq hb) (tn_eq ha))
      · exact Hot.resO_run (path_5_3_1 a b) (by simp) (fixT_eq (tn_eq hb) (tn_eq ha))
    · cases low
      · exact Hot.resO_run (path_5_4_0 a b) (by simp) (fixT_eq (tn_eq hb) (tn_eq ha))
      · exact Hot.resO_run (path_5_4_1 a b) (by simp) (fixT_eq (tn_eq hb) (tn_eq ha))
    · cases low
      · exact Hot.resO_run (path_5_5_0 a b) (by simp) (fixT_eq (tn_eq hb) (tn_eq ha))
      · exact Hot.resO_run (path_5_5_1 a b) (by simp) (fixT_eq (tn_eq hb) (tn_eq ha))
    · cases low
      · exact Hot.resO_run (path_5_6_0 a b) (by simp) (fixT_eq (tn_eq hb) (tn_eq ha))
      · exact Hot.resO_run (path_5_6_1 a b) (by simp) (fixT_eq (tn_eq hb) (tn_eq ha))
    · cases low
      · exact Hot.resO_run (path_5_7_0 a b) (by simp) (fixT_eq (tn_eq hb) (tn_eq ha))
      · exact Hot.resO_run (path_5_7_1 a b) (by simp) (fixT_eq (tn_eq hb) (tn_eq ha))
    · cases low
      · exact Hot.resO_run (path_5_8_0 a b) (by simp) (fixT_eq (tn_eq hb) (tn_eq ha))
      · exact Hot.resO_run (path_5_8_1 a b) (by simp) (fixT_eq (tn_eq hb) (tn_eq ha))
end Go.Proofs.YtcecdaeceipbnaaGreatDoor.Ir
