/-
  ViewChains: every case.
-/
import Derived.Test.YtbikpdgeldhkoaaDoorVc5a
import Derived.Test.YtbikpdgeldhkoaaDoorVc5b
import Derived.Test.YtbikpdgeldhkoaaDoorVc5c
import Derived.Test.YtbikpdgeldhkoaaDoorVc5d
import Derived.Test.YtbikpdgeldhkoaaDoorVc5e
import Derived.Test.YtbikpdgeldhkoaaDoorVc5f
import Derived.Test.YtbikpdgeldhkoaaDoorVc5g
import Derived.Test.YtbikpdgeldhkoaaDoorVc5h
namespace Go.Proofs.YtbikpdgeldhkoaaDoor.Ir
set_option linter.unusedVariables false
set_option maxRecDepth 100000
open Go Go.Proofs.YtbikpdgeldhkoaaDoor
theorem cases_all : Cases := by
  intro k hk j hj v
  have hk : k = 0 ∨ k = 1 ∨ k = 2 ∨ k = 3 ∨ k = 4 ∨ k = 5 ∨ k = 6 ∨ k = 7 ∨ k = 8 ∨ k = 9 ∨ k = 10 ∨ k = 11 ∨ k = 12 ∨ k = 13 ∨ k = 14 ∨ k = 15 ∨ k = 16 ∨ k = 17 ∨ k = 18 ∨ k = 19 := by omega
  rcases hk with rfl | rfl | rfl | rfl | rfl | rfl | rfl | rfl | rfl | rfl | rfl | rfl | rfl | rfl | rfl | rfl | rfl | rfl | rfl | rfl
  · exact ⟨[0], by simp; omega, fun y => case_1_0 v y⟩
  · exact ⟨[0, 1], by simp; omega, fun y => case_2_0 v y⟩
  · exact ⟨[0, 1, 2], by simp; omega, fun y => case_3_0 v y⟩
  · exact ⟨[0, 1, 2, 3], by simp; omega, fun y => case_4_0 v y⟩
  · exact ⟨[0, 1, 2, 3, 4], by simp; omega, fun y => case_5_0 v y⟩
  · exact ⟨[0, 1, 2, 3, 4, 5], by simp; omega, fun y => case_6_0 v y⟩
  · exact ⟨[0, 1, 2, 3, 4, 5, 6], by simp; omega, fun y => case_7_0 v y⟩
  · exact ⟨[0, 1, 2, 3, 4, 5, 6, 7], by simp; omega, fun y => case_8_0 v y⟩
  · exact ⟨[0, 1, 2, 3, 4, 5, 6, 7, 8], by simp; omega, fun y => case_9_0 v y⟩
  · have hj : (0 ≤ j ∧ j < 9) ∨ (9 ≤ j ∧ j < 10) := by omega
    rcases hj with hj | hj
    · exact ⟨[0, 1, 2, 3, 4, 5, 6, 7, 8], by simp; omega, fun y => case_10_0 v y⟩
    · exact ⟨[9], by simp; omega, fun y => case_10_9 v y⟩
  · have hj : (0 ≤ j ∧ j < 8) ∨ (8 ≤ j ∧ j < 11) := by omega
    rcases hj with hj | hj
    · exact ⟨[0, 1, 2, 3, 4, 5, 6, 7], by simp; omega, fun y => case_11_0 v y⟩
    · exact ⟨[8, 9, 10], by simp; omega, fun y => case_11_8 v y⟩
  · have hj : (0 ≤ j ∧ j < 7) ∨ (7 ≤ j ∧ j < 12) := by omega
    rcases hj with hj | hj
    · exact ⟨[0, 1, 2, 3, 4, 5, 6], by simp; omega, fun y => case_12_0 v y⟩
    · exact ⟨[7, 8, 9, 10, 11], by simp; omega, fun y => case_12_7 v y⟩
  · have hj : (0 ≤ j ∧ j < 6) ∨ (6 ≤ j ∧ j < 12) ∨ (12 ≤ j ∧ j < 13) := by omega
    rcases hj with hj | hj | hj
    · exact ⟨[0, 1, 2, 3, 4, 5], by simp; omega, fun y => case_13_0 v y⟩
    · exact ⟨[6, 7, 8, 9, 10, 11], by simp; omega, fun y => case_13_6 v y⟩
    · exact ⟨[12], by simp; omega, fun y => case_13_12 v y⟩
  · have hj : (0 ≤ j ∧ j < 6) ∨ (6 ≤ j ∧ j < 12) ∨ (12 ≤ j ∧ j < 14) := by omega
    rcases hj with hj | hj | hj
    · exact ⟨[0, 1, 2, 3, 4, 5], by simp; omega, fun y => case_14_0 v y⟩
    · exact ⟨[6, 7, 8, 9, 10, 11], by simp; omega, fun y => case_14_6 v y⟩
    · exact ⟨[12, 13], by simp; omega, fun y => case_14_12 v y⟩
  · have hj : (0 ≤ j ∧ j < 5) ∨ (5 ≤ j ∧ j < 10) ∨ (10 ≤ j ∧ j < 15) := by omega
    rcases hj with hj | hj | hj
    · exact ⟨[0, 1, 2, 3, 4], by simp; omega, fun y => case_15_0 v y⟩
    · exact ⟨[5, 6, 7, 8, 9], by simp; omega, fun y => case_15_5 v y⟩
    · exact ⟨[10, 11, 12, 13, 14], by simp; omega, fun y => case_15_10 v y⟩
  · have hj : (0 ≤ j ∧ j < 5) ∨ (5 ≤ j ∧ j < 10) ∨ (10 ≤ j ∧ j < 15) ∨ (15 ≤ j ∧ j < 16) := by omega
    rcases hj with hj | hj | hj | hj
    · exact ⟨[0, 1, 2, 3, 4], by simp; omega, fun y => case_16_0 v y⟩
    · exact ⟨[5, 6, 7, 8, 9], by simp; omega, fun y => case_16_5 v y⟩
    · exact ⟨[10, 11, 12, 13, 14], by simp; omega, fun y => case_16_10 v y⟩
    · exact ⟨[15], by simp; omega, fun y => case_16_15 v y⟩
  · have hj : (0 ≤ j ∧ j < 4) ∨ (4 ≤ j ∧ j < 8) ∨ (8 ≤ j ∧ j < 12) ∨ (12 ≤ j ∧ j < 16) ∨ (16 ≤ j ∧ j < 17) := by omega
    rcases hj with hj | hj | hj | hj | hj
    · exact ⟨[0, 1, 2, 3], by simp; omega, fun y => case_17_0 v y⟩
    · exact ⟨[4, 5, 6, 7], by simp; omega, fun y => case_17_4 v y⟩
    · exact ⟨[8, 9, 10, 11], by simp; omega, fun y => case_17_8 v y⟩
    · exact ⟨[12, 13, 14, 15], by simp; omega, fun y => case_17_12 v y⟩
    · exact ⟨[16], by simp; omega, fun y => case_17_16 v y⟩
  · have hj : (0 ≤ j ∧ j < 4) ∨ (4 ≤ j ∧ j < 8) ∨ (8 ≤ j ∧ j < 12) ∨ (12 ≤ j ∧ j < 16) ∨ (16 ≤ j ∧ j < 18) := by omega
    rcases hj with hj | hj | hj | hj | hj
    · exact ⟨[0, 1, 2, 3], by simp; omega, fun y => case_18_0 v y⟩
    · exact ⟨[4, 5, 6, 7], by simp; omega, fun y => case_18_4 v y⟩
    · exact ⟨[8, 9, 10, 11], by simp; omega, fun y => case_18_8 v y⟩
    · exact ⟨[12, 13, 14, 15], by simp; omega, fun y => case_18_12 v y⟩
    · exact ⟨[16, 17], by simp; omega, fun y => case_18_16 v y⟩
  · have hj : (0 ≤ j ∧ j < 4) ∨ (4 ≤ j ∧ j < 8) ∨ (8 ≤ j ∧ j < 12) ∨ (12 ≤ j ∧ j < 16) ∨ (16 ≤ j ∧ j < 19) := by omega
    rcases hj with hj | hj | hj | hj | hj
    · exact ⟨[0, 1, 2, 3], by simp; omega, fun y => case_19_0 v y⟩
    · exact ⟨[4, 5, 6, 7], by simp; omega, fun y => case_19_4 v y⟩
    · exact ⟨[8, 9, 10, 11], by simp; omega, fun y => case_19_8 v y⟩
    · exact ⟨[12, 13, 14, 15], by simp; omega, fun y => case_19_12 v y⟩
    · exact ⟨[16, 17, 18], by simp; omega, fun y => case_19_16 v y⟩
  · have hj : (0 ≤ j ∧ j < 3) ∨ (3 ≤ j ∧ j < 6) ∨ (6 ≤ j ∧ j < 9) ∨ (9 ≤ j ∧ j < 12) ∨ (12 ≤ j ∧ j < 15) ∨ (15 ≤ j ∧ j < 18) ∨ (18 ≤ j ∧ j < 20) := by omega
    rcases hj with hj | hj | hj | hj | hj | hj | hj
    · exact ⟨[0, 1, 2], by simp; omega, fun y => case_20_0 v y⟩
    · exact ⟨[3, 4, 5], by simp; omega, fun y => case_20_3 v y⟩
    · exact ⟨[6, 7, 8], by simp; omega, fun y => case_20_6 v y⟩
    · exact ⟨[9, 10, 11], by simp; omega, fun y => case_20_9 v y⟩
    · exact ⟨[12, 13, 14], by simp; omega, fun y => case_20_12 v y⟩
    · exact ⟨[15, 16, 17], by simp; omega, fun y => case_20_15 v y⟩
    · exact ⟨[18, 19], by simp; omega, fun y => case_20_18 v y⟩
end Go.Proofs.YtbikpdgeldhkoaaDoor.Ir
