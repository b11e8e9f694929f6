/-
  GraphRows: every case.
-/
import Derived.Test.YtbikpdgeldhkoaaDoorGr5a
import Derived.Test.YtbikpdgeldhkoaaDoorGr5b
import Derived.Test.YtbikpdgeldhkoaaDoorGr5c
import Derived.Test.YtbikpdgeldhkoaaDoorGr5d
import Derived.Test.YtbikpdgeldhkoaaDoorGr5e
import Derived.Test.YtbikpdgeldhkoaaDoorGr5f
namespace Go.Proofs.YtbikpdgeldhkoaaDoor.Ir
set_option linter.unusedVariables false
set_option maxRecDepth 100000
open Go Go.Proofs.YtbikpdgeldhkoaaDoor
theorem cases_all : Cases := by
  intro k hk j hj r
  have hk : k = 0 ∨ k = 1 ∨ k = 2 ∨ k = 3 ∨ k = 4 ∨ k = 5 ∨ k = 6 ∨ k = 7 ∨ k = 8 ∨ k = 9 ∨ k = 10 ∨ k = 11 ∨ k = 12 ∨ k = 13 ∨ k = 14 ∨ k = 15 ∨ k = 16 ∨ k = 17 ∨ k = 18 ∨ k = 19 := by omega
  rcases hk with rfl | rfl | rfl | rfl | rfl | rfl | rfl | rfl | rfl | rfl | rfl | rfl | rfl | rfl | rfl | rfl | rfl | rfl | rfl | rfl
  · exact ⟨[0], by simp; omega, fun y => case_1_0 r y⟩
  · exact ⟨[0, 1], by simp; omega, fun y => case_2_0 r y⟩
  · exact ⟨[0, 1, 2], by simp; omega, fun y => case_3_0 r y⟩
  · exact ⟨[0, 1, 2, 3], by simp; omega, fun y => case_4_0 r y⟩
  · exact ⟨[0, 1, 2, 3, 4], by simp; omega, fun y => case_5_0 r y⟩
  · exact ⟨[0, 1, 2, 3, 4, 5], by simp; omega, fun y => case_6_0 r y⟩
  · exact ⟨[0, 1, 2, 3, 4, 5, 6], by simp; omega, fun y => case_7_0 r y⟩
  · exact ⟨[0, 1, 2, 3, 4, 5, 6, 7], by simp; omega, fun y => case_8_0 r y⟩
  · exact ⟨[0, 1, 2, 3, 4, 5, 6, 7, 8], by simp; omega, fun y => case_9_0 r y⟩
  · exact ⟨[0, 1, 2, 3, 4, 5, 6, 7, 8, 9], by simp; omega, fun y => case_10_0 r y⟩
  · exact ⟨[0, 1, 2, 3, 4, 5, 6, 7, 8, 9, 10], by simp; omega, fun y => case_11_0 r y⟩
  · exact ⟨[0, 1, 2, 3, 4, 5, 6, 7, 8, 9, 10, 11], by simp; omega, fun y => case_12_0 r y⟩
  · have hj : (0 ≤ j ∧ j < 11) ∨ (11 ≤ j ∧ j < 13) := by omega
    rcases hj with hj | hj
    · exact ⟨[0, 1, 2, 3, 4, 5, 6, 7, 8, 9, 10], by simp; omega, fun y => case_13_0 r y⟩
    · exact ⟨[11, 12], by simp; omega, fun y => case_13_11 r y⟩
  · have hj : (0 ≤ j ∧ j < 10) ∨ (10 ≤ j ∧ j < 14) := by omega
    rcases hj with hj | hj
    · exact ⟨[0, 1, 2, 3, 4, 5, 6, 7, 8, 9], by simp; omega, fun y => case_14_0 r y⟩
    · exact ⟨[10, 11, 12, 13], by simp; omega, fun y => case_14_10 r y⟩
  · have hj : (0 ≤ j ∧ j < 9) ∨ (9 ≤ j ∧ j < 15) := by omega
    rcases hj with hj | hj
    · exact ⟨[0, 1, 2, 3, 4, 5, 6, 7, 8], by simp; omega, fun y => case_15_0 r y⟩
    · exact ⟨[9, 10, 11, 12, 13, 14], by simp; omega, fun y => case_15_9 r y⟩
  · have hj : (0 ≤ j ∧ j < 8) ∨ (8 ≤ j ∧ j < 16) := by omega
    rcases hj with hj | hj
    · exact ⟨[0, 1, 2, 3, 4, 5, 6, 7], by simp; omega, fun y => case_16_0 r y⟩
    · exact ⟨[8, 9, 10, 11, 12, 13, 14, 15], by simp; omega, fun y => case_16_8 r y⟩
  · have hj : (0 ≤ j ∧ j < 7) ∨ (7 ≤ j ∧ j < 14) ∨ (14 ≤ j ∧ j < 17) := by omega
    rcases hj with hj | hj | hj
    · exact ⟨[0, 1, 2, 3, 4, 5, 6], by simp; omega, fun y => case_17_0 r y⟩
    · exact ⟨[7, 8, 9, 10, 11, 12, 13], by simp; omega, fun y => case_17_7 r y⟩
    · exact ⟨[14, 15, 16], by simp; omega, fun y => case_17_14 r y⟩
  · have hj : (0 ≤ j ∧ j < 6) ∨ (6 ≤ j ∧ j < 12) ∨ (12 ≤ j ∧ j < 18) := by omega
    rcases hj with hj | hj | hj
    · exact ⟨[0, 1, 2, 3, 4, 5], by simp; omega, fun y => case_18_0 r y⟩
    · exact ⟨[6, 7, 8, 9, 10, 11], by simp; omega, fun y => case_18_6 r y⟩
    · exact ⟨[12, 13, 14, 15, 16, 17], by simp; omega, fun y => case_18_12 r y⟩
  · have hj : (0 ≤ j ∧ j < 5) ∨ (5 ≤ j ∧ j < 10) ∨ (10 ≤ j ∧ j < 15) ∨ (15 ≤ j ∧ j < 19) := by omega
    rcases hj with hj | hj | hj | hj
    · exact ⟨[0, 1, 2, 3, 4], by simp; omega, fun y => case_19_0 r y⟩
    · exact ⟨[5, 6, 7, 8, 9], by simp; omega, fun y => case_19_5 r y⟩
    · exact ⟨[10, 11, 12, 13, 14], by simp; omega, fun y => case_19_10 r y⟩
    · exact ⟨[15, 16, 17, 18], by simp; omega, fun y => case_19_15 r y⟩
  · have hj : (0 ≤ j ∧ j < 5) ∨ (5 ≤ j ∧ j < 10) ∨ (10 ≤ j ∧ j < 15) ∨ (15 ≤ j ∧ j < 20) := by omega
    rcases hj with hj | hj | hj | hj
    · exact ⟨[0, 1, 2, 3, 4], by simp; omega, fun y => case_20_0 r y⟩
    · exact ⟨[5, 6, 7, 8, 9], by simp; omega, fun y => case_20_5 r y⟩
    · exact ⟨[10, 11, 12, 13, 14], by simp; omega, fun y => case_20_10 r y⟩
    · exact ⟨[15, 16, 17, 18, 19], by simp; omega, fun y => case_20_15 r y⟩
end Go.Proofs.YtbikpdgeldhkoaaDoor.Ir
