/-
  PoolAhead: for all numbers the law answers true.
-/
import Derived.Test.YtneolnnngjbdcaaGreatDoorPa4a
import Derived.Test.YtneolnnngjbdcaaGreatDoorPa4b
import Derived.Test.YtneolnnngjbdcaaGreatDoorPa4c
import Derived.Test.YtneolnnngjbdcaaGreatDoorPa4d
namespace Go.Proofs.YtneolnnngjbdcaaGreatDoor.Ir
set_option linter.unusedVariables false
set_option linter.unusedSimpArgs false
set_option maxRecDepth 100000
open Go Go.Proofs.YtneolnnngjbdcaaGreatDoor
theorem law_true (a b : Int) : ∃ σ2, runFn machC 300 p3 [.int .i64 a, .int .i64 b] sg0 = some (.bool true, σ2) := by
  have h6 := em_lt a 6 (by decide)
  have hk : Int.toNat (Int.emod a (.ofNat 6)) = 0 ∨ Int.toNat (Int.emod a (.ofNat 6)) = 1 ∨ Int.toNat (Int.emod a (.ofNat 6)) = 2 ∨ Int.toNat (Int.emod a (.ofNat 6)) = 3 ∨ Int.toNat (Int.emod a (.ofNat 6)) = 4 ∨ Int.toNat (Int.emod a (.ofNat 6)) = 5 := by omega
  rcases hk with ha | ha | ha | ha | ha | ha
  · have hs := em_lt b 1 (by decide)
    have hb : Int.toNat (Int.emod b (.ofNat 1)) = 0 := by omega
    · exact Hot.resO_run (path_0_0 a b) (by simp) (fixT_eq (by intro x hx; simp only [List.mem_cons, List.mem_nil_iff, or_false] at hx; rcases hx with rfl | rfl; exact tn_eq hb; exact tn_eq ha))
  · have hs := em_lt b 2 (by decide)
    have hs : Int.toNat (Int.emod b (.ofNat 2)) = 0 ∨ Int.toNat (Int.emod b (.ofNat 2)) = 1 := by omega
    rcases hs with hb | hb
    · exact Hot.resO_run (path_1_0 a b) (by simp) (fixT_eq (by intro x hx; simp only [List.mem_cons, List.mem_nil_iff, or_false] at hx; rcases hx with rfl | rfl; exact tn_eq hb; exact tn_eq ha))
    · exact Hot.resO_run (path_1_1 a b) (by simp) (fixT_eq (by intro x hx; simp only [List.mem_cons, List.mem_nil_iff, or_false] at hx; rcases hx with rfl | rfl; exact tn_eq hb; exact tn_eq ha))
  · have hs := em_lt b 3 (by decide)
    have hs : Int.toNat (Int.emod b (.ofNat 3)) = 0 ∨ Int.toNat (Int.emod b (.ofNat 3)) = 1 ∨ Int.toNat (Int.emod b (.ofNat 3)) = 2 := by omega
    rcases hs with hb | hb | hb
    · exact Hot.resO_run (path_2_0 a b) (by simp) (fixT_eq (by intro x hx; simp only [List.mem_cons, List.mem_nil_iff, or_false] at hx; rcases hx with rfl | rfl; exact tn_eq hb; exact tn_eq ha))
    · exact Hot.resO_run (path_2_1 a b) (by simp) (fixT_eq (by intro x hx; simp only [List.mem_cons, List.mem_nil_iff, or_false] at hx; rcases hx with rfl | rfl; exact tn_eq hb; exact tn_eq ha))
    · exact Hot.resO_run (path_2_2 a b) (by simp) (fixT_eq (by intro x hx; simp only [List.mem_cons, List.mem_nil_iff, or_false] at hx; rcases hx with rfl | rfl; exact tn_eq hb; exact tn_eq ha))
  · have hs := em_lt b 4 (by decide)
    have hs : Int.toNat (Int.emod b (.ofNat 4)) = 0 ∨ Int.toNat (Int.emod b (.ofNat 4)) = 1 ∨ Int.toNat (Int.emod b (.ofNat 4)) = 2 ∨ Int.toNat (Int.emod b (.ofNat 4)) = 3 := by omega
    rcases hs with hb | hb | hb | hb
    · exact Hot.resO_run (path_3_0 a b) (by simp) (fixT_eq (by intro x hx; simp only [List.mem_cons, List.mem_nil_iff, or_false] at hx; rcases hx with rfl | rfl; exact tn_eq hb; exact tn_eq ha))
    · exact Hot.resO_run (path_3_1 a b) (by simp) (fixT_eq (by intro x hx; simp only [List.mem_cons, List.mem_nil_iff, or_false] at hx; rcases hx with rfl | rfl; exact tn_eq hb; exact tn_eq ha))
    · exact Hot.resO_run (path_3_2 a b) (by simp) (fixT_eq (by intro x hx; simp only [List.mem_cons, List.mem_nil_iff, or_false] at hx; rcases hx with rfl | rfl; exact tn_eq hb; exact tn_eq ha))
    · exact Hot.resO_run (path_3_3 a b) (by simp) (fixT_eq (by intro x hx; simp only [List.mem_cons, List.mem_nil_iff, or_false] at hx; rcases hx with rfl | rfl; exact tn_eq hb; exact tn_eq ha))
  · have hs := em_lt b 5 (by decide)
    have hs : Int.toNat (Int.emod b (.ofNat 5)) = 0 ∨ Int.toNat (Int.emod b (.ofNat 5)) = 1 ∨ Int.toNat (Int.emod b (.ofNat 5)) = 2 ∨ Int.toNat (Int.emod b (.ofNat 5)) = 3 ∨ Int.toNat (Int.emod b (.ofNat 5)) = 4 := by omega
    rcases hs with hb | hb | hb | hb | hb
    · exact Hot.resO_run (path_4_0 a b) (by simp) (fixT_eq (by intro x hx; simp only [List.mem_cons, List.mem_nil_iff, or_false] at hx; rcases hx with rfl | rfl; exact tn_eq hb; exact tn_eq ha))
    · exact Hot.resO_run (path_4_1 a b) (by simp) (fixT_eq (by intro x hx; simp only [List.mem_cons, List.mem_nil_iff, or_false] at hx; rcases hx with rfl | rfl; exact tn_eq hb; exact tn_eq ha))
    · exact Hot.resO_run (path_4_2 a b) (by simp) (fixT_eq (by intro x hx; simp only [List.mem_cons, List.mem_nil_iff, or_false] at hx; rcases hx with rfl | rfl; exact tn_eq hb; exact tn_eq ha))
    · exact Hot.resO_run (path_4_3 a b) (by simp) (fixT_eq (by intro x hx; simp only [List.mem_cons, List.mem_nil_iff, or_false] at hx; rcases hx with rfl | rfl; exact tn_eq hb; exact tn_eq ha))
    · exact Hot.resO_run (path_4_4 a b) (by simp) (fixT_eq (by intro x hx; simp only [List.mem_cons, List.mem_nil_iff, or_false] at hx; rcases hx with rfl | rfl; exact tn_eq hb; exact tn_eq ha))
  · have hs := em_lt b 6 (by decide)
    have hs : Int.toNat (Int.emod b (.ofNat 6)) = 0 ∨ Int.toNat (Int.emod b (.ofNat 6)) = 1 ∨ Int.toNat (Int.emod b (.ofNat 6)) = 2 ∨ Int.toNat (Int.emod b (.ofNat 6)) = 3 ∨ Int.toNat (Int.emod b (.ofNat 6)) = 4 ∨ Int.toNat (Int.emod b (.ofNat 6)) = 5 := by omega
    rcases hs with hb | hb | hb | hb | hb | hb
    · exact Hot.resO_run (path_5_0 a b) (by simp) (fixT_eq (by intro x hx; simp only [List.mem_cons, List.mem_nil_iff, or_false] at hx; rcases hx with rfl | rfl; exact tn_eq hb; exact tn_eq ha))
    · exact Hot.resO_run (path_5_1 a b) (by simp) (fixT_eq (by intro x hx; simp only [List.mem_cons, List.mem_nil_iff, or_false] at hx; rcases hx with rfl | rfl; exact tn_eq hb; exact tn_eq ha))
    · exact Hot.resO_run (path_5_2 a b) (by simp) (fixT_eq (by intro x hx; simp only [List.mem_cons, List.mem_nil_iff, or_false] at hx; rcases hx with rfl | rfl; exact tn_eq hb; exact tn_eq ha))
    · exact Hot.resO_run (path_5_3 a b) (by simp) (fixT_eq (by intro x hx; simp only [List.mem_cons, List.mem_nil_iff, or_false] at hx; rcases hx with rfl | rfl; exact tn_eq hb; exact tn_eq ha))
    · exact Hot.resO_run (path_5_4 a b) (by simp) (fixT_eq (by intro x hx; simp only [List.mem_cons, List.mem_nil_iff, or_false] at hx; rcases hx with rfl | rfl; exact tn_eq hb; exact tn_eq ha))
    · exact Hot.resO_run (path_5_5 a b) (by simp) (fixT_eq (by intro x hx; simp only [List.mem_cons, List.mem_nil_iff, or_false] at hx; rcases hx with rfl | rfl; exact tn_eq hb; exact tn_eq ha))
end Go.Proofs.YtneolnnngjbdcaaGreatDoor.Ir
