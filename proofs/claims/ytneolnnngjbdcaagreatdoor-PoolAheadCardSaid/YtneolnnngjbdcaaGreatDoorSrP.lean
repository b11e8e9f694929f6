/-
  A permutation of hashes is sorted to the same row; rows out of hashes.
-/
import Derived.Test.YtneolnnngjbdcaaGreatDoorSrF
import Derived.Test.YtneolnnngjbdcaaGreatDoorSeqK
namespace Go.Proofs.YtneolnnngjbdcaaGreatDoor.Ir
set_option linter.unusedVariables false
set_option linter.unusedSimpArgs false
open Go Go.Proofs Go.Proofs.YtneolnnngjbdcaaGreatDoor Go.RowKit Go.Shelf Go.Sort
theorem perm_map_inv {α β : Type} (f : α → β) {l l' : List β} (h : l.Perm l') : ∀ m : List α, l = m.map f → ∃ k : List α, l' = k.map f ∧ m.Perm k := by
  induction h with
  | nil => intro m hm; exact ⟨m, hm, .refl _⟩
  | cons x _ ih =>
    intro m hm
    cases m with
    | nil => cases hm
    | cons y m =>
      simp only [List.map_cons, List.cons.injEq] at hm
      obtain ⟨k, h1, h2⟩ := ih m hm.2
      exact ⟨y :: k, by rw [h1, hm.1]; rfl, h2.cons y⟩
  | swap x y l =>
    intro m hm
    match m, hm with
    | a :: b :: m, hm =>
      simp only [List.map_cons, List.cons.injEq] at hm
      exact ⟨b :: a :: m, by rw [hm.1, hm.2.1, hm.2.2]; rfl, List.Perm.swap _ _ _⟩
  | trans _ _ ih1 ih2 =>
    intro m hm
    obtain ⟨k, h1, h2⟩ := ih1 m hm
    obtain ⟨k', h3, h4⟩ := ih2 k h1
    exact ⟨k', h3, h2.trans h4⟩
theorem sortH_perm {l m : List HB} (h : l.Perm m) : sortH l = sortH m := by
  unfold sortH
  refine List.Perm.eq_of_pairwise (le := fun x y => (!(ltOf dcf) y x) = true) ?_ ?_ ?_ ((List.mergeSort_perm _ _).trans (h.trans (List.mergeSort_perm _ _).symm))
  · intro a b _ _ h1 h2
    exact dcf_total a b (by simpa using h2) (by simpa using h1)
  · exact List.pairwise_mergeSort (fun a b c h1 h2 => by rw [dcf_lt] at *; simp at *; omega) (fun a b => by rw [dcf_lt, dcf_lt]; simp; omega) _
  · exact List.pairwise_mergeSort (fun a b c h1 h2 => by rw [dcf_lt] at *; simp at *; omega) (fun a b => by rw [dcf_lt, dcf_lt]; simp; omega) _
def HB.row (x : HB) : Row 32 := ⟨x.enc.toArray, by simp [HB.enc, x.len], fun u hu => by
  simp only [HB.enc, List.mem_map] at hu
  obtain ⟨n, _, rfl⟩ := hu
  rfl⟩
theorem row_all (l : List HB) : Row.all (l.map HB.row) = l.flatMap HB.enc := by
  induction l with
  | nil => rfl
  | cons x l ih =>
    have : Row.all ((x :: l).map HB.row) = x.enc ++ Row.all (l.map HB.row) := by simp [Row.all, HB.row]
    rw [this, ih]
    rfl
end Go.Proofs.YtneolnnngjbdcaaGreatDoor.Ir
