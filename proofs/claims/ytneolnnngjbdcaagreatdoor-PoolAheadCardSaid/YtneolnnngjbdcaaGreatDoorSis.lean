/-
  A sort of rows of bytes that the kernel can run; it sorts as sortH does.
-/
import Derived.Test.YtneolnnngjbdcaaGreatDoorSor
namespace Go.Proofs.YtneolnnngjbdcaaGreatDoor.Ir
set_option linter.unusedVariables false
set_option linter.unusedSimpArgs false
open Go Go.Proofs Go.Proofs.YtneolnnngjbdcaaGreatDoor Go.RowKit Go.Shelf Go.Sort
noncomputable def insN (x : List Nat) (l : List (List Nat)) : List (List Nat) := List.rec (motive := fun _ => List (List Nat)) [x] (fun y l ih => match cmpN x y with | .negSucc _ => x :: y :: l | .ofNat _ => y :: ih) l
noncomputable def isoN (l : List (List Nat)) : List (List Nat) := List.rec (motive := fun _ => List (List Nat)) [] (fun x _ ih => insN x ih) l
theorem insN_cons (x y : List Nat) (l : List (List Nat)) : insN x (y :: l) = if cmpN x y < 0 then x :: y :: l else y :: insN x l := by
  show (match cmpN x y with | .negSucc _ => x :: y :: l | .ofNat _ => y :: insN x l) = _
  cases h : cmpN x y with
  | ofNat n => rw [if_neg (by simp)]
  | negSucc n => rw [if_pos (Int.negSucc_lt_zero n)]
noncomputable def insH (x : HB) (l : List HB) : List HB := List.rec (motive := fun _ => List HB) [x] (fun y l ih => if ltOf dcf x y then x :: y :: l else y :: ih) l
noncomputable def isoH (l : List HB) : List HB := List.rec (motive := fun _ => List HB) [] (fun x _ ih => insH x ih) l
theorem insH_cons (x y : HB) (l : List HB) : insH x (y :: l) = if ltOf dcf x y then x :: y :: l else y :: insH x l := rfl
theorem insN_H (x : HB) : ∀ l : List HB, insN x.l (l.map (·.l)) = (insH x l).map (·.l)
  | [] => rfl
  | y :: l => by
    rw [List.map_cons, insN_cons, insH_cons, insN_H x l]
    have : (ltOf dcf x y = true) ↔ cmpN x.l y.l < 0 := by unfold ltOf dcf; simp
    by_cases h : cmpN x.l y.l < 0
    · rw [if_pos h, if_pos (this.2 h)]; rfl
    · rw [if_neg h, if_neg (fun c => h (this.1 c))]; rfl
theorem isoN_H : ∀ l : List HB, isoN (l.map (·.l)) = (isoH l).map (·.l)
  | [] => rfl
  | x :: l => by
    show insN x.l (isoN (l.map (·.l))) = (insH x (isoH l)).map (·.l)
    rw [isoN_H l, insN_H]
theorem insH_perm (x : HB) : ∀ l, (insH x l).Perm (x :: l)
  | [] => .refl _
  | y :: l => by
    rw [insH_cons]
    split
    · exact .refl _
    · exact ((insH_perm x l).cons y).trans (.swap _ _ _)
theorem isoH_perm : ∀ l, (isoH l).Perm l
  | [] => .refl _
  | x :: l => (insH_perm x (isoH l)).trans ((isoH_perm l).cons x)
theorem insH_sorted (x : HB) : ∀ l : List HB, l.Pairwise (fun a b => (ltOf dcf) b a = false) → (insH x l).Pairwise (fun a b => (ltOf dcf) b a = false)
  | [], _ => by show [x].Pairwise _; simp
  | y :: l, h => by
    rw [insH_cons]
    rw [List.pairwise_cons] at h
    split
    · rename_i hlt
      rw [List.pairwise_cons]
      refine ⟨fun z hz => ?_, List.pairwise_cons.2 h⟩
      rw [dcf_lt] at hlt
      rcases List.mem_cons.1 hz with rfl | hz
      · rw [dcf_lt]; simp at hlt ⊢; omega
      · have := h.1 z hz
        rw [dcf_lt] at this ⊢; simp at hlt this ⊢; omega
    · rename_i hlt
      rw [List.pairwise_cons]
      refine ⟨fun z hz => ?_, insH_sorted x l h.2⟩
      rcases List.mem_cons.1 ((insH_perm x l).mem_iff.1 hz) with rfl | hz
      · simpa using hlt
      · exact h.1 z hz
theorem isoH_sorted : ∀ l : List HB, (isoH l).Pairwise (fun a b => (ltOf dcf) b a = false)
  | [] => List.Pairwise.nil
  | x :: l => insH_sorted x _ (isoH_sorted l)
theorem isoH_eq (l : List HB) : isoH l = sortH l := by
  refine List.Perm.eq_of_pairwise (le := fun x y => (ltOf dcf) y x = false) ?_ (isoH_sorted l) ?_ ((isoH_perm l).trans (List.mergeSort_perm _ _).symm)
  · intro a b _ _ h1 h2
    exact dcf_total a b h2 h1
  · have := List.pairwise_mergeSort (le := fun x y : HB => !(ltOf dcf) y x) (fun a b c h1 h2 => by rw [dcf_lt] at *; simp at *; omega) (fun a b => by rw [dcf_lt, dcf_lt]; simp; omega) l
    exact this.imp (fun h => by simpa using h)
theorem isoN_eq (l : List HB) : isoN (l.map (·.l)) = (sortH l).map (·.l) := by rw [isoN_H, isoH_eq]
end Go.Proofs.YtneolnnngjbdcaaGreatDoor.Ir
