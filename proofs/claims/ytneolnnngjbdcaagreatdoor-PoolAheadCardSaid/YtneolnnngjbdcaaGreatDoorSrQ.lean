/-
  Rows of k cells, one behind the other: what the sort's world holds.
-/
import Derived.Test.YtneolnnngjbdcaaGreatDoorSrP
namespace Go.Proofs.YtneolnnngjbdcaaGreatDoor.Ir
set_option linter.unusedVariables false
set_option linter.unusedSimpArgs false
open Go Go.Proofs Go.Proofs.YtneolnnngjbdcaaGreatDoor Go.RowKit Go.Shelf Go.Sort
theorem flat_get {α : Type} (enc : α → List Value) {k : Nat} (hk : ∀ x, (enc x).length = k) (h0 : 0 < k) : ∀ (l : List α) (t : Nat), t < l.length * k → ∃ x, l[t / k]? = some x ∧ (l.flatMap enc)[t]? = (enc x)[t % k]?
  | [], t, h => by simp at h
  | x :: l, t, h => by
    rw [List.flatMap_cons]
    by_cases ht : t < k
    · refine ⟨x, by rw [Nat.div_eq_of_lt ht]; rfl, ?_⟩
      rw [List.getElem?_append_left (by rw [hk]; exact ht), Nat.mod_eq_of_lt ht]
    · have h' : t - k < l.length * k := by
        rw [List.length_cons, Nat.succ_mul] at h; omega
      obtain ⟨y, h1, h2⟩ := flat_get enc hk h0 l (t - k) h'
      have e1 : t / k = (t - k) / k + 1 := by
        have : t = (t - k) + k := by omega
        rw [this, Nat.add_div_right _ h0]
        simp
      have e2 : t % k = (t - k) % k := by
        have : t = (t - k) + k := by omega
        rw [this, Nat.add_mod_right]
        simp
      refine ⟨y, by rw [e1]; simpa using h1, ?_⟩
      rw [List.getElem?_append_right (by rw [hk]; omega), hk, h2, e2]
theorem flat_len {α : Type} (enc : α → List Value) {k : Nat} (hk : ∀ x, (enc x).length = k) (l : List α) : (l.flatMap enc).length = l.length * k := by
  induction l with
  | nil => simp
  | cons x l ih => rw [List.flatMap_cons, List.length_append, hk, ih, List.length_cons, Nat.succ_mul]; omega
theorem flatK_list {α : Type} [Inhabited α] (enc : α → List Value) {k : Nat} (hk : ∀ x, (enc x).length = k) (h0 : 0 < k) (d : Array α) : (flatK enc k d).toList = d.toList.flatMap enc := by
  apply List.ext_getElem?
  intro t
  by_cases ht : t < d.size * k
  · obtain ⟨x, h1, h2⟩ := flat_get enc hk h0 d.toList t (by simpa using ht)
    have hd : d[t / k]! = x := by
      obtain ⟨hlt, hx⟩ := List.getElem?_eq_some_iff.1 h1
      have hlt' : t / k < d.size := by simpa using hlt
      rw [getElem!_pos d (t / k) hlt']
      simpa using hx
    have hm : t % k < (enc x).length := by rw [hk]; exact Nat.mod_lt _ h0
    rw [h2, List.getElem?_eq_getElem hm]
    have hs : t < (flatK enc k d).size := by simpa using ht
    have := get_flatK enc k d t ht
    rw [getElem!_pos (flatK enc k d) t hs, hd, getElem!_pos (enc x) (t % k) hm] at this
    rw [Array.getElem?_toList, Array.getElem?_eq_getElem hs, this]
  · rw [List.getElem?_eq_none (by simp; omega), List.getElem?_eq_none (by rw [flat_len enc hk]; simp; omega)]
theorem sortW_other {α : Type} [Inhabited α] (enc : α → List Value) (k : Nat) (w : World) (blk off m : Nat) (dk : Array α) (os : Array Obj) {r : Nat} (hr : r < w.heap.size) (hne : r ≠ blk) : (sortWorldK enc k w blk off m dk os).heap[r]? = w.heap[r]? := by
  show ((w.heap.modify blk _) ++ os)[r]? = _
  rw [Array.getElem?_append_left (by simpa using hr), Array.getElem?_modify, if_neg (fun e => hne e.symm)]
theorem sortW_row {α : Type} [Inhabited α] (enc : α → List Value) (k : Nat) (w : World) (blk off m : Nat) (dk : Array α) (os : Array Obj) {c : Array Value} {e : TypeId} {fr : Nat × Nat} (h : w.heap[blk]? = some (.cells c e fr)) :
    (sortWorldK enc k w blk off m dk os).heap[blk]? = some (.cells (putCells id off (flatK enc k dk) c) e fr) := by
  have hr : blk < w.heap.size := (Array.getElem?_eq_some_iff.1 h).1
  show ((w.heap.modify blk _) ++ os)[blk]? = _
  rw [Array.getElem?_append_left (by simpa using hr), Array.getElem?_modify, if_pos rfl, h]
  rfl
end Go.Proofs.YtneolnnngjbdcaaGreatDoor.Ir
