/-
  slices.SortedFunc over a map's keys, by digest.Compare: the keys, in order.
-/
import Derived.Test.YtneolnnngjbdcaaGreatDoorSrQ
namespace Go.Proofs.YtneolnnngjbdcaaGreatDoor.Ir
set_option linter.unusedVariables false
set_option linter.unusedSimpArgs false
open Go Go.Proofs Go.Proofs.YtneolnnngjbdcaaGreatDoor Go.RowKit Go.Shelf Go.Sort
theorem holds_row {w : World} {g cap n : Nat} {cur : Array Value} {hs : List HB} (hgb : w.heap[g]? = some (.cells cur 30 (0, 0))) (hcs : cur.size = cap * 32) (hn : hs.length ≤ cap) (htk : cur.toList.take (hs.length * 32) = hs.flatMap HB.enc) : HoldsK HB.enc 32 w g 0 hs.toArray := by
  have hk : ∀ x : HB, x.enc.length = 32 := fun x => by simp [HB.enc, x.len]
  intro j hj
  have hj' : j < hs.length * 32 := by simpa using hj
  have hl := flatK_list HB.enc hk (by decide) hs.toArray
  refine ⟨?_, by simp [World.frozen?, hgb]⟩
  rw [cell?_blk hgb, Nat.zero_add, getElem!_pos (flatK HB.enc 32 hs.toArray) j hj]
  have h1 : (flatK HB.enc 32 hs.toArray).toList[j]? = cur.toList[j]? := by
    rw [hl, ← htk, List.getElem?_take, if_pos hj']
  rw [Array.getElem?_toList, Array.getElem?_toList, Array.getElem?_eq_getElem hj] at h1
  rw [← h1]
  rfl
theorem put_take {cur : Array Value} {ts : List HB} (h : ts.length * 32 ≤ cur.size) : (putCells id 0 (flatK HB.enc 32 ts.toArray) cur).toList.take (ts.length * 32) = ts.flatMap HB.enc := by
  have hk : ∀ x : HB, x.enc.length = 32 := fun x => by simp [HB.enc, x.len]
  have hl := flatK_list HB.enc hk (by decide) ts.toArray
  rw [← show (ts.toArray).toList = ts from rfl, ← hl]
  apply List.ext_getElem?
  intro j
  by_cases hj : j < ts.length * 32
  · rw [List.getElem?_take_of_lt (by simpa using hj), Array.getElem?_toList, Array.getElem?_toList]
    have hjs : j < (flatK HB.enc 32 ts.toArray).size := by simpa using hj
    rw [Array.getElem?_eq_getElem hjs]
    simp [putCells, hj, show j < cur.size by omega]
  · rw [List.getElem?_take_eq_none (by simpa using hj), List.getElem?_eq_none (by simp; omega)]

set_option maxRecDepth 100000 in
set_option maxHeartbeats 2000000 in
theorem sorted_keys (b ck : Nat) (a : Addr) (es : Array MapEntry) (hb : MapEntry → HB) (w : World) (hm : w.cell? a = some (.map (some b))) (ha : a.block < w.heap.size) (hbk : w.heap[b]? = some (.map es ck))
    (hold : ∀ x ∈ es.toList, x.born < ck) (hn : (es.toList.map (·.born)).Nodup) (hrow : ∀ x ∈ es.toList, x.key = (hb x).row.enc) (h0 : 0 < es.size) (hsz : es.size < 900000) :
    Calls Tryz.prog 59 #[.func (.func 90) #[] #[.pointer (some a)], .func (.func 61) #[] #[]] w fun e w' =>
      ∃ v, e = .returned v ∧ Below w.heap.size w w' ∧ w'.ownsRow w.heap.size 30 32 v es.size ((sortH (es.toList.map hb)).flatMap HB.enc) := by
  have h1 := collect_seq 90 #[.pointer (some a)] (enters_of Tryz.func90 (by kernel_rfl) rfl) _ es.size (by simp [maxLen]; omega) (by omega) w (gives_of (keys_gives b ck a es (fun x => (hb x).row) w hm ha hbk hold hn hrow))
  have key : ∀ w1 : World, Below w.heap.size w w1 → ∀ (g cap : Nat) (cur : Array Value) (hs : List HB), hs.Perm (es.toList.map hb) → w.heap.size ≤ g → w1.heap[g]? = some (.cells cur 30 (0, 0)) → hs.length ≤ cap → cap ≤ maxLen → cur.size = cap * 32 → cur.toList.take (hs.length * 32) = hs.flatMap HB.enc →
      Calls Tryz.prog 89 #[.slice (some ⟨g, 0, none⟩) hs.length cap, .func (.func 61) #[] #[]] w1 fun e w' => e = .returned (.tuple #[]) ∧ Below w.heap.size w w' ∧ w'.ownsRow w.heap.size 30 32 (.slice (some ⟨g, 0, none⟩) hs.length cap) es.size ((sortH (es.toList.map hb)).flatMap HB.enc) := by
    intro w1 hb1 g cap cur hs hp hg hgb hc1 hc2 hcs htk
    have hle : hs.length = es.size := by have := hp.length_eq; simpa using this
    have hgl : g < w1.heap.size := (Array.getElem?_eq_some_iff.1 hgb).1
    have h := sort_calls g 0 cap hs.toArray w1 (holds_row (n := 0) hgb hcs hc1 htk) hgl (by simp; omega)
    refine h.mono ?_
    rintro e w' ⟨rfl, n, os, rfl⟩
    have hsl : (sortH (es.toList.map hb)).length = es.size := by simp [sortH]
    have e1 : sortH (hs.toArray).toList = sortH (es.toList.map hb) := sortH_perm hp
    rw [e1]
    refine ⟨rfl, ⟨hb1.os, hb1.tape, hb1.output, Nat.le_trans hb1.size (size_sortWorldK_c _ _ _ _ _ _ _ _), fun r hr => (sortW_other _ _ _ _ _ _ _ _ (Nat.lt_of_lt_of_le hr hb1.size) (by omega)).trans (hb1.block r hr)⟩, ?_⟩
    refine ⟨by rw [flat_len HB.enc (k := 32) (fun x => by simp [HB.enc, x.len]), hsl], .inr ⟨g, cap, _, by rw [hle], hg, sortW_row _ _ _ _ _ _ _ _ hgb, by omega, hc2, by simp [putCells, hcs], ?_⟩⟩
    rw [← hsl]
    exact put_take (by rw [hsl, hcs]; exact Nat.mul_le_mul_right _ (by omega))
  clear hm hbk hold hn hrow
  go_enter Tryz.func59, Tryz.ntmps59
  go_wp2_with (go_at_call 88; refine h1.mono ?_; rintro e w1 ⟨v, ss, rfl, hS, hrow, hnil, hb1⟩; clear h1)
  obtain ⟨hs, rfl, hp⟩ := perm_map_inv HB.row hS.symm (es.toList.map hb) (by rw [List.map_map]; rfl)
  have hle := hp.length_eq
  simp only [List.length_map, Array.length_toList] at hle
  rw [List.length_map, row_all] at hrow
  rcases hrow.2 with ⟨_, hz⟩ | ⟨g, cap, cur, rfl, hg, hgb, hc1, hc2, hcs, htk⟩
  · omega
  have h2 := key w1 hb1 g cap cur hs hp.symm hg hgb hc1 hc2 hcs htk
  clear key hrow hS hnil hgb htk hcs
  go_wp2_with (go_at_call 89; refine h2.mono ?_; rintro e w2 ⟨rfl, hb2, hrow2⟩)
  go_ret
  exact ⟨_, rfl, hb2, hrow2⟩
end Go.Proofs.YtneolnnngjbdcaaGreatDoor.Ir
