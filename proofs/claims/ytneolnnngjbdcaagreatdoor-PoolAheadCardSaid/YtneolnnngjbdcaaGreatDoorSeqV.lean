/-
  slices.Values' iterator gives the rows of a slice, in their order.
-/
import Derived.Test.YtneolnnngjbdcaaGreatDoorSeqK
namespace Go.Proofs.YtneolnnngjbdcaaGreatDoor
set_option linter.unusedVariables false
set_option linter.unusedSimpArgs false
open Go Go.RowKit Go.Maps Go.Shelf

set_option maxRecDepth 100000 in
set_option maxHeartbeats 2000000 in
theorem values_gives (a : Addr) (g o n cap : Nat) (c : Array Value) (e : TypeId) (fr : Nat × Nat) (rows : List (Row 32)) (w : World) (ha : a.block < w.heap.size) (hm : w.cell? a = some (.slice (some ⟨g, o, none⟩) n cap)) (hb : w.heap[g]? = some (.cells c e fr))
    (hlen : rows.length = n) (hn : n < 1000000) (hr : ∀ i x, rows[i]? = some x → c.extract (o + i * 32) (o + i * 32 + 32) = x.c ∧ o + i * 32 + 32 ≤ c.size) :
    GivesB Fence.wide 5 Tryz.prog 127 #[.pointer (some a)] (Row.enc (k := 32)) (fun ss => ss = rows) n w := by
  intro l J W hW hJ hY hB h0
  have hgl : g < w.heap.size := (Array.getElem?_eq_some_iff.1 hb).1
  have hmW : W.cell? a = some (.slice (some ⟨g, o, none⟩) n cap) := (hW.cell (p := a) ha).trans hm
  refine callsIn_of_wp Tryz.func127 rfl trivial ?_ rfl
  simp only [Tryz.ntmps127, List.size_toArray, List.length_cons, List.length_nil, Nat.reduceAdd, Nat.reduceSub, Array.replicate_succ, Array.replicate_zero, List.push_toArray, List.append_toArray, List.nil_append, List.cons_append]
  gi_wp2
  refine wpIn_loop_rounds (n + 1) ?_
  refine rounds_ind (fun k a' w' => ∃ (x4 x8 x9 x10 x11 x12 x13 x14 x15 : Value) (i : Nat), i + k = n ∧
      a' = { tmps := #[.func (.yield l) #[] #[], .pointer (some a), undef, undef, x4, .slice (some ⟨g, o, none⟩) n cap, .int .i64 (n : Int), .int .i64 (i : Int), x8, x9, x10, x11, x12, x13, x14, x15], defers := [] } ∧
      J (rows.take i) w') ?_ n _ _ ?_
  · rintro k a' w' ⟨x4, x8, x9, x10, x11, x12, x13, x14, x15, i, hik, rfl, h1⟩
    have hgW : w'.heap[g]? = some (.cells c e fr) := ((hB _ _ h1).block g hgl).trans hb
    rcases k with _ | k
    · have hin : i = n := by omega
      subst hin
      gi_wp2
      go_end0
      refine ⟨⟨_, rfl⟩, rows, rfl, ?_⟩
      rwa [← hlen, List.take_length] at h1
    · have hin : i < rows.length := by omega
      obtain ⟨x, hx⟩ : ∃ x, rows[i]? = some x := ⟨_, List.getElem?_eq_getElem hin⟩
      obtain ⟨hx1, hx2⟩ := hr i x hx
      have hle : (Instr.loadAt 30 (.pointer (some ⟨g, o + i * 32, none⟩))).run Tryz.prog w' = .ok x.enc w' := by
        have := LD_agg (P := Tryz.prog) (t := 30) tE_agg tE_size g (o + i * 32) w'
        rw [show blk w' g = _ from hgW, loadBlk_cells, if_pos hx2, hx1] at this
        exact this
      have hal := tE_alloc w'
      have hst := tE_store w' x
      have hld := tE_load w' x
      obtain ⟨W2, hW2⟩ : ∃ W2, w'.alloc (.cells x.c 30) = W2 := ⟨_, rfl⟩
      rw [hW2] at hst hld
      have hJ2 : J (rows.take i) W2 := by rw [← hW2]; exact hJ _ w' _ none h1 (World.grownBy_alloc w' _ none) (fun r e => by cases e)
      obtain ⟨fn, tmps, assign, body, hy, hR⟩ := hY (rows.take i) x W2 hJ2 (by simp; omega)
      clear hW2
      gi_wp2_with (first
        | (refine in_alloc (fun _ => trivial) hal ?_)
        | (refine in_store (fun _ => trivial) hst ?_)
        | (refine in_load (fun _ => trivial) hld ?_)
        | (refine in_load (fun _ => trivial) hle ?_)
        | gi_in)
      refine hR.mono ?_
      rintro e' W3 ⟨rfl, hJ3, hk3⟩
      gi_wp2
      have ht : rows.take (i + 1) = rows.take i ++ [x] := by
        rw [List.take_add_one, hx]; rfl
      exact ⟨k, rfl, _, _, _, _, _, _, _, _, _, i + 1, by omega, rfl, by rw [ht]; exact hJ3⟩
  · exact ⟨_, _, _, _, _, _, _, _, _, 0, by omega, rfl, by simpa using h0⟩
end Go.Proofs.YtneolnnngjbdcaaGreatDoor
