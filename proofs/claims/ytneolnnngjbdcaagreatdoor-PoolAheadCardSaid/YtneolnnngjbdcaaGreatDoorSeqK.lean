/-
  maps.Keys' iterator gives a map's keys, in whatever order.
-/
import Derived.Test.YtneolnnngjbdcaaGreatDoorSeqA
namespace Go.Proofs.YtneolnnngjbdcaaGreatDoor
set_option linter.unusedVariables false
set_option linter.unusedSimpArgs false
open Go Go.RowKit Go.Maps Go.Shelf

theorem rounds_ind {F : Fence} {n : Nat} {P : Program} {c : Code} {Q : Exit → Act → World → Prop} (Inv : Nat → Act → World → Prop)
    (hstep : ∀ k a w, Inv k a w → c.wpIn F n P (Exit.then (fun a' w' => ∃ j, k = j + 1 ∧ Inv j a' w') Q) a w) : ∀ k a w, Inv k a w → Code.roundsIn F n P c Q (k + 1) a w
  | 0, a, w, h => by
    rw [roundsIn_succ]
    refine wpIn_mono (hstep 0 a w h) ?_
    rintro (_ | _ | _ | _ | _ | _) a' w' hq
    · obtain ⟨j, hj, _⟩ := hq; omega
    all_goals exact hq
  | k + 1, a, w, h => by
    rw [roundsIn_succ]
    refine wpIn_mono (hstep (k + 1) a w h) ?_
    rintro (_ | _ | _ | _ | _ | _) a' w' hq
    · obtain ⟨j, hj, hi⟩ := hq
      have : j = k := by omega
      subst this
      exact rounds_ind Inv hstep j a' w' hi
    all_goals exact hq

theorem born_perm (e : MapEntry) : ∀ M : List MapEntry, (M.map (·.born)).Nodup → e ∈ M → M.Perm (e :: M.filter (fun x => x.born != e.born))
  | [], _, h => by cases h
  | x :: M, hn, h => by
    rw [List.map_cons, List.nodup_cons] at hn
    by_cases hx : x = e
    · subst hx
      have : M.filter (fun y => y.born != x.born) = M := by
        rw [List.filter_eq_self]
        intro y hy
        have : y.born ≠ x.born := fun e => hn.1 (List.mem_map.2 ⟨y, hy, e⟩)
        simpa using this
      rw [List.filter_cons_of_neg (by simp), this]
    · have he : e ∈ M := by
        rcases List.mem_cons.1 h with h | h
        · exact absurd h.symm hx
        · exact h
      have hb : x.born ≠ e.born := fun e' => hn.1 (List.mem_map.2 ⟨e, he, e'.symm⟩)
      rw [List.filter_cons_of_pos (by simpa using hb)]
      exact ((born_perm e M hn.2 he).cons x).trans (List.Perm.swap _ _ _)

theorem left_push (es : Array MapEntry) (seen : Array Nat) (e : MapEntry) : (leftOf es (seen.push e.born)).toList = (leftOf es seen).toList.filter (fun x => x.born != e.born) := by
  unfold leftOf
  rw [Array.toList_filter, Array.toList_filter, List.filter_filter]
  congr 1
  funext x
  simp only [Array.contains_push]
  by_cases h : x.born = e.born
  · simp [h]
  · have h2 : (x.born == e.born) = false := by simpa using h
    have h3 : (x.born != e.born) = true := by simpa using h
    rw [h3]
    simp [h2, h]

theorem left_perm (es : Array MapEntry) (hn : (es.toList.map (·.born)).Nodup) (seen : Array Nat) (e : MapEntry) (he : e ∈ (leftOf es seen).toList) :
    (leftOf es seen).toList.Perm (e :: (leftOf es (seen.push e.born)).toList) := by
  rw [left_push]
  refine born_perm e _ ?_ he
  unfold leftOf
  rw [Array.toList_filter]
  exact hn.sublist ((List.filter_sublist).map _)
theorem left_sub {es : Array MapEntry} {seen : Array Nat} {e : MapEntry} (he : e ∈ (leftOf es seen).toList) : e ∈ es.toList := by
  unfold leftOf at he
  rw [Array.toList_filter] at he
  exact (List.mem_filter.1 he).1

theorem setBlock_grown (w : World) (r : Nat) (o : Obj) : w.grownBy (ChangeMaps.setBlock w r o) (some r) := by
  refine ⟨rfl, rfl, rfl, ?_, ?_⟩
  · simp [ChangeMaps.setBlock]
  · intro k hk hne
    simp only [ChangeMaps.setBlock]
    rw [Array.getElem?_setIfInBounds_ne (fun e => hne (by rw [e]))]
theorem setBlock_grown' (w : World) (r : Nat) (o : Obj) : w.grownBy (ChangeMaps.setBlock w.drew r o) (some r) := by
  refine ⟨rfl, rfl, rfl, ?_, ?_⟩
  · simp [ChangeMaps.setBlock]
  · intro k hk hne
    simp only [ChangeMaps.setBlock]
    rw [Array.getElem?_setIfInBounds_ne (fun e => hne (by rw [e]))]
    rfl
theorem tE_alloc (W : World) : (Instr.alloc 30 true (.tuple #[])).run Tryz.prog W = .ok (.pointer (some ⟨W.heap.size, 0, none⟩)) (W.alloc (.cells (Array.replicate 32 (.int .u8 0)) 30)) := AL_agg tE_zero W
theorem tE_store (W : World) (x : Row 32) : (Instr.storeAt 30 (.pointer (some ⟨W.heap.size, 0, none⟩)) x.enc).run Tryz.prog (W.alloc (.cells (Array.replicate 32 (.int .u8 0)) 30)) = .ok () (W.alloc (.cells x.c 30)) := by
  have hst := store_blk (P := Tryz.prog) (t := 30) tE_size (b := W.heap.size) (o := 0) (w := W.alloc (.cells (Array.replicate 32 (.int .u8 0)) 30)) (World.alloc_heap_new W _) x.c x.flat x.sz (by simp)
  rw [upd_alloc_new, splice_all _ _ (by simp [x.sz])] at hst
  exact hst
theorem tE_load (W : World) (x : Row 32) : (Instr.loadAt 30 (.pointer (some ⟨W.heap.size, 0, none⟩))).run Tryz.prog (W.alloc (.cells x.c 30)) = .ok x.enc (W.alloc (.cells x.c 30)) := by
  have := LD_agg (P := Tryz.prog) (t := 30) tE_agg tE_size W.heap.size 0 (W.alloc (.cells x.c 30))
  rw [show blk (W.alloc (.cells x.c 30)) W.heap.size = _ from World.alloc_heap_new W _, loadBlk_cells, if_pos (by simp [x.sz])] at this
  have e : x.c.extract 0 (0 + 32) = x.c := by simp [x.sz]
  rw [e] at this
  exact this
theorem setBlock_at {w : World} {r : Nat} (o : Obj) (h : r < w.heap.size) : (ChangeMaps.setBlock w r o).heap[r]? = some o := by
  simp [ChangeMaps.setBlock, h]
theorem keys_next {P : Program} {w : World} {r b ck c0 : Nat} {seen : Array Nat} {es : Array MapEntry} (hr : w.heap[r]? = some (.mapIter (some b) ck seen c0)) (hb : w.heap[b]? = some (.map es ck)) (hold : ∀ x ∈ es.toList, x.born < ck) (hsc : ck ≤ c0) (ty : TypeId) :
    ((leftOf es seen).size = 0 ∧ (Instr.next (.pointer (some ⟨r, 0, none⟩)) false ty).run P w = .ok (.tuple #[.bool false]) w) ∨
    ∃ e ∈ (leftOf es seen).toList, ∃ w1, (Instr.next (.pointer (some ⟨r, 0, none⟩)) false ty).run P w = .ok (.tuple #[.bool true, e.key, e.val]) w1 ∧ w.grownBy w1 (some r) ∧ w1.heap[r]? = some (.mapIter (some b) ck (seen.push e.born) ck) := by
  rcases run_next_at (P := P) w ty r b ck c0 seen es ck hr hb hold hsc with h | ⟨e, he, w1, hw1, h⟩
  · exact .inl h
  · refine .inr ⟨e, he, _, h, ?_, ?_⟩
    · rcases hw1 with rfl | rfl
      · exact setBlock_grown _ _ _
      · exact setBlock_grown' _ _ _
    · have hlt : r < w.heap.size := (Array.getElem?_eq_some_iff.1 hr).1
      rcases hw1 with rfl | rfl
      · exact setBlock_at _ hlt
      · exact setBlock_at (w := w.drew) _ hlt

set_option maxRecDepth 100000 in
set_option maxHeartbeats 2000000 in
theorem keys_gives (b ck : Nat) (a : Addr) (es : Array MapEntry) (row : MapEntry → Row 32) (w : World) (hm : w.cell? a = some (.map (some b))) (ha : a.block < w.heap.size) (hb : w.heap[b]? = some (.map es ck))
    (hold : ∀ x ∈ es.toList, x.born < ck) (hn : (es.toList.map (·.born)).Nodup) (hrow : ∀ x ∈ es.toList, x.key = (row x).enc) :
    SeqGives Fence.wide 5 Tryz.prog 90 #[.pointer (some a)] (Row.enc (k := 32)) (fun ss => ss.Perm (es.toList.map row)) es.size w := by
  intro l J W hW hJ hY h0
  have hbl : b < w.heap.size := (Array.getElem?_eq_some_iff.1 hb).1
  have hmW : W.cell? a = some (.map (some b)) := (hW.cell (p := a) ha).trans hm
  have hbW : W.heap[b]? = some (.map es ck) := (hW.block b hbl).trans hb
  have hbW' : b < W.heap.size := Nat.lt_of_lt_of_le hbl hW.size
  refine callsIn_of_wp Tryz.func90 rfl trivial ?_ rfl
  simp only [Tryz.ntmps90, List.size_toArray, List.length_cons, List.length_nil, Nat.reduceAdd, Nat.reduceSub, Array.replicate_succ, Array.replicate_zero, List.push_toArray, List.append_toArray, List.nil_append, List.cons_append]
  have hrg := run_range_map (P := Tryz.prog) W 78 30 129 b es ck Tryz.underlying78 hbW
  gi_wp2
  obtain ⟨W0, hW0⟩ : ∃ W0, W.alloc (.mapIter (some b) ck #[] ck) = W0 := ⟨_, rfl⟩
  have hr0 : W0.heap[W.heap.size]? = some (.mapIter (some b) ck #[] ck) := by rw [← hW0]; exact World.alloc_heap_new W _
  have hb0 : W0.heap[b]? = some (.map es ck) := by rw [← hW0]; exact (Below.heap_alloc W _ b hbW').trans hbW
  have hJ0 : J [] W0 := by rw [← hW0]; exact hJ [] W _ none h0 (World.grownBy_alloc W _ none) (fun r e => by cases e)
  rw [hW0]
  clear hrg
  refine wpIn_loop_rounds (es.size + 1) ?_
  refine rounds_ind (fun k a' w' => ∃ (x3 x4 x6 x7 x8 x9 x10 x11 x12 x13 : Value) (seen : Array Nat) (c0 : Nat) (ss : List (Row 32)),
      a' = { tmps := #[.func (.yield l) #[] #[], .pointer (some a), undef, x3, x4, .pointer (some ⟨W.heap.size, 0, none⟩), x6, x7, x8, x9, x10, x11, x12, x13], defers := [] } ∧
      w'.heap[W.heap.size]? = some (.mapIter (some b) ck seen c0) ∧ ck ≤ c0 ∧ w'.heap[b]? = some (.map es ck) ∧ (leftOf es seen).size = k ∧ J ss w' ∧ (ss ++ (leftOf es seen).toList.map row).Perm (es.toList.map row)) ?_ es.size _ _ ?_
  · rintro k a' w' ⟨x3, x4, x6, x7, x8, x9, x10, x11, x12, x13, seen, c0, ss, rfl, h1, h2, h3, h4, h5, h6⟩
    have hlen : ss.length + k = es.size := by
      have := h6.length_eq
      simpa [h4] using this
    rcases keys_next (P := Tryz.prog) h1 h3 hold h2 0 with ⟨e0, hx⟩ | ⟨e, he, w1, hx, hg1, hi1⟩
    · gi_wp2
      go_end0
      have e1 : (leftOf es seen).toList = [] := by
        have : (leftOf es seen).toList.length = 0 := by simpa using e0
        exact List.eq_nil_of_length_eq_zero this
      rw [e1] at h6
      exact ⟨⟨_, rfl⟩, ss, by simpa using h6, h5⟩
    · have hr1 : ∀ r, some W.heap.size = some r → W.heap.size ≤ r ∧ ∃ o : Obj, w'.heap[r]? = some o ∧ o.isWalk = true := fun r e => by cases e; exact ⟨Nat.le_refl _, _, h1, rfl⟩
      have hJ1 := hJ ss w' w1 _ h5 hg1 hr1
      have hb1 : w1.heap[b]? = some (.map es ck) := (hg1.block b (Array.getElem?_eq_some_iff.1 h3).1 (fun e => by cases e; omega)).trans h3
      have hes := left_sub he
      have hen := run_entry_at (P := Tryz.prog) w1 W.heap.size b ck seen es ck e hi1 hb1 hes hn
      rw [hrow e hes] at hen hx
      have hp := left_perm es hn seen e he
      have hk1 : (leftOf es (seen.push e.born)).size + 1 = k := by
        have := hp.length_eq
        simp only [List.length_cons, Array.length_toList] at this
        omega
      generalize hxr : row e = x at hen hx
      have hal := tE_alloc w1
      have hst := tE_store w1 x
      have hld := tE_load w1 x
      obtain ⟨W2, hW2⟩ : ∃ W2, w1.alloc (.cells x.c 30) = W2 := ⟨_, rfl⟩
      rw [hW2] at hst hld
      have hi2 : W2.heap[W.heap.size]? = some (.mapIter (some b) ck (seen.push e.born) ck) := by rw [← hW2]; exact (Below.heap_alloc _ _ _ (Array.getElem?_eq_some_iff.1 hi1).1).trans hi1
      have hb2 : W2.heap[b]? = some (.map es ck) := by rw [← hW2]; exact (Below.heap_alloc _ _ _ (Array.getElem?_eq_some_iff.1 hb1).1).trans hb1
      have hJ2 : J ss W2 := by rw [← hW2]; exact hJ ss w1 _ none hJ1 (World.grownBy_alloc w1 _ none) (fun r e => by cases e)
      obtain ⟨fn, tmps, assign, body, hy, hR⟩ := hY ss x W2 hJ2 (by omega)
      clear hW2
      gi_wp2_with (first
        | (refine in_alloc (fun _ => trivial) hal ?_)
        | (refine in_store (fun _ => trivial) hst ?_)
        | (refine in_load (fun _ => trivial) hld ?_)
        | gi_in)
      refine hR.mono ?_
      rintro e' W3 ⟨rfl, hJ3, hk3⟩
      gi_wp2
      refine ⟨_, hk1.symm, _, _, _, _, _, _, _, _, _, _, seen.push e.born, ck, ss ++ [x], rfl, hk3.same _ _ hi2 rfl, Nat.le_refl _, hk3.same _ _ hb2 rfl, rfl, hJ3, ?_⟩
      · rw [List.append_assoc]
        refine List.Perm.trans ?_ h6
        refine List.Perm.append_left ss ?_
        have := (hp.map row).symm
        rw [List.map_cons, hxr] at this
        exact this
  · refine ⟨_, _, _, _, _, _, _, _, _, _, #[], ck, [], rfl, hr0, Nat.le_refl _, hb0, ?_, hJ0, ?_⟩
    · simp [leftOf]
    · have : leftOf es #[] = es := by unfold leftOf; rw [Array.filter_eq_self]; intro x _; simp
      rw [this]; exact List.Perm.refl _
end Go.Proofs.YtneolnnngjbdcaaGreatDoor
