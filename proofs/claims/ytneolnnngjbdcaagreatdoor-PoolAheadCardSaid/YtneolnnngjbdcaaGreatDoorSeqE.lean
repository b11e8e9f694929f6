/-
  slices.AppendSeq over an iterator that gives nothing: what maps.Keys hands back of a map without entries.
-/
import Derived.Test.YtneolnnngjbdcaaGreatDoorProg
import Derived.RangeFuncGives
import Derived.Maps.AppendAt
import Derived.Shelf.Abstract
import Derived.Shelf.AbstractIn
import Derived.RangeFuncSeq
import Derived.Sort.MapsRangeIn
import Derived.WalkKit
import Derived.OwnWalkIn
import Derived.TacticsInMore
import Derived.RegionIn
import Derived.LoopNIn
import Derived.LoopIn
import Derived.Maps.RangeRun
import Derived.Below
import Derived.ProofKit
namespace Go.Proofs.YtneolnnngjbdcaaGreatDoor
set_option linter.unusedVariables false
set_option linter.unusedSimpArgs false
open Go Go.RowKit Go.Maps Go.Shelf

theorem next_none {P : Program} {w : World} {r bm since c0 ck : Nat} (hr : w.heap[r]? = some (.mapIter (some bm) since #[] c0)) (hb : w.heap[bm]? = some (.map #[] ck)) (hsc : since ≤ c0) (ty : TypeId) :
    (Instr.next (.pointer (some ⟨r, 0, none⟩)) false ty).run P w = .ok (.tuple #[.bool false]) w := by
  rcases run_next_at (P := P) w ty r bm since c0 #[] #[] ck hr hb (fun x hx => by simp at hx) hsc with ⟨_, h⟩ | ⟨e, he, _⟩
  · exact h
  · simp [leftOf] at he

set_option maxRecDepth 100000 in
set_option maxHeartbeats 1000000 in
/-- the iterator of a map without entries: no round -/
theorem keys_none (n : Nat) (l b ck : Nat) (a : Addr) (W : World) (hm : W.cell? a = some (.map (some b))) (hb : W.heap[b]? = some (.map #[] ck)) :
    CallsIn Fence.wide n Tryz.prog 90 #[.func (.yield l) #[] #[], .pointer (some a)] W fun e W' => (∃ v, e = .returned v) ∧ W' = W.alloc (.mapIter (some b) ck #[] ck) := by
  have hbl : b < W.heap.size := (Array.getElem?_eq_some_iff.1 hb).1
  refine callsIn_of_wp Tryz.func90 rfl trivial ?_ rfl
  simp only [Tryz.ntmps90, List.size_toArray, List.length_cons, List.length_nil, Nat.reduceAdd, Nat.reduceSub, Array.replicate_succ, Array.replicate_zero, List.push_toArray, List.append_toArray, List.nil_append, List.cons_append]
  have hrg := run_range_map (P := Tryz.prog) W 78 30 129 b #[] ck Tryz.underlying78 hb
  have hnx : ∀ ty, (Instr.next (.pointer (some ⟨W.heap.size, 0, none⟩)) false ty).run Tryz.prog (W.alloc (.mapIter (some b) ck #[] ck)) = _ := fun ty => next_none (r := W.heap.size) (bm := b) (since := ck) (c0 := ck) (ck := ck) (World.alloc_heap_new W _) ((Below.heap_alloc W _ b hbl).trans hb) (Nat.le_refl _) ty
  gi_wp2
  refine wpIn_loop_rounds 1 ?_
  rw [roundsIn_succ]
  gi_wp2
  go_end0
  exact ⟨⟨_, rfl⟩, rfl⟩

/-- an outermost loop over an iterator: the record just laid -/
theorem wpIn_rangeFunc_outer {P : Program} {F : Fence} {n : Nat} {g : Operand} {ps : Array Tmp} {assign body : Code} {Q : Exit → Act → World → Prop} {a : Act} {w : World} (hro : F.round = none)
    (h : ∀ fn, F.fn fn → ∀ (W1 : World) (r : Loop), W1 = (w.alloc (.deferred (some []))).alloc (.loop r) → r.state = .ready → r.pending = none → r = { state := .ready, pending := none, fn := fn, tmps := a.tmps, params := ps, assign := assign, body := body, defers := w.heap.size } → ∃ (d : Deferred) (f : FuncId) (args : Array Value),
      (resolve a.eval (rangeCall g (w.heap.size + 1)) 0).run P W1 = .ok d W1 ∧
      (∀ f', Target.leads P W1 d.target d.args = some f' → F.fn f') ∧
      (invoke d.target d.args).run P W1 = .ok (.enter f args) W1 ∧
      (F.depth.isSome = true → 1 ≤ n) ∧
      CallsIn F (n - 1) P f args W1 (rangePost F n P (w.heap.size + 1) Q { a with defers := [{ target := .collected w.heap.size, args := #[] }] ++ a.defers })) :
    (Code.rangeFunc g ps assign body).wpIn F n P Q a w := by
  refine wpIn_rangeFunc ?_
  intro fn hfn
  obtain ⟨d, f, args, h1, h2, h3, h4, h5⟩ := h fn hfn _ _ rfl rfl rfl rfl
  rw [hro]
  exact ⟨_, _, _, d, _, f, args, _, run_enterLoop_outer _ _ _ _ _, h1, h2, h3, h4, h5⟩

set_option maxRecDepth 100000 in
set_option maxHeartbeats 2000000 in
/-- slices.AppendSeq(nil, seq), where the iterator makes no round: nil -/
theorem append_none (g : Nat) (lb : Array Value) (eg : ∀ args w, (callFunc g args).run Tryz.prog w = .ok (.enter g args) w) (w : World)
    (hit : ∀ l W, Below w.heap.size w W → CallsIn Fence.wide 5 Tryz.prog g (#[.func (.yield l) #[] #[]] ++ lb) W fun e W' => (∃ v, e = .returned v) ∧ ∃ o, W' = W.alloc o) :
    Calls Tryz.prog 128 #[.slice none 0 0, .func (.func g) #[] lb] w fun e w' => e = .returned (.slice none 0 0) ∧ Below w.heap.size w w' := by
  refine (callsIn_wide (n := 6)).1 ?_
  refine callsIn_of_wp_marks Tryz.func128 rfl trivial ?_ rfl
  simp only [Tryz.ntmps128, List.size_toArray, List.length_cons, List.length_nil, Nat.reduceAdd, Nat.reduceSub, Array.replicate_succ, Array.replicate_zero, List.push_toArray, List.append_toArray, List.nil_append, List.cons_append]
  gi_wp2
  obtain ⟨W0, hW0⟩ : ∃ W0, w.alloc (.cells #[.slice none 0 0] 91) = W0 := ⟨_, rfl⟩
  have hs0 : W0.heap.size = w.heap.size + 1 := by rw [← hW0]; simp
  have hv0 : W0.heap[w.heap.size]? = some (.cells #[.slice none 0 0] 91 (0, 0)) := by rw [← hW0]; exact World.alloc_heap_new w _
  have hb0 : Below w.heap.size w W0 := by rw [← hW0]; exact (Below.refl _ w).alloc (Nat.le_refl _) _
  rw [hW0]
  refine wpIn_rangeFunc_outer rfl ?_
  intro fn hfn W1 r hW1 hr1 hr2 _
  have hb1 : Below w.heap.size w W1 := by rw [hW1]; exact (hb0.alloc hb0.size _).alloc (by have := hb0.size; simp; omega) _
  have hr : W1.heap[W0.heap.size + 1]? = some (.loop r) := by
    rw [hW1]
    have := World.alloc_heap_new (W0.alloc (.deferred (some []))) (.loop r)
    rw [World.size_alloc] at this
    exact this
  have hK1 : W1.heap[W0.heap.size]? = some (.deferred (some [])) := by rw [hW1]; exact (Below.heap_alloc _ _ _ (by simp)).trans (World.alloc_heap_new W0 _)
  have hv1 : W1.heap[w.heap.size]? = some (.cells #[.slice none 0 0] 91 (0, 0)) := by rw [hW1]; exact (Below.heap_alloc _ _ _ (by simp; omega)).trans ((Below.heap_alloc _ _ _ (by omega)).trans hv0)
  have hz1 : W1.heap.size = W0.heap.size + 2 := by rw [hW1]; simp
  clear hW1
  refine ⟨{ target := .fn (.func g) lb, args := #[.func (.yield (W0.heap.size + 1)) #[] #[]] }, g, #[.func (.yield (W0.heap.size + 1)) #[] #[]] ++ lb, ?_, ?_, ?_, fun _ => by omega, ?_⟩
  · simp [resolve, go_sem]
  · intro f' hf'; trivial
  · simp [invoke, go_sem, eg]
  · refine (hit (W0.heap.size + 1) _ hb1).mono ?_
    rintro e W2 ⟨⟨v0, rfl⟩, o, rfl⟩
    have hr' : (W1.alloc o).heap[W0.heap.size + 1]? = some (.loop r) := (Below.heap_alloc _ _ _ (by omega)).trans hr
    have hend := run_endLoop (P := Tryz.prog) hr' (by rw [hr1]; simp)
    obtain ⟨W3, hW3⟩ : ∃ W3, (W1.alloc o).putObj (W0.heap.size + 1) (.loop { r with state := .exhausted }) = W3 := ⟨_, rfl⟩
    rw [hW3, hr2] at hend
    have hv3 : W3.heap[w.heap.size]? = some (.cells #[.slice none 0 0] 91 (0, 0)) := by rw [← hW3]; exact (World.putObj_heap_other (by omega)).trans ((Below.heap_alloc _ _ _ (by omega)).trans hv1)
    have hK3 : W3.heap[W0.heap.size]? = some (.deferred (some [])) := by rw [← hW3]; exact (World.putObj_heap_other (by omega)).trans ((Below.heap_alloc _ _ _ (by omega)).trans hK1)
    have hb3 : Below w.heap.size w W3 := by
      rw [← hW3]
      have h1 : Below w.heap.size w (W1.alloc o) := hb1.alloc hb1.size _
      refine ⟨h1.os, h1.tape, h1.output, by simpa using h1.size, fun k hk => (World.putObj_heap_other (by omega)).trans (h1.block k hk)⟩
    have hc3 : W3.cell? ⟨w.heap.size, 0, none⟩ = some (.slice none 0 0) := by simp [World.cell?, hv3]
    clear hW3
    refine ⟨none, W3, hend, ?_⟩
    gi_wp2
    try rw [← hs0]
    refine ⟨by simp, .inl ⟨_, _, rfl, run_takeDeferred hK3, ?_⟩⟩
    exact ⟨_, results_tmp rfl _ _ _, rfl, ⟨hb3.os, hb3.tape, hb3.output, by simpa using hb3.size, fun k hk => (World.putObj_heap_other (by omega)).trans (hb3.block k hk)⟩⟩
end Go.Proofs.YtneolnnngjbdcaaGreatDoor
