/-
  A loop over an iterator that gives values, whose left side is a variable in a block of its own: the law, in an invariant of the caller's. (Of no program.)
-/
import Derived.RangeFuncGives
import Derived.RangeFuncOwn
import Derived.RangeFuncKeeps
import Derived.RangeFuncFrom
import Derived.ProofKit
namespace Go.Proofs.YtneolnnngjbdcaaGreatDoor
set_option linter.unusedVariables false
set_option linter.unusedSimpArgs false
open Go Go.RowKit

theorem grown_put (W : World) (l : Nat) (o : Obj) : W.grownBy (W.putObj l o) (some l) :=
  ⟨rfl, rfl, rfl, by simp, fun k _ hk => World.putObj_heap_other (fun e => hk (by rw [e]))⟩

/-- an iterator gives values, to a caller that leaves alone what lay before -/
def GivesB {α : Type} (F : Fence) (n : Nat) (P : Program) (g : Nat) (lb : Array Value) (enc : α → Value) (S : List α → Prop) (N : Nat) (w : World) : Prop :=
  ∀ (l : Nat) (J : List α → World → Prop) (W : World), Below w.heap.size w W → AbidesFrom W.heap.size J →
    (∀ pre x W1, J pre W1 → pre.length < N → YieldAt F (n - 1) P l #[enc x] W1 fun e W' => e = .returned (.bool true) ∧ J (pre ++ [x]) W' ∧ KeepsWalks W1 W') →
    (∀ pre W1, J pre W1 → Below w.heap.size w W1) → J [] W → CallsIn F n P g (#[.func (.yield l) #[] #[]] ++ lb) W fun e W' => (∃ v, e = .returned v) ∧ ∃ xs, S xs ∧ J xs W'
theorem gives_of {α : Type} {F : Fence} {n : Nat} {P : Program} {g : Nat} {lb : Array Value} {enc : α → Value} {S : List α → Prop} {N : Nat} {w : World} (h : SeqGives F n P g lb enc S N w) : GivesB F n P g lb enc S N w :=
  fun l J W hW hJ hY _ h0 => h l J W hW hJ hY h0

theorem wpIn_over_seq {P : Program} {α : Type} {n : Nat} {g : Operand} {t : Tmp} {assign body : Code} {Q : Exit → Act → World → Prop} {a : Act} {w : World}
    (h1 : 1 ≤ n) {gf : Nat} {lb : Array Value} (hg : a.eval g = .func (.func gf) #[] lb) (eg : ∀ args w, (callFunc gf args).run P w = .ok (.enter gf args) w)
    {enc : α → Value} {S : List α → Prop} {N : Nat} {w0 : World} (hseq : GivesB Fence.wide (n - 1) P gf lb enc S N w0) (hb0 : Below w0.heap.size w0 w)
    (I : List α → World → Prop) (hIb : ∀ pre W, I pre W → Below w0.heap.size w0 W) (hI : OwnFrom w.heap.size I) (h0 : I [] w) (oA : α → Obj) (a₁ : α → Nat → Act)
    (hassign : ∀ (l : Nat) (x : α) (W : World) (K : Act → World → Prop), K (a₁ x W.heap.size) (W.alloc (oA x)) →
      assign.wpIn (Fence.wide.inRound l) (n - 1 - 1) P (Exit.then K (fun _ _ _ => False)) { tmps := a.tmps.setIfInBounds t (enc x), defers := [] } W)
    (hbody : ∀ (l : Nat) (pre : List α) (x : α) (b : Nat) (W : World), I pre W → w.heap.size ≤ b → W.heap[b]? = some (oA x) → pre.length < N →
      body.wpIn (Fence.wide.inRound l) (n - 1 - 1) P (fun e _ W' => e = .normal ∧ KeepsOthers W W' ∧ I (pre ++ [x]) W') (a₁ x b) W)
    (hdone : ∀ (D : Nat) (xs : List α) (W : World), w.heap.size ≤ D → S xs → I xs W → W.heap[D]? = some (.deferred (some [])) → Q .normal { a with defers := { target := .collected D, args := #[] } :: a.defers } W) :
    (Code.rangeFunc g #[t] assign body).wpIn Fence.wide n P Q a w := by
  refine wpIn_rangeFunc ?_
  intro fn hfn
  obtain ⟨rc, hrc⟩ : ∃ rc : LoopState → Option Code → Loop, rc = fun st pe => { state := st, pending := pe, fn, tmps := a.tmps, params := #[t], assign, body, defers := w.heap.size } := ⟨_, rfl⟩
  obtain ⟨W1, hW1⟩ : ∃ W1, (w.alloc (.deferred (some []))).alloc (.loop (rc .ready none)) = W1 := ⟨_, rfl⟩
  have hL1 : W1.heap[w.heap.size + 1]? = some (.loop (rc .ready none)) := by
    have := World.alloc_heap_new (w.alloc (.deferred (some []))) (.loop (rc .ready none))
    rw [World.size_alloc] at this
    rw [← hW1]; exact this
  have hK1 : W1.heap[w.heap.size]? = some (.deferred (some [])) := by rw [← hW1]; exact (Below.heap_alloc _ _ _ (by simp)).trans (World.alloc_heap_new w _)
  have hI1 : I [] W1 := by rw [← hW1]; exact hI.alloc _ (hI.alloc _ h0)
  have hb1 : Below w0.heap.size w0 W1 := by
    have h2 : Below w.heap.size w W1 := by rw [← hW1]; exact ((Below.refl _ w).alloc (Nat.le_refl _) _).alloc (by simp) _
    exact hb0.trans (h2.mono hb0.size)
  have hz1 : W1.heap.size = w.heap.size + 2 := by rw [← hW1]; simp
  refine ⟨w.heap.size + 1, [{ target := .collected w.heap.size, args := #[] }], W1, { target := .fn (.func gf) lb, args := #[.func (.yield (w.heap.size + 1)) #[] #[]] }, W1, gf, #[.func (.yield (w.heap.size + 1)) #[] #[]] ++ lb, W1, ?_, ?_, ?_, ?_, fun _ => h1, ?_⟩
  · rw [← hW1, hrc]; exact run_enterLoop_outer _ _ _ _ _
  · simp only [resolve, hg]
    simp [go_sem]
  · intro f' hf'; trivial
  · simp [invoke, go_sem, eg]
  · have hcell : ∀ {A B : World} {row : Option Nat}, (∀ r, row = some r → W1.heap.size ≤ r ∧ ∃ o : Obj, A.heap[r]? = some o ∧ o.isWalk = true) → ∀ r, row = some r → w.heap.size ≤ r ∧ ∃ o : Obj, A.heap[r]? = some o ∧ o.isCells = false := by
      intro A B row hr r e
      obtain ⟨h2, o, h3, h4⟩ := hr r e
      exact ⟨by omega, o, h3, Obj.not_cells_of_walk h4⟩
    refine (hseq (w.heap.size + 1) (fun pre W => I pre W ∧ W.heap[w.heap.size + 1]? = some (.loop (rc .ready none)) ∧ W.heap[w.heap.size]? = some (.deferred (some []))) W1 hb1 ?_ ?_ (fun pre W h => hIb pre W h.1) ⟨hI1, hL1, hK1⟩).mono ?_
    · rintro s A B row ⟨k1, k2, k3⟩ hgr hr
      exact ⟨hI s A B row k1 hgr (hcell (B := B) hr), (grownBy_keeps hgr (fun r e => (hr r e).2) k2 rfl).trans k2, (grownBy_keeps hgr (fun r e => (hr r e).2) k3 rfl).trans k3⟩
    · rintro pre x W ⟨k1, k2, k3⟩ hlen
      have hlt : w.heap.size + 1 < W.heap.size := (Array.getElem?_eq_some_iff.1 k2).1
      have hy := run_yield (P := P) (args := #[enc x]) k2 (by rw [hrc]; rfl)
      have hy' : (Instr.yield (w.heap.size + 1) #[enc x]).run P W = .ok (.round (w.heap.size + 1) fn (a.tmps.setIfInBounds t (enc x)) assign body) W := by
        rw [hy, hrc]; simp
      obtain ⟨W2, hW2⟩ : ∃ W2, W.alloc (oA x) = W2 := ⟨_, rfl⟩
      have hg2 : W.grownBy W2 none := by rw [← hW2]; exact World.grownBy_alloc W _ none
      have j1 : I pre W2 := hI pre W W2 none k1 hg2 (fun r e => by cases e)
      have j2 : W2.heap[w.heap.size + 1]? = some (.loop (rc .ready none)) := by rw [← hW2]; exact (Below.heap_alloc _ _ _ hlt).trans k2
      have j3 : W2.heap[w.heap.size]? = some (.deferred (some [])) := by rw [← hW2]; exact (Below.heap_alloc _ _ _ (by omega)).trans k3
      have j4 : W2.heap[W.heap.size]? = some (oA x) := by rw [← hW2]; exact World.alloc_heap_new W _
      have j5 : KeepsWalks W W2 := by rw [← hW2]; exact KeepsWalks.alloc W _
      refine ⟨fn, _, assign, body, hy', roundIn_of_wpIn hfn ?_⟩
      refine hassign _ x W _ ?_
      rw [hW2]
      clear hW2
      refine ⟨_, run_beginRound j2 (by rw [hrc]), ?_⟩
      have hlt2 : w.heap.size + 1 < W2.heap.size := (Array.getElem?_eq_some_iff.1 j2).1
      obtain ⟨W3, hW3⟩ : ∃ W3, W2.putObj (w.heap.size + 1) (.loop { rc .ready none with state := .busy }) = W3 := ⟨_, rfl⟩
      have i1 : I pre W3 := by rw [← hW3]; exact hI.putObj _ j1 (by omega) j2 rfl
      have i2 : W3.heap[w.heap.size + 1]? = some (.loop { rc .ready none with state := .busy }) := by rw [← hW3]; exact World.putObj_heap_same hlt2
      have i3 : W3.heap[w.heap.size]? = some (.deferred (some [])) := by rw [← hW3]; exact (World.putObj_heap_other (by omega)).trans j3
      have i4 : W3.heap[W.heap.size]? = some (oA x) := by rw [← hW3]; exact (World.putObj_heap_other (by omega)).trans j4
      have i5 : KeepsWalks W W3 := by rw [← hW3]; exact j5.trans (KeepsWalks.putObj _ j2 rfl)
      rw [hrc] at hW3
      rw [hrc, hW3]
      refine wpIn_mono (hbody _ pre x W.heap.size W3 i1 (by omega) i4 hlen) ?_
      rintro e a3 W4 ⟨rfl, hk, hi⟩
      have l2 := hk.same _ _ i2 rfl
      have l3 := hk.same _ _ i3 rfl
      have hend := run_endRound (P := P) none l2
      refine ⟨_, _, hend, rfl, ⟨hI.putObj _ hi (by omega) l2 rfl, ?_, (World.putObj_heap_other (by omega)).trans l3⟩, (i5.trans hk.walks).trans (KeepsWalks.putObj _ l2 rfl)⟩
      rw [World.putObj_heap_same (Array.getElem?_eq_some_iff.1 l2).1, hrc]
      rfl
    · rintro e W2 ⟨⟨v, rfl⟩, xs, hS, hi, hl, hk⟩
      have hend := run_endLoop (P := P) hl (by rw [hrc]; simp)
      refine ⟨none, _, by rw [hrc] at hend; exact hend, ?_⟩
      exact hdone _ xs _ (Nat.le_refl _) hS (hI.putObj _ hi (by omega) hl rfl) ((World.putObj_heap_other (by omega)).trans hk)
end Go.Proofs.YtneolnnngjbdcaaGreatDoor
