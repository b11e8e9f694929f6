/-
  slices.AppendSeq and slices.Collect over an iterator that gives rows of cells (elements of an array type): what comes is owned by the slice, in the order in which it came.
-/
import Derived.Test.YtneolnnngjbdcaaGreatDoorEnOne
import Derived.Test.YtneolnnngjbdcaaGreatDoorProg
import Derived.RangeFuncGives
import Derived.Maps.AppendAt
import Derived.Shelf.Abstract
import Derived.Shelf.AbstractIn
import Derived.RangeFuncSeq
import Derived.Sort.MapsRangeIn
import Derived.WalkKit
import Derived.TacticsInMore
import Derived.RegionIn
import Derived.LoopNIn
import Derived.LoopIn
import Derived.Maps.RangeRun
import Derived.Below
import Derived.ProofKit
import Derived.Test.YtneolnnngjbdcaaGreatDoorSeqL
import Derived.OwnWalkIn
import Derived.Deep.AppendSrc
namespace Go.Proofs.YtneolnnngjbdcaaGreatDoor
set_option linter.unusedVariables false
set_option linter.unusedSimpArgs false
open Go Go.RowKit Go.Maps Go.Shelf

/-- a row of k cells -/
structure Row (k : Nat) where
  c : Array Value
  sz : c.size = k
  one : ∀ u ∈ c.toList, u.oneCell' = true
def Row.enc {k : Nat} (x : Row k) : Value := .agg x.c
def Row.all {k : Nat} (l : List (Row k)) : List Value := l.flatMap fun x => x.c.toList
theorem Row.all_snoc {k : Nat} (l : List (Row k)) (x : Row k) : Row.all (l ++ [x]) = Row.all l ++ x.c.toList := by simp [Row.all]
theorem Row.flat {k : Nat} (x : Row k) : Flat x.c := fun v hv => by
  have := x.one v (by simpa using hv)
  constructor <;> intro y e <;> subst e <;> simp [Value.oneCell'] at this

section
variable {P : Program} {n : Nat} {F : Fence} {ops : Array Oper} {rest : List Oper} {a : Act} {Q : Exit → Act → World → Prop} {w w' : World} {t ty : TypeId} {d : Option Tmp} {pos : String} {af : Array Edge}
theorem in_val {o : Oper} {v : Value} (hF : ∀ f, F.fn f) (hg : o.guard = none) (hd : ∀ c, o.op ≠ .defer c) (h : (execOp a.eval o).run P w = .ok (.value v) w') (k : wpListIn F n P ops Q rest (a.put o.dst v) w') : wpListIn F n P ops Q (o :: rest) a w := by
  refine wpListIn_plain hg fun K hK => ⟨fun f _ => hF f, ?_⟩
  rw [Oper.semAt_plain F _ _ hd, h]
  exact hK _ _ k
theorem in_skip {o : Oper} (hF : ∀ f, F.fn f) (hg : o.guard = none) (hd : ∀ c, o.op ≠ .defer c) (h : (execOp a.eval o).run P w = .ok .skip w') (k : wpListIn F n P ops Q rest (a.put o.dst undef) w') : wpListIn F n P ops Q (o :: rest) a w := by
  refine wpListIn_plain hg fun K hK => ⟨fun f _ => hF f, ?_⟩
  rw [Oper.semAt_plain F _ _ hd, h]
  exact hK _ _ k
theorem in_load {x : Operand} {v : Value} (hF : ∀ f, F.fn f) (h : (Instr.loadAt t (a.eval x)).run P w = .ok v w) (k : wpListIn F n P ops Q rest (a.put d v) w) : wpListIn F n P ops Q (⟨d, .load t x, ty, pos, af, none⟩ :: rest) a w :=
  in_val hF rfl (fun c h => by cases h) (by rw [ex_load]; simp only [LD, Sem.run_bind, h, Result.andThen, Sem.run_pure]) k
theorem in_store {x y : Operand} (hF : ∀ f, F.fn f) (h : (Instr.storeAt t (a.eval x) (a.eval y)).run P w = .ok () w') (k : wpListIn F n P ops Q rest (a.put d undef) w') : wpListIn F n P ops Q (⟨d, .store t x y, ty, pos, af, none⟩ :: rest) a w :=
  in_skip hF rfl (fun c h => by cases h) (by rw [ex_store]; simp only [ST, Sem.run_bind, h, Result.andThen, Sem.run_pure]) k
theorem in_alloc {v : Value} (hF : ∀ f, F.fn f) (h : (Instr.alloc t true (.tuple #[])).run P w = .ok v w') (k : wpListIn F n P ops Q rest (a.put d v) w') : wpListIn F n P ops Q (⟨d, .alloc t, ty, pos, af, none⟩ :: rest) a w :=
  in_val hF rfl (fun c h => by cases h) (by rw [ex_alloc]; simp only [AL, Sem.run_bind, h, Result.andThen, Sem.run_pure]) k
theorem in_bslice {m : Nat} {x : Operand} {v : Value} (hF : ∀ f, F.fn f) (h : (Instr.buildSlice t m #[(0, a.eval x)]).run P w = .ok v w') (k : wpListIn F n P ops Q rest (a.put d v) w') : wpListIn F n P ops Q (⟨d, .buildSlice t m #[(0, x)], ty, pos, af, none⟩ :: rest) a w :=
  in_val hF rfl (fun c h => by cases h) (by
    show (do pure (Next.value (← Instr.buildSlice t m (#[(0, x)].map fun (i, x) => (i, a.eval x)))) : Sem Next).run P w = _
    simp only [List.map_toArray, List.map_cons, List.map_nil, Sem.run_bind, h, Result.andThen, Sem.run_pure]) k
end

theorem tE_agg (w : World) : (isAgg 30).run Tryz.prog w = .ok true w := by kernel_rfl
theorem tE_size (w : World) : (Go.sizeOf 30).run Tryz.prog w = .ok 32 w := by kernel_rfl
theorem tE_zero (w : World) : (zeroValue 30).run Tryz.prog w = .ok (.agg (Array.replicate 32 (.int .u8 0))) w := by kernel_rfl
theorem tS_agg (w : World) : (isAgg 91).run Tryz.prog w = .ok false w := by kernel_rfl
theorem tS_size (w : World) : (Go.sizeOf 91).run Tryz.prog w = .ok 1 w := by kernel_rfl
theorem tS_und : Tryz.prog.underlying 91 = some (.slice 30) := by kernel_rfl
theorem tE_info : ∃ i, Tryz.prog.info? 30 = some i ∧ i.zero = some (.agg (Array.replicate 32 (.int .u8 0))) ∧ i.size = 32 ∧ i.bytes = 32 := ⟨(Tryz.prog.info? 30).get!, by kernel_rfl, by kernel_rfl, by kernel_rfl, by kernel_rfl⟩
theorem overlay_r : ∀ (cs : List Value) (n : Nat) (acc : Array Value), n + cs.length ≤ acc.size → (cs.zipIdx n).foldl (fun a (p : Value × Nat) => a.setIfInBounds (0 + p.2) p.1) acc = splice acc n cs.toArray
  | [], n, acc, h => by
    have : n ≤ acc.size := by simpa using h
    show acc = _
    symm
    simp [splice]
    right; omega
  | c :: cs, n, acc, h => by
    have h' : n + cs.length + 1 ≤ acc.size := by simp at h; omega
    rw [List.zipIdx_cons, List.foldl_cons, overlay_r cs (n + 1) _ (by simp; omega)]
    have s1 : n + 1 + cs.toArray.size ≤ (acc.setIfInBounds (0 + n) c).size := by simp; omega
    have s2 : n + (c :: cs).toArray.size ≤ acc.size := by simp; omega
    apply Array.ext_getElem?
    intro k
    rw [splice_get _ _ _ s1, splice_get _ _ _ s2]
    simp only [List.size_toArray, List.length_cons]
    have hlt : n < acc.size := by omega
    by_cases a : k = n
    · subst a
      rw [if_neg (by omega), if_pos (by omega)]
      simp [hlt]
    · by_cases b1 : n + 1 ≤ k ∧ k < n + 1 + cs.length
      · rw [if_pos b1, if_pos (by omega)]
        have : k - n = (k - (n + 1)) + 1 := by omega
        rw [this]
        simp
      · rw [if_neg b1, if_neg (by omega)]
        rw [Array.getElem?_setIfInBounds_ne (by omega)]

theorem fill_row (c z : Array Value) (n : Nat) (hc : c.size = n) (hz : z.size = n) : Instr.fill (fun i => some (i * n, n)) z [(0, .agg c)] = some c := by
  have h := overlay_r c.toList 0 z (by simp [hc, hz])
  have e : (c.zipIdx.foldl (fun cs (p : Value × Nat) => cs.setIfInBounds (0 + p.2) p.1) z) = c := by
    rw [← Array.foldl_toList, Array.toList_zipIdx, h]
    exact splice_all _ _ (by simp [hc, hz])
  simp only [Instr.fill, Value.cells, Nat.zero_mul, hc, hz]
  rw [if_neg (by simp [hc])]
  exact congrArg some e
theorem bsl_row (x : Row 32) (w : World) : (Instr.buildSlice 91 1 #[(0, .agg x.c)]).run Tryz.prog w = .ok (.slice (some ⟨w.heap.size, 0, none⟩) 1 1) (w.alloc (.cells x.c 30)) := by
  have h4 : ∀ z : Array Value, z.size = 32 → Instr.fill (fun i => some (i * 32, 32)) z [(0, .agg x.c)] = some x.c := fun z hz => fill_row _ _ _ x.sz hz
  unfold Instr.buildSlice
  simp only [Sem.run_bind, run_underlying tS_und, Result.andThen, tE_size, tE_zero]
  rw [if_neg (by decide), if_neg (by decide)]
  simp only [Sem.run_bind, Sem.run_pure, Result.andThen, tE_zero]
  rw [h4 _ (by simp)]
  simp only [newRow, newObj, Sem.run_bind, Sem.run, Result.andThen, Sem.run_pure]
  rfl

/-- between two rounds -/
def ApI (w : World) (ss : List (Row 32)) (W : World) : Prop :=
  ∃ v, W.heap[w.heap.size]? = some (.cells #[v] 91 (0, 0)) ∧ W.ownsRow w.heap.size 30 32 v ss.length (Row.all ss) ∧ (v = .slice none 0 0 ↔ ss = []) ∧ Below w.heap.size w W

theorem apI_from (w : World) (B : Nat) (hB : w.heap.size ≤ B) : OwnFrom B (ApI w) := by
  rintro ss W W' row ⟨v, h1, h2, h3, h4⟩ hg hr
  have hne : ∀ r, row = some r → w.heap.size ≤ r := fun r e => Nat.le_trans hB (hr r e).1
  refine ⟨v, ?_, ?_, h3, h4.grown hg h4.size hne⟩
  · refine (hg.block _ (Array.getElem?_eq_some_iff.1 h1).1 ?_).trans h1
    intro e
    obtain ⟨_, o, ho, hc⟩ := hr _ e.symm
    rw [h1] at ho; cases ho; cases hc
  · refine h2.kept hg ?_
    rcases h2.2 with ⟨rfl, _⟩ | ⟨g, cap, cur, rfl, _, hgb, _⟩
    · exact .inl rfl
    · refine .inr fun e => ?_
      obtain ⟨_, o, ho, hc⟩ := hr g (by simpa [Value.ownBlock] using e.symm)
      rw [hgb] at ho; cases ho; cases hc

set_option maxRecDepth 100000 in
set_option maxHeartbeats 2000000 in
/-- slices.AppendSeq(nil, seq) -/
theorem append_seq (g : Nat) (lb : Array Value) (eg : ∀ args w, (callFunc g args).run Tryz.prog w = .ok (.enter g args) w) (S : List (Row 32) → Prop) (N : Nat) (hN : N ≤ maxLen) (hNb : N * 32 ≤ 140737488355328) (w : World)
    (hseq : GivesB Fence.wide 5 Tryz.prog g lb (Row.enc (k := 32)) S N w) :
    Calls Tryz.prog 128 #[.slice none 0 0, .func (.func g) #[] lb] w fun e w' => ∃ (v : Value) (ss : List (Row 32)), e = .returned v ∧ S ss ∧ w'.ownsRow w.heap.size 30 32 v ss.length (Row.all ss) ∧ (v = .slice none 0 0 ↔ ss = []) ∧ Below w.heap.size w w' := by
  refine (callsIn_wide (n := 6)).1 ?_
  refine callsIn_of_wp_marks Tryz.func128 rfl trivial ?_ rfl
  simp only [Tryz.ntmps128, List.size_toArray, List.length_cons, List.length_nil, Nat.reduceAdd, Nat.reduceSub, Array.replicate_succ, Array.replicate_zero, List.push_toArray, List.append_toArray, List.nil_append, List.cons_append]
  gi_wp2
  obtain ⟨W0, hW0⟩ : ∃ W0, w.alloc (.cells #[.slice none 0 0] 91) = W0 := ⟨_, rfl⟩
  have hs0 : W0.heap.size = w.heap.size + 1 := by rw [← hW0]; simp
  have hv0 : W0.heap[w.heap.size]? = some (.cells #[.slice none 0 0] 91 (0, 0)) := by rw [← hW0]; exact World.alloc_heap_new w _
  have hb0 : Below w.heap.size w W0 := by rw [← hW0]; exact (Below.refl _ w).alloc (Nat.le_refl _) _
  rw [hW0]
  refine wpIn_over_seq (by omega) rfl eg hseq hb0 (ApI w) (fun pre W h => by obtain ⟨_, _, _, _, h4⟩ := h; exact h4) (apI_from w _ (by omega)) ⟨_, hv0, ⟨rfl, .inl ⟨rfl, rfl⟩⟩, by simp, hb0⟩ (fun x => .cells x.c 30 (0, 0))
    (fun x b => { tmps := #[.slice none 0 0, .func (.func g) #[] lb, .pointer (some ⟨w.heap.size, 0, none⟩), undef, .slice none 0 0, .pointer (some ⟨b, 0, none⟩), .func (.func g) #[] lb, .agg x.c, undef, undef, undef, undef, undef], defers := [] }) ?_ ?_ ?_
  · intro l x W K hK
    have hal : (Instr.alloc 30 true (.tuple #[])).run Tryz.prog W = .ok (.pointer (some ⟨W.heap.size, 0, none⟩)) (W.alloc (.cells (Array.replicate 32 (.int .u8 0)) 30)) := AL_agg tE_zero W
    have hst := store_blk (P := Tryz.prog) (t := 30) tE_size (b := W.heap.size) (o := 0) (w := W.alloc (.cells (Array.replicate 32 (.int .u8 0)) 30)) (World.alloc_heap_new W _) x.c x.flat x.sz (by simp)
    rw [upd_alloc_new, splice_all _ _ (by simp [x.sz])] at hst
    refine wpIn_region_lit ?_
    refine in_alloc (fun _ => trivial) hal ?_
    refine in_store (fun _ => trivial) hst ?_
    refine wpListIn_nil ?_
    exact hK
  · intro l pre x b W hI hb hx hlen
    obtain ⟨v, h1, h2, h3, h4⟩ := hI
    have hBl : w.heap.size < W.heap.size := (Array.getElem?_eq_some_iff.1 h1).1
    have hbl : b < W.heap.size := (Array.getElem?_eq_some_iff.1 hx).1
    have l1 : (Instr.loadAt 91 (.pointer (some ⟨w.heap.size, 0, none⟩))).run Tryz.prog W = .ok v W := by
      have := LD_cell (P := Tryz.prog) (t := 91) w.heap.size 0 W tS_agg
      rw [show blk W w.heap.size = _ from h1, loadCell_cells] at this
      exact this
    have l2 : (Instr.loadAt 30 (.pointer (some ⟨b, 0, none⟩))).run Tryz.prog W = .ok (.agg x.c) W := by
      have := LD_agg (P := Tryz.prog) (t := 30) tE_agg tE_size b 0 W
      rw [show blk W b = _ from hx, loadBlk_cells, if_pos (by simp [x.sz])] at this
      have e : x.c.extract 0 (0 + 32) = x.c := by simp [x.sz]
      rw [e] at this
      exact this
    obtain ⟨i0, hi, hz0, hz1, hz2⟩ := tE_info
    have hwb : w.heap.size ≤ (W.alloc (.cells x.c 30)).heap.size := by simp; omega
    refine wpIn_block ?_
    refine wpIn_region_lit ?_
    refine in_load (fun _ => trivial) l1 ?_
    refine in_load (fun _ => trivial) l2 ?_
    refine in_bslice (fun _ => trivial) (bsl_row x W) ?_
    refine wpListIn_append_own _ rfl _ _ 91 rfl w.heap.size 30 i0 (.agg (Array.replicate 32 (.int .u8 0))) 32 32 tS_und hi hz0 hz1 hz2 (by simp [Value.cells]) (by decide) v pre.length (Row.all pre) rfl (h2.alloc _) ⟨W.heap.size, 0, none⟩ 1 1 x.c.toList rfl (by simp [x.sz]) ?_ x.one (by omega) (by omega) hwb ?_
    · intro j u hj
      have hh := World.alloc_heap_new W (.cells x.c 30)
      have he : (⟨W.heap.size, 0, none⟩ : Addr).add j = ⟨W.heap.size, j, none⟩ := by
        by_cases h0 : j = 0
        · subst h0; rfl
        · simp [Addr.add, h0]
      rw [he, cell?_blk hh]
      simpa using hj
    · intro v' w3 hown hg hnil
      have hne : v.ownBlock = none ∨ v.ownBlock ≠ some w.heap.size := by
        rcases h2.2 with ⟨rfl, _⟩ | ⟨g', cap, cur, rfl, _, hgb, _⟩
        · exact .inl rfl
        · refine .inr fun e => ?_
          have : g' = w.heap.size := by simpa [Value.ownBlock] using e
          subst this; rw [h1] at hgb; cases hgb
      have hB3 : w3.heap[w.heap.size]? = some (.cells #[v] 91 (0, 0)) := by
        refine (hg.block _ (by simp; omega) ?_).trans ((Below.heap_alloc _ _ _ hBl).trans h1)
        rcases hne with e | e
        · rw [e]; simp
        · exact fun e' => e e'.symm
      have hs1 : v'.oneCell' = true := by
        rcases hown.2 with ⟨rfl, _⟩ | ⟨g', cap, cur, rfl, _⟩ <;> rfl
      have hs2 : Flat #[v'] := fun u hu => by
        obtain rfl : u = v' := by simpa using hu
        constructor <;> intro y e <;> subst e <;> simp [Value.oneCell'] at hs1
      have hst : (Instr.storeAt 91 (.pointer (some ⟨w.heap.size, 0, none⟩)) v').run Tryz.prog w3 = .ok () (upd w3 w.heap.size (fun c => c.setIfInBounds 0 v')) := by
        have := ST_cell (P := Tryz.prog) (t := 91) w.heap.size 0 v' w3 tS_agg tS_size
        rw [show blk w3 w.heap.size = _ from hB3, storeCell_cells _ _ _ _ _ _ _ _ ⟨by simp, (hs2 v' (by simp)).1, (hs2 v' (by simp)).2⟩] at this
        exact this
      refine in_store (fun _ => trivial) hst ?_
      refine wpListIn_nil ?_
      have hg4 : w3.grownBy (upd w3 w.heap.size (fun c => c.setIfInBounds 0 v')) (some w.heap.size) := ⟨rfl, rfl, rfl, by rw [size_upd]; exact Nat.le_refl _, fun k _ hk => heap_upd_other _ (fun e => hk (by rw [e])) _⟩
      have hne' : v'.ownBlock = none ∨ v'.ownBlock ≠ some w.heap.size := by
        rcases hown.2 with ⟨rfl, _⟩ | ⟨g', cap, cur, rfl, _, hgb, _⟩
        · exact .inl rfl
        · refine .inr fun e => ?_
          have : g' = w.heap.size := by simpa [Value.ownBlock] using e
          subst this; rw [hB3] at hgb; cases hgb
      have hrow := hown.kept hg4 hne'
      have hvw : ∀ (j : Nat) (o : Obj), v.ownBlock = some j → (W.alloc (.cells x.c 30)).heap[j]? = some o → o.isCells = true := by
        intro j o hj ho
        rcases (h2.alloc (.cells x.c 30)).2 with ⟨rfl, _⟩ | ⟨g', cap, cur, rfl, _, hgb, _⟩
        · simp [Value.ownBlock] at hj
        · have : g' = j := by simpa [Value.ownBlock] using hj
          subst this; rw [hgb] at ho; cases ho; rfl
      have hk : KeepsOthers W (upd w3 w.heap.size (fun c => c.setIfInBounds 0 v')) := by
        refine ((KeepsOthers.alloc W _).trans (KeepsOthers.of_grownBy hg hvw)).trans (KeepsOthers.of_grownBy hg4 ?_)
        rintro j o e ho
        cases e
        rw [hB3] at ho; cases ho; rfl
      have hb5 : Below w.heap.size w (upd w3 w.heap.size (fun c => c.setIfInBounds 0 v')) := by
        have b1 : Below w.heap.size w w3 := (h4.alloc h4.size _).grown hg hwb (fun k e => (h2.lt k e).1)
        exact b1.grown hg4 b1.size (fun k e => by cases e; exact Nat.le_refl _)
      refine ⟨rfl, hk, v', ?_, ?_, ?_, hb5⟩
      · rw [heap_upd_same hB3]; rfl
      · rw [Row.all_snoc, List.length_append, List.length_singleton]; exact hrow
      · rw [hnil]; simp
  · intro D xs W hD hS hI hK
    obtain ⟨v, h1, h2, h3, h4⟩ := hI
    have l1 : (Instr.loadAt 91 (.pointer (some ⟨w.heap.size, 0, none⟩))).run Tryz.prog W = .ok v W := by
      have := LD_cell (P := Tryz.prog) (t := 91) w.heap.size 0 W tS_agg
      rw [show blk W w.heap.size = _ from h1, loadCell_cells] at this
      exact this
    have hc3 : W.cell? ⟨w.heap.size, 0, none⟩ = some v := by rw [cell?_blk h1]; rfl
    gi_wp2
    refine ⟨by simp, .inl ⟨_, _, rfl, run_takeDeferred hK, ?_⟩⟩
    refine ⟨_, results_tmp rfl _ _ _, v, xs, rfl, hS, ?_, h3, ?_⟩
    · refine h2.kept (grown_put W D _) ?_
      rcases h2.2 with ⟨rfl, _⟩ | ⟨g', cap, cur, rfl, _, hgb, _⟩
      · exact .inl rfl
      · refine .inr fun e => ?_
        have : g' = D := by simpa [Value.ownBlock] using e
        subst this; rw [hK] at hgb; cases hgb
    · exact h4.grown (grown_put W D _) h4.size (fun k e => by cases e; omega)

set_option maxRecDepth 100000 in
/-- slices.Collect(seq) -/
theorem collect_seq (g : Nat) (lb : Array Value) (eg : ∀ args w, (callFunc g args).run Tryz.prog w = .ok (.enter g args) w) (S : List (Row 32) → Prop) (N : Nat) (hN : N ≤ maxLen) (hNb : N * 32 ≤ 140737488355328) (w : World)
    (hseq : GivesB Fence.wide 5 Tryz.prog g lb (Row.enc (k := 32)) S N w) :
    Calls Tryz.prog 88 #[.func (.func g) #[] lb] w fun e w' => ∃ (v : Value) (ss : List (Row 32)), e = .returned v ∧ S ss ∧ w'.ownsRow w.heap.size 30 32 v ss.length (Row.all ss) ∧ (v = .slice none 0 0 ↔ ss = []) ∧ Below w.heap.size w w' := by
  have e11 := enters_of Tryz.func128 (by kernel_rfl) rfl
  go_enter Tryz.func88, Tryz.ntmps88
  go_wp2_with (go_at_call 128; refine (append_seq g lb eg S N hN hNb _ hseq).mono ?_; rintro e w' ⟨v, ss, rfl, hS, hrow, hnil, hb⟩)
  go_ret
  exact ⟨v, ss, rfl, hS, hrow, hnil, hb⟩
#print axioms collect_seq
end Go.Proofs.YtneolnnngjbdcaaGreatDoor
