/-
  Memory block by block: a struct or an array is read from a block, and written into it, at one blow. (Of no program.)
-/
import Derived.WalkKit
import Derived.ProofKit
import Derived.Handy
namespace Go.Proofs.YtknhohgnilamcaaGreatDoor
set_option linter.unusedSimpArgs false
set_option linter.unusedVariables false
open Go Go.RowKit

/-- What a load of n cells gives where they do not lie in one row. (Never looked into.) -/
def slowLoad (P : Program) (b o n : Nat) (w : World) : Result Value := ((loadCells ⟨b, o, none⟩ n).run P w).andThen fun cs w' => .ok (.agg cs) w'
def loadBlk (P : Program) (b o n : Nat) (w : World) : Option Obj → Result Value
  | some (.cells c _ _) => if o + n ≤ c.size then .ok (.agg (c.extract o (o + n))) w else slowLoad P b o n w
  | _ => slowLoad P b o n w

theorem loadBlk_cells (P : Program) (b o n : Nat) (w : World) (c : Array Value) (e : TypeId) (fr : Nat × Nat) :
    loadBlk P b o n w (some (.cells c e fr)) = if o + n ≤ c.size then .ok (.agg (c.extract o (o + n))) w else slowLoad P b o n w := rfl

/-- A block. -/
def blk (w : World) (b : Nat) : Option Obj := w.heap[b]?
theorem blk_alloc (w : World) (o : Obj) (i : Nat) : blk (w.alloc o) i = if i = w.heap.size then some o else blk w i := by
  show (w.heap.push o)[i]? = _
  rw [Array.getElem?_push]; rfl
theorem blk_drew (w : World) (i : Nat) : blk w.drew i = blk w i := rfl
theorem cell?_blk {w : World} {b : Nat} {c : Array Value} {e : TypeId} {fr : Nat × Nat} (h : w.heap[b]? = some (.cells c e fr)) (o : Nat) : w.cell? ⟨b, o, none⟩ = c[o]? := by
  simp [World.cell?, h]

theorem load_blk {P : Program} {t : TypeId} {n : Nat} (ha : ∀ w, (isAgg t).run P w = .ok true w) (hs : ∀ w, (Go.sizeOf t).run P w = .ok n w) (b o : Nat) (w : World) :
    (Instr.loadAt t (.pointer (some ⟨b, o, none⟩))).run P w = loadBlk P b o n w (blk w b) := by
  have base : (Instr.loadAt t (.pointer (some ⟨b, o, none⟩))).run P w = slowLoad P b o n w := by
    simp only [Instr.loadAt, Instr.sureAddr, loadVar, Sem.run_bind, Sem.run_pure, Result.andThen, ha, hs, if_true, slowLoad]
  unfold loadBlk
  split
  · rename_i c e fr h
    split
    · rename_i hn
      rw [base]
      unfold slowLoad
      have h1 := run_loadCells (P := P) w ⟨b, o, none⟩ n (fun j => c.getD (o + j) undef) (fun j hj => by
        have : (⟨b, o, none⟩ : Addr).add j = ⟨b, o + j, none⟩ := by
          unfold Addr.add; split
          · rename_i h; rw [h]; rfl
          · rfl
        rw [this, cell?_blk h]
        have : o + j < c.size := by omega
        simp [Array.getD, this])
      rw [h1]
      simp only [Result.andThen]
      congr 2
      apply Array.ext
      · simp; omega
      · intro i h2 h3
        have : o + i < c.size := by simp at h2; omega
        simp [Array.getD, this]
    · exact base
  · exact base

/-- A block's cells turned. -/
def oupd (f : Array Value → Array Value) : Obj → Obj
  | .cells c e fr => .cells (f c) e fr
  | o => o
def upd (w : World) (b : Nat) (f : Array Value → Array Value) : World := { w with heap := w.heap.modify b (oupd f) }
/-- the cells vs laid over c from o on -/
def splice (c : Array Value) (o : Nat) (vs : Array Value) : Array Value := c.extract 0 o ++ vs ++ c.extract (o + vs.size) c.size

theorem splice_size (c : Array Value) (o : Nat) (vs : Array Value) (h : o + vs.size ≤ c.size) : (splice c o vs).size = c.size := by
  simp [splice]; omega
theorem splice_get (c : Array Value) (o : Nat) (vs : Array Value) (h : o + vs.size ≤ c.size) (i : Nat) :
    (splice c o vs)[i]? = if o ≤ i ∧ i < o + vs.size then vs[i - o]? else c[i]? := by
  unfold splice
  rw [Array.getElem?_append, Array.getElem?_append]
  simp only [Array.size_append, Array.size_extract, Nat.sub_zero]
  have h1 : min o c.size = o := by omega
  simp only [h1]
  by_cases a : i < o
  · rw [if_pos (by omega), if_pos a, if_neg (by omega)]
    rw [Array.getElem?_extract]; simp
    omega
  · by_cases b : i < o + vs.size
    · rw [if_pos b, if_neg a, if_pos (by omega)]
    · rw [if_neg b, if_neg (by omega), Array.getElem?_extract]
      by_cases d : i < c.size
      · rw [if_pos (by omega)]; congr 1; omega
      · rw [if_neg (by omega)]; simp; omega
theorem splice_all (c : Array Value) (vs : Array Value) (h : vs.size = c.size) : splice c 0 vs = vs := by
  simp [splice, h]

theorem upd_comp (w : World) (b : Nat) (f g : Array Value → Array Value) : upd (upd w b f) b g = upd w b (fun c => g (f c)) := by
  simp only [upd]
  congr 1
  apply Array.ext
  · simp
  · intro i h1 h2
    have hi : i < w.heap.size := by simpa using h1
    simp only [Array.getElem_modify]
    split
    · cases w.heap[i] <;> rfl
    · rfl

theorem setCell_upd (w : World) (b o : Nat) (v : Value) : w.setCell ⟨b, o, none⟩ v = upd w b (fun c => c.setIfInBounds o v) := by
  simp only [World.setCell, upd]
  congr 2

theorem upd_congr {w : World} {b : Nat} {c : Array Value} {e : TypeId} {fr : Nat × Nat} (h : w.heap[b]? = some (.cells c e fr)) {f g : Array Value → Array Value} (hfg : f c = g c) : upd w b f = upd w b g := by
  simp only [upd]
  congr 1
  apply Array.ext
  · simp
  · intro i h1 h2
    simp only [Array.getElem_modify]
    split
    · rename_i hb
      subst hb
      have : w.heap[b]'(by simpa using h1) = .cells c e fr := by
        have h1' : b < w.heap.size := by simpa using h1
        rw [Array.getElem?_eq_getElem h1'] at h
        exact Option.some.inj h
      rw [this]
      simp [oupd, hfg]
    · rfl

theorem heap_upd (w : World) (b : Nat) (f : Array Value → Array Value) (i : Nat) : (upd w b f).heap[i]? = if b = i then (w.heap[i]?).map (oupd f) else w.heap[i]? := by
  simp only [upd, Array.getElem?_modify]
theorem heap_upd_same {w : World} {b : Nat} {c : Array Value} {e : TypeId} {fr : Nat × Nat} (h : w.heap[b]? = some (.cells c e fr)) (f : Array Value → Array Value) : (upd w b f).heap[b]? = some (.cells (f c) e fr) := by
  rw [heap_upd, if_pos rfl, h]; rfl
theorem heap_upd_other (w : World) {b i : Nat} (h : b ≠ i) (f : Array Value → Array Value) : (upd w b f).heap[i]? = w.heap[i]? := by
  rw [heap_upd, if_neg h]
theorem size_upd (w : World) (b : Nat) (f : Array Value → Array Value) : (upd w b f).heap.size = w.heap.size := by simp [upd]

theorem frozen_blk {w : World} {b : Nat} {c : Array Value} {e : TypeId} (h : w.heap[b]? = some (.cells c e)) (o : Nat) : w.frozen? ⟨b, o, none⟩ = false := by
  simp [World.frozen?, h]

/-- The cells vs are stored, one by one. -/
theorem run_storeCells {P : Program} {b : Nat} {e : TypeId} : ∀ (vs : List Value) (w : World) (c : Array Value) (o i : Nat), (∀ v ∈ vs, (∀ x, v ≠ .agg x) ∧ ∀ x, v ≠ .tuple x) →
    w.heap[b]? = some (.cells c e) → o + i + vs.length ≤ c.size →
    (storeCells ⟨b, o, none⟩ vs i).run P w = .ok () (upd w b (fun c => splice c (o + i) vs.toArray))
  | [], w, c, o, i, _, h, hn => by
    simp only [storeCells, Sem.run_pure]
    congr 1
    have hn' : o + i ≤ c.size := by simpa using hn
    have : upd w b (fun c => splice c (o + i) ([] : List Value).toArray) = upd w b id := upd_congr h (by simp [splice]; omega)
    rw [this]
    have e1 : w.heap.modify b (oupd id) = w.heap := by
      apply Array.ext
      · simp
      · intro k h1 h2
        simp only [Array.getElem_modify]
        split
        · cases w.heap[k] <;> rfl
        · rfl
    simp only [upd, e1]
  | v :: vs, w, c, o, i, hv, h, hn => by
    have hc : w.cell? ⟨b, o + i, none⟩ = c[o + i]? := cell?_blk h _
    have hlt : o + i < c.size := by simp at hn; omega
    have hadd : (⟨b, o, none⟩ : Addr).add i = ⟨b, o + i, none⟩ := by
      unfold Addr.add; split
      · rename_i h; rw [h]; rfl
      · rfl
    have hst : (store ((⟨b, o, none⟩ : Addr).add i) v).run P w = .ok () (w.setCell ⟨b, o + i, none⟩ v) := by
      rw [hadd]
      unfold store
      have h1 := (hv v (by simp)).1
      have h2 := (hv v (by simp)).2
      rw [Array.getElem?_eq_getElem hlt] at hc
      cases v with
      | agg x => exact absurd rfl (h1 x)
      | tuple x => exact absurd rfl (h2 x)
      | _ => simp [Sem.run, hc, frozen_blk h]
    have hw1 : (w.setCell ⟨b, o + i, none⟩ v).heap[b]? = some (.cells (c.setIfInBounds (o + i) v) e) := by
      rw [setCell_upd]; exact heap_upd_same h _
    simp only [storeCells, Sem.run_bind, hst, Result.andThen]
    rw [run_storeCells vs (w.setCell ⟨b, o + i, none⟩ v) (c.setIfInBounds (o + i) v) o (i + 1) (fun u hu => hv u (by simp [hu])) hw1 (by simp at hn ⊢; omega), setCell_upd, upd_comp]
    congr 1
    refine upd_congr h ?_
    have s1 : o + (i + 1) + vs.toArray.size ≤ (c.setIfInBounds (o + i) v).size := by simp at hn ⊢; omega
    have s2 : o + i + (v :: vs).toArray.size ≤ c.size := by simp at hn ⊢; omega
    apply Array.ext_getElem?
    intro k
    rw [splice_get _ _ _ s1, splice_get _ _ _ s2]
    simp only [List.size_toArray, List.length_cons]
    by_cases a : k = o + i
    · subst a
      rw [if_neg (by omega), if_pos (by omega)]
      simp [hlt]
    · by_cases b1 : o + (i + 1) ≤ k ∧ k < o + (i + 1) + vs.length
      · rw [if_pos b1, if_pos (by omega)]
        have : k - (o + i) = (k - (o + (i + 1))) + 1 := by omega
        rw [this]
        simp
      · rw [if_neg b1, if_neg (by omega)]
        rw [Array.getElem?_setIfInBounds_ne (by omega)]

/-! The walk's own words for a load, a store, a new variable, a struct that is built: taken ahead of the kit's, which write out each cell. -/
def LD (t : TypeId) (v : Value) : Sem Value := Instr.loadAt t v
def ST (t : TypeId) (a v : Value) : Sem Unit := Instr.storeAt t a v
def AL (t : TypeId) : Sem Value := Instr.alloc t true (.tuple #[])
def BD (t : TypeId) (ps : Array (Nat × Value)) : Sem Value := Instr.build t ps
section
variable (ρ : Operand → Value) (d : Option Tmp) (t ty : TypeId) (x y : Operand) (pos : String) (af : Array Edge) (g : Option (Nat × Bool)) (ps : Array (Nat × Operand)) {P : Program} (w : World)
theorem ex_load : execOp ρ ⟨d, .load t x, ty, pos, af, g⟩ = (do pure (.value (← LD t (ρ x)))) := rfl
theorem ex_store : execOp ρ ⟨d, .store t x y, ty, pos, af, g⟩ = (do ST t (ρ x) (ρ y); pure .skip) := rfl
theorem ex_alloc : execOp ρ ⟨d, .alloc t, ty, pos, af, g⟩ = (do pure (.value (← AL t))) := rfl
theorem ex_build : execOp ρ ⟨d, .build t ps, ty, pos, af, g⟩ = (do pure (.value (← BD t (ps.map fun (i, x) => (i, ρ x))))) := rfl
/-- one cell out of a block -/
def cellOr (P : Program) (t : TypeId) (b o : Nat) (w : World) : Option Value → Result Value
  | some v => .ok v w
  | none => (Instr.loadAt t (.pointer (some ⟨b, o, none⟩))).run P w
def loadCell (P : Program) (t : TypeId) (b o : Nat) (w : World) : Option Obj → Result Value
  | some (.cells c _ _) => cellOr P t b o w c[o]?
  | _ => (Instr.loadAt t (.pointer (some ⟨b, o, none⟩))).run P w
theorem cellOr_some (t : TypeId) (b o : Nat) (v : Value) : cellOr P t b o w (some v) = .ok v w := rfl
theorem loadCell_cells (t : TypeId) (b o : Nat) (c : Array Value) (e : TypeId) (fr : Nat × Nat) : loadCell P t b o w (some (.cells c e fr)) = cellOr P t b o w c[o]? := rfl
theorem LD_cell {t : TypeId} (b o : Nat) (w : World) (ha : ∀ w, (isAgg t).run P w = .ok false w) : (LD t (.pointer (some ⟨b, o, none⟩))).run P w = loadCell P t b o w (blk w b) := by
  unfold loadCell
  split
  · rename_i c e fr h
    cases hv : c[o]? with
    | none => rfl
    | some v =>
      have hc : w.cell? ⟨b, o, none⟩ = some v := by simp only [World.cell?]; rw [show w.heap[b]? = some (.cells c e fr) from h]; simpa using hv
      simp only [LD, Instr.loadAt, Instr.sureAddr, loadVar, Sem.run_bind, Sem.run_pure, Result.andThen, ha, load, Sem.run, hc, Bool.false_eq_true, if_false, cellOr]
  · rfl
theorem AL_plain {t : TypeId} (w : World) (_ha : ∀ w, (isAgg t).run P w = .ok false w) : (AL t).run P w = (Instr.alloc t true (.tuple #[])).run P w := rfl
theorem LD_agg {t : TypeId} {n : Nat} (ha : ∀ w, (isAgg t).run P w = .ok true w) (hs : ∀ w, (Go.sizeOf t).run P w = .ok n w) (b o : Nat) (w : World) :
    (LD t (.pointer (some ⟨b, o, none⟩))).run P w = loadBlk P b o n w (blk w b) := load_blk ha hs b o w
theorem AL_agg {t : TypeId} {c : Array Value} (hz : ∀ w, (zeroValue t).run P w = .ok (.agg c) w) (w : World) :
    (AL t).run P w = .ok (.pointer (some ⟨w.heap.size, 0, none⟩)) (w.alloc (.cells c t)) := by
  simp only [AL, Instr.alloc, Sem.run_bind, hz, Result.andThen, newVar, newRow, newObj, Sem.run, Value.cells, Sem.run_pure]
  rfl
end

/-- plain: no struct, no tuple -/
def Flat (vs : Array Value) : Prop := ∀ v ∈ vs, (∀ x, v ≠ .agg x) ∧ ∀ x, v ≠ .tuple x

theorem store_blk {P : Program} {t : TypeId} {n : Nat} (hs : ∀ w, (Go.sizeOf t).run P w = .ok n w) {b o : Nat} {w : World} {c : Array Value} {e : TypeId} (h : w.heap[b]? = some (.cells c e)) (vs : Array Value) (hf : Flat vs) (hn : vs.size = n) (hb : o + n ≤ c.size) :
    (Instr.storeAt t (.pointer (some ⟨b, o, none⟩)) (.agg vs)).run P w = .ok () (upd w b (fun c => splice c o vs)) := by
  simp only [Instr.storeAt, Instr.sureAddr, storeVar, Sem.run_bind, Sem.run_pure, Result.andThen, hs]
  rw [if_neg (show ¬ (Value.agg vs).cells.size ≠ n by simp [Value.cells, hn])]
  have := run_storeCells (P := P) (b := b) (e := e) vs.toList w c o 0 (fun v hv => hf v (by simpa using hv)) h (by simp [hn]; omega)
  simp only [Nat.add_zero, Array.toArray_toList] at this
  exact this

open Classical in
noncomputable def storeCell (P : Program) (t : TypeId) (b o : Nat) (v : Value) (w : World) : Option Obj → Result Unit
  | some (.cells c _ (0, 0)) => if o < c.size ∧ (∀ x, v ≠ .agg x) ∧ (∀ x, v ≠ .tuple x) then .ok () (upd w b (fun c => c.setIfInBounds o v)) else (Instr.storeAt t (.pointer (some ⟨b, o, none⟩)) v).run P w
  | _ => (Instr.storeAt t (.pointer (some ⟨b, o, none⟩)) v).run P w
theorem ST_cell {P : Program} {t : TypeId} (b o : Nat) (v : Value) (w : World) (_ha : ∀ w, (isAgg t).run P w = .ok false w) (hs : ∀ w, (Go.sizeOf t).run P w = .ok 1 w) :
    (ST t (.pointer (some ⟨b, o, none⟩)) v).run P w = storeCell P t b o v w (blk w b) := by
  unfold storeCell
  split
  · rename_i c e hb
    split
    · rename_i hh
      obtain ⟨ho, h1, h2⟩ := hh
      have hv : v.cells = #[v] := by cases v <;> first | rfl | exact absurd rfl (h1 _)
      have hr := run_storeCells (P := P) (b := b) (e := e) [v] w c o 0 (fun u hu => by
        have : u = v := by simpa using hu
        subst this; exact ⟨h1, h2⟩) hb (by simp; omega)
      simp only [ST, Instr.storeAt, Instr.sureAddr, storeVar, Sem.run_bind, Sem.run_pure, Result.andThen, hs]
      rw [if_neg (show ¬ v.cells.size ≠ 1 by rw [hv]; simp)]
      rw [hv]
      rw [show (#[v] : Array Value).toList = [v] from rfl, hr]
      congr 1
      refine upd_congr hb ?_
      apply Array.ext_getElem?
      intro k
      rw [splice_get _ _ _ (by simp; omega)]
      by_cases a : k = o
      · subst a
        rw [if_pos (by simp)]
        simp [ho]
      · rw [if_neg (by simp; omega), Array.getElem?_setIfInBounds_ne (by omega)]
    · rfl
  · rfl
open Classical in
theorem storeCell_cells (P : Program) (t : TypeId) (b o : Nat) (v : Value) (w : World) (c : Array Value) (e : TypeId) (h : o < c.size ∧ (∀ x, v ≠ .agg x) ∧ (∀ x, v ≠ .tuple x)) :
    storeCell P t b o v w (some (.cells c e (0, 0))) = .ok () (upd w b (fun c => c.setIfInBounds o v)) := if_pos h

open Classical in
noncomputable def storeBlk (P : Program) (t b o n : Nat) (vs : Array Value) (w : World) : Option Obj → Result Unit
  | some (.cells c _ (0, 0)) => if vs.size = n ∧ o + n ≤ c.size ∧ Flat vs then .ok () (upd w b (fun c => splice c o vs)) else (Instr.storeAt t (.pointer (some ⟨b, o, none⟩)) (.agg vs)).run P w
  | _ => (Instr.storeAt t (.pointer (some ⟨b, o, none⟩)) (.agg vs)).run P w
theorem ST_agg {P : Program} {t : TypeId} {n : Nat} (hs : ∀ w, (Go.sizeOf t).run P w = .ok n w) (b o : Nat) (vs : Array Value) (w : World) :
    (ST t (.pointer (some ⟨b, o, none⟩)) (.agg vs)).run P w = storeBlk P t b o n vs w (blk w b) := by
  unfold storeBlk
  split
  · rename_i c e h
    split
    · rename_i hh
      exact store_blk hs h vs hh.2.2 hh.1 hh.2.1
    · rfl
  · rfl
open Classical in
theorem storeBlk_cells (P : Program) (t b o n : Nat) (vs : Array Value) (w : World) (c : Array Value) (e : TypeId) (h : vs.size = n ∧ o + n ≤ c.size ∧ Flat vs) :
    storeBlk P t b o n vs w (some (.cells c e (0, 0))) = .ok () (upd w b (fun c => splice c o vs)) := if_pos h

theorem upd_alloc_new (w : World) (c : Array Value) (e : TypeId) (fr : Nat × Nat) (f : Array Value → Array Value) : upd (w.alloc (.cells c e fr)) w.heap.size f = w.alloc (.cells (f c) e fr) := by
  simp only [upd, World.alloc]
  congr 1
  apply Array.ext
  · simp
  · intro i h1 h2
    simp only [Array.getElem_modify, Array.getElem_push]
    split
    · rename_i hb; subst hb; simp [oupd]
    · rename_i hb
      have : i < w.heap.size := by simp at h1; omega
      simp [this]
theorem upd_alloc_old (w : World) (o : Obj) (b : Nat) (hb : b < w.heap.size) (f : Array Value → Array Value) : upd (w.alloc o) b f = (upd w b f).alloc o := by
  simp only [upd, World.alloc]
  congr 1
  apply Array.ext
  · simp
  · intro i h1 h2
    simp only [Array.getElem_modify, Array.getElem_push, Array.size_modify]
    by_cases hi : i < w.heap.size
    · simp [hi]
    · simp [hi]; omega
theorem blk_upd (w : World) (b : Nat) (f : Array Value → Array Value) (i : Nat) : blk (upd w b f) i = if b = i then (blk w i).map (oupd f) else blk w i := heap_upd w b f i
theorem blk_setCell (w : World) (b o : Nat) (v : Value) (i : Nat) : blk (w.setCell ⟨b, o, none⟩ v) i = if b = i then (blk w i).map (oupd fun c => c.setIfInBounds o v) else blk w i := by
  rw [setCell_upd, blk_upd]
theorem oupd_cells (f : Array Value → Array Value) (c : Array Value) (e : TypeId) (fr : Nat × Nat) : oupd f (.cells c e fr) = .cells (f c) e fr := rfl
theorem upd_alloc (w : World) (o : Obj) (b : Nat) (f : Array Value → Array Value) : upd (w.alloc o) b f = if b = w.heap.size then w.alloc (oupd f o) else (upd w b f).alloc o := by
  split
  · rename_i h
    subst h
    simp only [upd, World.alloc]
    congr 1
    apply Array.ext
    · simp
    · intro i h1 h2
      simp only [Array.getElem_modify, Array.getElem_push]
      split
      · rename_i hb; subst hb; simp
      · rename_i hb
        have : i < w.heap.size := by simp at h1; omega
        simp [this]
  · rename_i h
    simp only [upd, World.alloc]
    congr 1
    apply Array.ext
    · simp
    · intro i h1 h2
      simp only [Array.getElem_modify, Array.getElem_push, Array.size_modify]
      by_cases hi : i < w.heap.size
      · simp [hi]
      · simp [hi]
        intro hb
        simp at h1
        omega
theorem upd_drew (w : World) (b : Nat) (f : Array Value → Array Value) : upd w.drew b f = (upd w b f).drew := rfl
theorem heap_alloc_if (w : World) (o : Obj) (i : Nat) : (w.alloc o).heap[i]? = if i = w.heap.size then some o else w.heap[i]? := by
  show (w.heap.push o)[i]? = _
  rw [Array.getElem?_push]

theorem below_upd {B : Nat} {a w : World} (h : Below B a w) {b : Nat} (hb : B ≤ b) (f : Array Value → Array Value) : Below B a (upd w b f) :=
  h.trans ⟨rfl, rfl, rfl, by simp [upd], fun k hk => heap_upd_other w (by omega) f⟩
theorem blk_lt {w : World} {i : Nat} {o : Obj} (h : blk w i = some o) : i < w.heap.size := (Array.getElem?_eq_some_iff.1 h).1
theorem blk_below {w w' : World} {i : Nat} {o : Obj} (h : blk w i = some o) (hb : Below w.heap.size w w') : blk w' i = some o := (hb.block i (blk_lt h)).trans h
/-- what stays behind a call that makes memory alone -/
theorem bfacts {W w' : World} (h : Below W.heap.size W w') :
    (∀ i, i < W.heap.size → blk w' i = blk W i) ∧ (∀ b o, b < W.heap.size → w'.cell? ⟨b, o, none⟩ = W.cell? ⟨b, o, none⟩) ∧
    (∀ b o, b < W.heap.size → w'.frozen? ⟨b, o, none⟩ = W.frozen? ⟨b, o, none⟩) ∧ W.heap.size ≤ w'.heap.size :=
  ⟨fun i hi => h.block i hi, fun b o hb => h.cell (p := ⟨b, o, none⟩) hb, fun b o hb => h.frozen (p := ⟨b, o, none⟩) hb, h.size⟩
end Go.Proofs.YtknhohgnilamcaaGreatDoor
