/-
  Part of the proof, joined from several texts.
-/
import Derived.WalkKit
import Derived.ProofKit
import Derived.Handy
import Derived.LaidEql
import Derived.LaidEqlPtr
import Derived.DeepKeys5
import Derived.WideKeyMaps
import Derived.Stop.Asserts
import Derived.Laws.Strings
import Derived.Laws.Tables
import Derived.DataReads
import Derived.Deep.AppendSrc
import Derived.Laws.Append
import Derived.MapKept
set_option linter.unusedVariables false
set_option linter.unusedSimpArgs false
set_option linter.unusedSectionVars false
namespace Go.Proofs.YtldidldbhngmnaaGreatDoor
open Go
inductive Pos where
 | H | O (p : Pos) | I (p : Pos)
 deriving DecidableEq,Inhabited
def Pos.nat : Pos → Nat
 | .H => 1 | .O p => 2 * p.nat | .I p => 2 * p.nat + 1
noncomputable def Pos.succ (p : Pos) : Pos := Pos.rec (.O .H) (fun p _ => .I p) (fun _ ih => .O ih) p
noncomputable def Pos.beq (p : Pos) : Pos → Bool :=
 Pos.rec (motive := fun _ => Pos → Bool) (fun q => Pos.casesOn q true (fun _ => false) (fun _ => false)) (fun _ ih q => Pos.casesOn q false (fun q => ih q) (fun _ => false)) (fun _ ih q => Pos.casesOn q false (fun _ => false) (fun q => ih q)) p
theorem Pos.succ_I (p : Pos) : (Pos.I p).succ = .O p.succ := rfl
theorem Pos.succ_nat (p : Pos) : p.succ.nat = p.nat + 1 := by
 induction p with
 | H => rfl
 | O p => rfl
 | I p ih => rw [Pos.succ_I]; simp only [Pos.nat,ih]; omega
theorem Pos.nat_pos (p : Pos) : 0 < p.nat := by
 induction p <;> simp only [Pos.nat] <;> omega
theorem Pos.nat_inj : ∀ {p q : Pos},p.nat = q.nat → p = q := by
 intro p
 induction p with
 | H => intro q h; cases q with
  | H => rfl
  | O q => simp only [Pos.nat] at h; omega
  | I q => simp only [Pos.nat] at h; have := q.nat_pos; omega
 | O p ih => intro q h; cases q with
  | H => simp only [Pos.nat] at h; omega
  | O q => simp only [Pos.nat] at h; rw [ih (q := q) (by omega)]
  | I q => simp only [Pos.nat] at h; omega
 | I p ih => intro q h; cases q with
  | H => simp only [Pos.nat] at h; have := p.nat_pos; omega
  | O q => simp only [Pos.nat] at h; omega
  | I q => simp only [Pos.nat] at h; rw [ih (q := q) (by omega)]
theorem Pos.beq_eq : ∀ (p q : Pos),p.beq q = decide (p = q) := by
 intro p
 induction p with
 | H => intro q; cases q <;> simp [Pos.beq]
 | O p ih => intro q; cases q with
  | O q => show p.beq q = _; rw [ih]; simp
  | _ => simp [Pos.beq]
 | I p ih => intro q; cases q with
  | I q => show p.beq q = _; rw [ih]; simp
  | _ => simp [Pos.beq]
inductive T (α : Type) where
 | nil | node (l : T α) (v : Option α) (r : T α)
 deriving Inhabited
namespace T
variable {α : Type}
noncomputable def get (p : Pos) : T α → Option α := Pos.rec (motive := fun _ => T α → Option α)
 (T.rec (motive := fun _ => Option α) none (fun _ v _ _ _ => v))
 (fun _ ih => T.rec (motive := fun _ => Option α) none (fun l _ _ _ _ => ih l))
 (fun _ ih => T.rec (motive := fun _ => Option α) none (fun _ _ r _ _ => ih r)) p
noncomputable def str (l : T α) (k : T α → T α) : T α := T.rec (motive := fun _ => T α) (k .nil) (fun a b c _ _ => k (.node a b c)) l
noncomputable def set (x : α) (p : Pos) : T α → T α := Pos.rec (motive := fun _ => T α → T α)
 (T.rec (motive := fun _ => T α) (.node .nil (some x) .nil) (fun l _ r _ _ => .node l (some x) r))
 (fun _ ih => T.rec (motive := fun _ => T α) (str (ih .nil) fun l => .node l none .nil) (fun l v r _ _ => str (ih l) fun l => .node l v r))
 (fun _ ih => T.rec (motive := fun _ => T α) (str (ih .nil) fun r => .node .nil none r) (fun l v r _ _ => str (ih r) fun r => .node l v r)) p
theorem str_eq (l : T α) (k : T α → T α) : str l k = k l := by cases l <;> rfl
theorem get_nil (p : Pos) : get p (.nil : T α) = none := by cases p <;> rfl
theorem set_On (x : α) (p : Pos) : set x (.O p) .nil = .node (set x p .nil) none .nil := by
 have : set x (.O p) .nil = str (set x p .nil) (fun l => .node l none .nil) := rfl
 rw [this,str_eq]
theorem set_Oc (x : α) (p : Pos) (l : T α) (v : Option α) (r : T α) : set x (.O p) (.node l v r) = .node (set x p l) v r := by
 have : set x (.O p) (.node l v r) = str (set x p l) (fun l => .node l v r) := rfl
 rw [this,str_eq]
theorem set_In (x : α) (p : Pos) : set x (.I p) .nil = .node .nil none (set x p .nil) := by
 have : set x (.I p) .nil = str (set x p .nil) (fun r => .node .nil none r) := rfl
 rw [this,str_eq]
theorem set_Ic (x : α) (p : Pos) (l : T α) (v : Option α) (r : T α) : set x (.I p) (.node l v r) = .node l v (set x p r) := by
 have : set x (.I p) (.node l v r) = str (set x p r) (fun r => .node l v r) := rfl
 rw [this,str_eq]
theorem get_set (x : α) : ∀ (p q : Pos) (t : T α),get q (set x p t) = if q = p then some x else get q t := by
 intro p
 induction p with
 | H => intro q t; cases t with
  | nil => cases q with
   | H => rfl
   | O q => show get q .nil = _; rw [get_nil,get_nil]; simp
   | I q => show get q .nil = _; rw [get_nil,get_nil]; simp
  | node l v r => cases q <;> rfl
 | O p ih => intro q t; cases t with
  | nil =>
   rw [set_On]
   cases q with
   | O q => show get q (set x p .nil) = _; rw [ih,get_nil,get_nil]; simp
   | H => rfl
   | I q => show get q .nil = _; rw [get_nil,get_nil]; simp
  | node l v r =>
   rw [set_Oc]
   cases q with
   | O q => show get q (set x p l) = if _ then _ else get q l; rw [ih]; simp
   | H => rfl
   | I q => show get q r = if _ then _ else get q r; simp
 | I p ih => intro q t; cases t with
  | nil =>
   rw [set_In]
   cases q with
   | I q => show get q (set x p .nil) = _; rw [ih,get_nil,get_nil]; simp
   | H => rfl
   | O q => show get q .nil = _; rw [get_nil,get_nil]; simp
  | node l v r =>
   rw [set_Ic]
   cases q with
   | I q => show get q (set x p r) = if _ then _ else get q r; rw [ih]; simp
   | H => rfl
   | O q => show get q l = if _ then _ else get q l; simp
theorem set_set (x y : α) : ∀ (p : Pos) (t : T α),set x p (set y p t) = set x p t := by
 intro p
 induction p with
 | H => intro t; cases t <;> rfl
 | O p ih => intro t; cases t with
  | nil => rw [set_On,set_On,set_Oc,ih]
  | node l v r => rw [set_Oc,set_Oc,set_Oc,ih]
 | I p ih => intro t; cases t with
  | nil => rw [set_In,set_In,set_Ic,ih]
  | node l v r => rw [set_Ic,set_Ic,set_Ic,ih]
end T
section
variable {α : Type}
noncomputable def lget (l : List α) : Nat → Option α := List.rec (motive := fun _ => Nat → Option α) (fun _ => none) (fun x _ ih n => Nat.casesOn (motive := fun _ => Option α) n (some x) (fun n => ih n)) l
noncomputable def lset (y : α) (l : List α) : Nat → List α := List.rec (motive := fun _ => Nat → List α) (fun _ => []) (fun x l ih n => Nat.casesOn (motive := fun _ => List α) n (y :: l) (fun n => x :: ih n)) l
noncomputable def ldrop (l : List α) : Nat → List α := List.rec (motive := fun _ => Nat → List α) (fun _ => []) (fun x l ih n => Nat.casesOn (motive := fun _ => List α) n (x :: l) (fun n => ih n)) l
noncomputable def ltake (l : List α) : Nat → List α := List.rec (motive := fun _ => Nat → List α) (fun _ => []) (fun x l ih n => Nat.casesOn (motive := fun _ => List α) n [] (fun n => x :: ih n)) l
noncomputable def lapp (l m : List α) : List α := List.rec (motive := fun _ => List α) m (fun x _ ih => x :: ih) l
noncomputable def llen (l : List α) : Nat := List.rec (motive := fun _ => Nat) 0 (fun _ _ ih => Nat.add ih 1) l
noncomputable def lall (f : α → Bool) (l : List α) : Bool := List.rec (motive := fun _ => Bool) true (fun x _ ih => Bool.casesOn (motive := fun _ => Bool) (f x) false ih) l
noncomputable def lmap {β : Type} (f : α → β) (l : List α) : List β := List.rec (motive := fun _ => List β) [] (fun x _ ih => f x :: ih) l
theorem lget_eq (l : List α) (n : Nat) : lget l n = l[n]? := by
 induction l generalizing n with
 | nil => simp [lget]
 | cons x l ih => cases n with
  | zero => rfl
  | succ n => exact ih n
theorem lset_eq (y : α) (l : List α) (n : Nat) : lset y l n = l.set n y := by
 induction l generalizing n with
 | nil => simp [lset]
 | cons x l ih => cases n with
  | zero => rfl
  | succ n => show x :: lset y l n = _; rw [ih]; rfl
theorem ldrop_eq (l : List α) (n : Nat) : ldrop l n = l.drop n := by
 induction l generalizing n with
 | nil => simp [ldrop]
 | cons x l ih => cases n with
  | zero => rfl
  | succ n => exact ih n
theorem ltake_eq (l : List α) (n : Nat) : ltake l n = l.take n := by
 induction l generalizing n with
 | nil => simp [ltake]
 | cons x l ih => cases n with
  | zero => rfl
  | succ n => show x :: ltake l n = _; rw [ih]; rfl
theorem lapp_eq (l m : List α) : lapp l m = l ++ m := by
 induction l with
 | nil => rfl
 | cons x l ih => show x :: lapp l m = _; rw [ih]; rfl
theorem llen_eq (l : List α) : llen l = l.length := by
 induction l with
 | nil => rfl
 | cons x l ih => show llen l + 1 = _; rw [ih]; rfl
theorem lall_eq (f : α → Bool) (l : List α) : lall f l = l.all f := by
 induction l with
 | nil => rfl
 | cons x l ih =>
  have e : lall f (x :: l) = match f x with | true => lall f l | false => false := by
   have : lall f (x :: l) = Bool.casesOn (motive := fun _ => Bool) (f x) false (lall f l) := rfl
   rw [this]
   cases f x <;> rfl
  rw [e,ih,List.all_cons]
  cases f x <;> rfl
theorem lmap_eq {β : Type} (f : α → β) (l : List α) : lmap f l = l.map f := by
 induction l with
 | nil => rfl
 | cons x l ih => show f x :: lmap f l = _; rw [ih]; rfl
end
end Go.Proofs.YtldidldbhngmnaaGreatDoor
namespace Go.Proofs.YtldidldbhngmnaaGreatDoor
open Go Go.RowKit
def slowLoad (P : Program) (b o n : Nat) (w : World) : Result Value := ((loadCells ⟨b,o,none⟩ n).run P w).andThen fun cs w' => .ok (.agg cs) w'
def loadBlk (P : Program) (b o n : Nat) (w : World) : Option Obj → Result Value
 | some (.cells c _ _) => if o + n ≤ c.size then .ok (.agg (c.extract o (o + n))) w else slowLoad P b o n w
 | _ => slowLoad P b o n w
theorem loadBlk_cells (P : Program) (b o n : Nat) (w : World) (c : Array Value) (e : TypeId) (fr : Nat × Nat) :
  loadBlk P b o n w (some (.cells c e fr)) = if o + n ≤ c.size then .ok (.agg (c.extract o (o + n))) w else slowLoad P b o n w := rfl
def blk (w : World) (b : Nat) : Option Obj := w.heap[b]?
theorem cell?_blk {w : World} {b : Nat} {c : Array Value} {e : TypeId} {fr : Nat × Nat} (h : w.heap[b]? = some (.cells c e fr)) (o : Nat) : w.cell? ⟨b,o,none⟩ = c[o]? := by
 simp [World.cell?,h]
theorem load_blk {P : Program} {t : TypeId} {n : Nat} (ha : ∀ w,(isAgg t).run P w = .ok true w) (hs : ∀ w,(Go.sizeOf t).run P w = .ok n w) (b o : Nat) (w : World) :
  (Instr.loadAt t (.pointer (some ⟨b,o,none⟩))).run P w = loadBlk P b o n w (blk w b) := by
 have base : (Instr.loadAt t (.pointer (some ⟨b,o,none⟩))).run P w = slowLoad P b o n w := by
  simp only [Instr.loadAt,Instr.sureAddr,loadVar,Sem.run_bind,Sem.run_pure,Result.andThen,ha,hs,if_true,slowLoad]
 unfold loadBlk
 split
 ·rename_i c e fr h
  split
  ·rename_i hn
   rw [base]
   unfold slowLoad
   have h1 := run_loadCells (P := P) w ⟨b,o,none⟩ n (fun j => c.getD (o + j) undef) (fun j hj => by
    have : (⟨b,o,none⟩ : Addr).add j = ⟨b,o + j,none⟩ := by
     unfold Addr.add; split
     ·rename_i h; rw [h]; rfl
     ·rfl
    rw [this,cell?_blk h]
    have : o + j < c.size := by omega
    simp [Array.getD,this])
   rw [h1]
   simp only [Result.andThen]
   congr 2
   apply Array.ext
   ·simp; omega
   ·intro i h2 h3
    have : o + i < c.size := by simp at h2; omega
    simp [Array.getD,this]
  ·exact base
 ·exact base
def oupd (f : Array Value → Array Value) : Obj → Obj
 | .cells c e fr => .cells (f c) e fr
 | o => o
def upd (w : World) (b : Nat) (f : Array Value → Array Value) : World := { w with heap := w.heap.modify b (oupd f) }
def splice (c : Array Value) (o : Nat) (vs : Array Value) : Array Value := c.extract 0 o ++ vs ++ c.extract (o + vs.size) c.size
theorem splice_size (c : Array Value) (o : Nat) (vs : Array Value) (h : o + vs.size ≤ c.size) : (splice c o vs).size = c.size := by
 simp [splice]; omega
theorem splice_get (c : Array Value) (o : Nat) (vs : Array Value) (h : o + vs.size ≤ c.size) (i : Nat) :
  (splice c o vs)[i]? = if o ≤ i ∧ i < o + vs.size then vs[i - o]? else c[i]? := by
 unfold splice
 rw [Array.getElem?_append,Array.getElem?_append]
 simp only [Array.size_append,Array.size_extract,Nat.sub_zero]
 have h1 : min o c.size = o := by omega
 simp only [h1]
 by_cases a : i < o
 ·rw [if_pos (by omega),if_pos a,if_neg (by omega)]
  rw [Array.getElem?_extract]; simp
  omega
 ·by_cases b : i < o + vs.size
  ·rw [if_pos b,if_neg a,if_pos (by omega)]
  ·rw [if_neg b,if_neg (by omega),Array.getElem?_extract]
   by_cases d : i < c.size
   ·rw [if_pos (by omega)]; congr 1; omega
   ·rw [if_neg (by omega)]; simp; omega
theorem splice_all (c : Array Value) (vs : Array Value) (h : vs.size = c.size) : splice c 0 vs = vs := by
 simp [splice,h]
theorem upd_comp (w : World) (b : Nat) (f g : Array Value → Array Value) : upd (upd w b f) b g = upd w b (fun c => g (f c)) := by
 simp only [upd]
 congr 1
 apply Array.ext
 ·simp
 ·intro i h1 h2
  have hi : i < w.heap.size := by simpa using h1
  simp only [Array.getElem_modify]
  split
  ·cases w.heap[i] <;> rfl
  ·rfl
theorem setCell_upd (w : World) (b o : Nat) (v : Value) : w.setCell ⟨b,o,none⟩ v = upd w b (fun c => c.setIfInBounds o v) := by
 simp only [World.setCell,upd]
 congr 2
theorem upd_congr {w : World} {b : Nat} {c : Array Value} {e : TypeId} {fr : Nat × Nat} (h : w.heap[b]? = some (.cells c e fr)) {f g : Array Value → Array Value} (hfg : f c = g c) : upd w b f = upd w b g := by
 simp only [upd]
 congr 1
 apply Array.ext
 ·simp
 ·intro i h1 h2
  simp only [Array.getElem_modify]
  split
  ·rename_i hb
   subst hb
   have : w.heap[b]'(by simpa using h1) = .cells c e fr := by
    have h1' : b < w.heap.size := by simpa using h1
    rw [Array.getElem?_eq_getElem h1'] at h
    exact Option.some.inj h
   rw [this]
   simp [oupd,hfg]
  ·rfl
theorem heap_upd (w : World) (b : Nat) (f : Array Value → Array Value) (i : Nat) : (upd w b f).heap[i]? = if b = i then (w.heap[i]?).map (oupd f) else w.heap[i]? := by
 simp only [upd,Array.getElem?_modify]
theorem heap_upd_same {w : World} {b : Nat} {c : Array Value} {e : TypeId} {fr : Nat × Nat} (h : w.heap[b]? = some (.cells c e fr)) (f : Array Value → Array Value) : (upd w b f).heap[b]? = some (.cells (f c) e fr) := by
 rw [heap_upd,if_pos rfl,h]; rfl
theorem heap_upd_other (w : World) {b i : Nat} (h : b ≠ i) (f : Array Value → Array Value) : (upd w b f).heap[i]? = w.heap[i]? := by
 rw [heap_upd,if_neg h]
theorem size_upd (w : World) (b : Nat) (f : Array Value → Array Value) : (upd w b f).heap.size = w.heap.size := by simp [upd]
theorem frozen_blk {w : World} {b : Nat} {c : Array Value} {e : TypeId} (h : w.heap[b]? = some (.cells c e)) (o : Nat) : w.frozen? ⟨b,o,none⟩ = false := by
 simp [World.frozen?,h]
theorem run_storeCells {P : Program} {b : Nat} {e : TypeId} : ∀ (vs : List Value) (w : World) (c : Array Value) (o i : Nat),(∀ v ∈ vs,(∀ x,v ≠ .agg x) ∧ ∀ x,v ≠ .tuple x) →
  w.heap[b]? = some (.cells c e) → o + i + vs.length ≤ c.size →
  (storeCells ⟨b,o,none⟩ vs i).run P w = .ok () (upd w b (fun c => splice c (o + i) vs.toArray))
 | [],w,c,o,i,_,h,hn => by
  simp only [storeCells,Sem.run_pure]
  congr 1
  have hn' : o + i ≤ c.size := by simpa using hn
  have : upd w b (fun c => splice c (o + i) ([] : List Value).toArray) = upd w b id := upd_congr h (by simp [splice]; omega)
  rw [this]
  have e1 : w.heap.modify b (oupd id) = w.heap := by
   apply Array.ext
   ·simp
   ·intro k h1 h2
    simp only [Array.getElem_modify]
    split
    ·cases w.heap[k] <;> rfl
    ·rfl
  simp only [upd,e1]
 | v :: vs,w,c,o,i,hv,h,hn => by
  have hc : w.cell? ⟨b,o + i,none⟩ = c[o + i]? := cell?_blk h _
  have hlt : o + i < c.size := by simp at hn; omega
  have hadd : (⟨b,o,none⟩ : Addr).add i = ⟨b,o + i,none⟩ := by
   unfold Addr.add; split
   ·rename_i h; rw [h]; rfl
   ·rfl
  have hst : (store ((⟨b,o,none⟩ : Addr).add i) v).run P w = .ok () (w.setCell ⟨b,o + i,none⟩ v) := by
   rw [hadd]
   unfold store
   have h1 := (hv v (by simp)).1
   have h2 := (hv v (by simp)).2
   rw [Array.getElem?_eq_getElem hlt] at hc
   cases v with
   | agg x => exact absurd rfl (h1 x)
   | tuple x => exact absurd rfl (h2 x)
   | _ => simp [Sem.run,hc,frozen_blk h]
  have hw1 : (w.setCell ⟨b,o + i,none⟩ v).heap[b]? = some (.cells (c.setIfInBounds (o + i) v) e) := by
   rw [setCell_upd]; exact heap_upd_same h _
  simp only [storeCells,Sem.run_bind,hst,Result.andThen]
  rw [run_storeCells vs (w.setCell ⟨b,o + i,none⟩ v) (c.setIfInBounds (o + i) v) o (i + 1) (fun u hu => hv u (by simp [hu])) hw1 (by simp at hn ⊢; omega),setCell_upd,upd_comp]
  congr 1
  refine upd_congr h ?_
  have s1 : o + (i + 1) + vs.toArray.size ≤ (c.setIfInBounds (o + i) v).size := by simp at hn ⊢; omega
  have s2 : o + i + (v :: vs).toArray.size ≤ c.size := by simp at hn ⊢; omega
  apply Array.ext_getElem?
  intro k
  rw [splice_get _ _ _ s1,splice_get _ _ _ s2]
  simp only [List.size_toArray,List.length_cons]
  by_cases a : k = o + i
  ·subst a
   rw [if_neg (by omega),if_pos (by omega)]
   simp [hlt]
  ·by_cases b1 : o + (i + 1) ≤ k ∧ k < o + (i + 1) + vs.length
   ·rw [if_pos b1,if_pos (by omega)]
    have : k - (o + i) = (k - (o + (i + 1))) + 1 := by omega
    rw [this]
    simp
   ·rw [if_neg b1,if_neg (by omega)]
    rw [Array.getElem?_setIfInBounds_ne (by omega)]
def LD (t : TypeId) (v : Value) : Sem Value := Instr.loadAt t v
def ST (t : TypeId) (a v : Value) : Sem Unit := Instr.storeAt t a v
def AL (t : TypeId) : Sem Value := Instr.alloc t true (.tuple #[])
section
variable (ρ : Operand → Value) (d : Option Tmp) (t ty : TypeId) (x y : Operand) (pos : String) (af : Array Edge) (g : Option (Nat × Bool)) (ps : Array (Nat × Operand)) {P : Program} (w : World)
theorem ex_load : execOp ρ ⟨d,.load t x,ty,pos,af,g⟩ = (do pure (.value (← LD t (ρ x)))) := rfl
theorem ex_store : execOp ρ ⟨d,.store t x y,ty,pos,af,g⟩ = (do ST t (ρ x) (ρ y); pure .skip) := rfl
theorem ex_alloc : execOp ρ ⟨d,.alloc t,ty,pos,af,g⟩ = (do pure (.value (← AL t))) := rfl
def cellOr (P : Program) (t : TypeId) (b o : Nat) (w : World) : Option Value → Result Value
 | some v => .ok v w
 | none => (Instr.loadAt t (.pointer (some ⟨b,o,none⟩))).run P w
def loadCell (P : Program) (t : TypeId) (b o : Nat) (w : World) : Option Obj → Result Value
 | some (.cells c _ _) => cellOr P t b o w c[o]?
 | _ => (Instr.loadAt t (.pointer (some ⟨b,o,none⟩))).run P w
theorem cellOr_some (t : TypeId) (b o : Nat) (v : Value) : cellOr P t b o w (some v) = .ok v w := rfl
theorem loadCell_cells (t : TypeId) (b o : Nat) (c : Array Value) (e : TypeId) (fr : Nat × Nat) : loadCell P t b o w (some (.cells c e fr)) = cellOr P t b o w c[o]? := rfl
theorem LD_cell {t : TypeId} (b o : Nat) (w : World) (ha : ∀ w,(isAgg t).run P w = .ok false w) : (LD t (.pointer (some ⟨b,o,none⟩))).run P w = loadCell P t b o w (blk w b) := by
 unfold loadCell
 split
 ·rename_i c e fr h
  cases hv : c[o]? with
  | none => rfl
  | some v =>
   have hc : w.cell? ⟨b,o,none⟩ = some v := by simp only [World.cell?]; rw [show w.heap[b]? = some (.cells c e fr) from h]; simpa using hv
   simp only [LD,Instr.loadAt,Instr.sureAddr,loadVar,Sem.run_bind,Sem.run_pure,Result.andThen,ha,load,Sem.run,hc,Bool.false_eq_true,if_false,cellOr]
 ·rfl
theorem LD_agg {t : TypeId} {n : Nat} (ha : ∀ w,(isAgg t).run P w = .ok true w) (hs : ∀ w,(Go.sizeOf t).run P w = .ok n w) (b o : Nat) (w : World) :
  (LD t (.pointer (some ⟨b,o,none⟩))).run P w = loadBlk P b o n w (blk w b) := load_blk ha hs b o w
theorem AL_agg {t : TypeId} {c : Array Value} (hz : ∀ w,(zeroValue t).run P w = .ok (.agg c) w) (w : World) :
  (AL t).run P w = .ok (.pointer (some ⟨w.heap.size,0,none⟩)) (w.alloc (.cells c t)) := by
 simp only [AL,Instr.alloc,Sem.run_bind,hz,Result.andThen,newVar,newRow,newObj,Sem.run,Value.cells,Sem.run_pure]
 rfl
end
def Flat (vs : Array Value) : Prop := ∀ v ∈ vs,(∀ x,v ≠ .agg x) ∧ ∀ x,v ≠ .tuple x
theorem store_blk {P : Program} {t : TypeId} {n : Nat} (hs : ∀ w,(Go.sizeOf t).run P w = .ok n w) {b o : Nat} {w : World} {c : Array Value} {e : TypeId} (h : w.heap[b]? = some (.cells c e)) (vs : Array Value) (hf : Flat vs) (hn : vs.size = n) (hb : o + n ≤ c.size) :
  (Instr.storeAt t (.pointer (some ⟨b,o,none⟩)) (.agg vs)).run P w = .ok () (upd w b (fun c => splice c o vs)) := by
 simp only [Instr.storeAt,Instr.sureAddr,storeVar,Sem.run_bind,Sem.run_pure,Result.andThen,hs]
 rw [if_neg (show ¬ (Value.agg vs).cells.size ≠ n by simp [Value.cells,hn])]
 have := run_storeCells (P := P) (b := b) (e := e) vs.toList w c o 0 (fun v hv => hf v (by simpa using hv)) h (by simp [hn]; omega)
 simp only [Nat.add_zero,Array.toArray_toList] at this
 exact this
open Classical in
noncomputable def storeCell (P : Program) (t : TypeId) (b o : Nat) (v : Value) (w : World) : Option Obj → Result Unit
 | some (.cells c _ (0,0)) => if o < c.size ∧ (∀ x,v ≠ .agg x) ∧ (∀ x,v ≠ .tuple x) then .ok () (upd w b (fun c => c.setIfInBounds o v)) else (Instr.storeAt t (.pointer (some ⟨b,o,none⟩)) v).run P w
 | _ => (Instr.storeAt t (.pointer (some ⟨b,o,none⟩)) v).run P w
theorem ST_cell {P : Program} {t : TypeId} (b o : Nat) (v : Value) (w : World) (_ha : ∀ w,(isAgg t).run P w = .ok false w) (hs : ∀ w,(Go.sizeOf t).run P w = .ok 1 w) :
  (ST t (.pointer (some ⟨b,o,none⟩)) v).run P w = storeCell P t b o v w (blk w b) := by
 unfold storeCell
 split
 ·rename_i c e hb
  split
  ·rename_i hh
   obtain ⟨ho,h1,h2⟩ := hh
   have hv : v.cells = #[v] := by cases v <;> first | rfl | exact absurd rfl (h1 _)
   have hr := run_storeCells (P := P) (b := b) (e := e) [v] w c o 0 (fun u hu => by
    have : u = v := by simpa using hu
    subst this; exact ⟨h1,h2⟩) hb (by simp; omega)
   simp only [ST,Instr.storeAt,Instr.sureAddr,storeVar,Sem.run_bind,Sem.run_pure,Result.andThen,hs]
   rw [if_neg (show ¬ v.cells.size ≠ 1 by rw [hv]; simp)]
   rw [hv]
   rw [show (#[v] : Array Value).toList = [v] from rfl,hr]
   congr 1
   refine upd_congr hb ?_
   apply Array.ext_getElem?
   intro k
   rw [splice_get _ _ _ (by simp; omega)]
   by_cases a : k = o
   ·subst a
    rw [if_pos (by simp)]
    simp [ho]
   ·rw [if_neg (by simp; omega),Array.getElem?_setIfInBounds_ne (by omega)]
  ·rfl
 ·rfl
open Classical in
theorem storeCell_cells (P : Program) (t : TypeId) (b o : Nat) (v : Value) (w : World) (c : Array Value) (e : TypeId) (h : o < c.size ∧ (∀ x,v ≠ .agg x) ∧ (∀ x,v ≠ .tuple x)) :
  storeCell P t b o v w (some (.cells c e (0,0))) = .ok () (upd w b (fun c => c.setIfInBounds o v)) := if_pos h
open Classical in
open Classical in
theorem upd_alloc_new (w : World) (c : Array Value) (e : TypeId) (fr : Nat × Nat) (f : Array Value → Array Value) : upd (w.alloc (.cells c e fr)) w.heap.size f = w.alloc (.cells (f c) e fr) := by
 simp only [upd,World.alloc]
 congr 1
 apply Array.ext
 ·simp
 ·intro i h1 h2
  simp only [Array.getElem_modify,Array.getElem_push]
  split
  ·rename_i hb; subst hb; simp [oupd]
  ·rename_i hb
   have : i < w.heap.size := by simp at h1; omega
   simp [this]
theorem heap_alloc_if (w : World) (o : Obj) (i : Nat) : (w.alloc o).heap[i]? = if i = w.heap.size then some o else w.heap[i]? := by
 show (w.heap.push o)[i]? = _
 rw [Array.getElem?_push]
end Go.Proofs.YtldidldbhngmnaaGreatDoor
namespace Go.Proofs.YtldidldbhngmnaaGreatDoor
open Go
inductive V where
 | u | bool (b : Bool) | int (k : IntKind) (n : Int) | str (l : List Nat)
 | nilp | ptr (p : Pos) (o : Nat)
 | nils | slice (p : Pos) (o len : Nat) (cap : Option Nat) (esz : Nat)
 | nilm | map (p : Pos)
 | nilf | fn (f : Nat) (first cap : List V)
 | nili | iface (t : Nat) (v : V)
 | agg (l : List V) | tup (l : List V)
 | itr (p : Pos)
 deriving Inhabited
structure ME where
 k : V
 v : V
 b : Nat
 deriving Inhabited
inductive KSh where
 | cells (l : List IntKind) | int (k : IntKind) | str
 deriving Inhabited,DecidableEq
def Shaped : KSh → Value → Prop
 | .cells sh,v => ∃ c : Array Value,v = .agg c ∧ c.size = sh.length ∧ ∀ (i : Nat) k x,sh[i]? = some k → c[i]? = some x → ∃ n,x = .int k n ∧ k.has n
 | .int k,v => ∃ n,v = .int k n ∧ k.has n
 | .str,v => ∃ s,v = .string s
inductive Ob where
 | cells (l : List V) (kin : List Pos) (fz ro : Bool)
 | map (es : List ME) (ck : Nat) (ks : KSh)
 | mit (m : Option Pos) (since : Nat) (seen : List Nat) (stepped : Nat)
 | sit (l : List Nat) (at_ : Nat)
 | dead
 deriving Inhabited
def beqK (a b : IntKind) : Bool := match a,b with
 | .i8,.i8 | .i16,.i16 | .i32,.i32 | .i64,.i64 | .u8,.u8 | .u16,.u16 | .u32,.u32 | .u64,.u64 => true | _,_ => false
noncomputable def shaped (sh : List IntKind) : List V → Bool :=
 List.rec (motive := fun _ => List V → Bool) (fun m => match m with | [] => true | _ :: _ => false)
  (fun k _ ih m => match m with | [] => false | y :: m => (match y with | .int k' _ => (match beqK k k' with | true => ih m | false => false) | _ => false)) sh
noncomputable def keyShaped (ks : KSh) (v : V) : Bool := match ks with
 | .cells sh => (match v with | .agg l => shaped sh l | _ => false)
 | .int k => (match v with | .int k' _ => beqK k k' | _ => false)
 | .str => (match v with | .str _ => true | _ => false)
structure St where
 h : T Ob
 nx : Pos
 deriving Inhabited
structure Pl where
 blk : Nat
 st : Nat
 sz : Nat
 kd : Nat
abbrev Nm := Pos → Option Pl
inductive VR (ι : Nm) : V → Value → Prop where
 | u (v : Value) : VR ι .u v
 | bool (b : Bool) : VR ι (.bool b) (.bool b)
 | int (k : IntKind) (n : Int) (h : k.has n) : VR ι (.int k n) (.int k n)
 | str (l : List Nat) (s : ByteArray) (h : s.data.toList.map (·.toNat) = l) : VR ι (.str l) (.string s)
 | nilp : VR ι .nilp (.pointer none)
 | ptr (p : Pos) (o : Nat) (pl : Pl) (h : ι p = some pl) (hk : pl.kd = 0) : VR ι (.ptr p o) (.pointer (some ⟨pl.blk,pl.st + o,none⟩))
 | nils : VR ι .nils (.slice none 0 0)
 | slice (p : Pos) (o len : Nat) (cap : Option Nat) (esz : Nat) (pl : Pl) (a : Addr) (c : Nat) (h : ι p = some pl) (hk : pl.kd = 0) (hc : ∀ n,cap = some n → c = n) (hl : len ≤ c)
   (ha : c ≠ 0 → a = ⟨pl.blk,pl.st + o,none⟩) (hs : pl.st + o + c * esz ≤ pl.sz) : VR ι (.slice p o len cap esz) (.slice (some a) len c)
 | nilm : VR ι .nilm (.map none)
 | map (p : Pos) (pl : Pl) (h : ι p = some pl) (hk : pl.kd = 1) : VR ι (.map p) (.map (some pl.blk))
 | nilf : VR ι .nilf .nilFunc
 | fn (f : Nat) (x y : List V) (x' y' : Array Value) (hx : x.length = x'.size) (hy : y.length = y'.size)
   (h1 : ∀ (i : Nat) a b,x[i]? = some a → x'[i]? = some b → VR ι a b) (h2 : ∀ (i : Nat) a b,y[i]? = some a → y'[i]? = some b → VR ι a b) : VR ι (.fn f x y) (.func (.func f) x' y')
 | nili : VR ι .nili .nilIface
 | iface (t : Nat) (v : V) (v' : Value) (h : VR ι v v') : VR ι (.iface t v) (.iface t v')
 | agg (l : List V) (c : Array Value) (hl : l.length = c.size) (h : ∀ (i : Nat) a b,l[i]? = some a → c[i]? = some b → VR ι a b) : VR ι (.agg l) (.agg c)
 | tup (l : List V) (c : Array Value) (hl : l.length = c.size) (h : ∀ (i : Nat) a b,l[i]? = some a → c[i]? = some b → VR ι a b) : VR ι (.tup l) (.tuple c)
 | itr (p : Pos) (pl : Pl) (h : ι p = some pl) (hk : pl.kd = 2) : VR ι (.itr p) (.pointer (some ⟨pl.blk,0,none⟩))
def Ext (ι ι' : Nm) : Prop := ∀ p pl,ι p = some pl → ι' p = some pl
theorem Ext.refl (ι : Nm) : Ext ι ι := fun _ _ h => h
theorem Ext.trans {a b c : Nm} (h : Ext a b) (k : Ext b c) : Ext a c := fun p pl x => k p pl (h p pl x)
theorem VR.mono {ι ι' : Nm} (h : Ext ι ι') {x : V} {y : Value} (v : VR ι x y) : VR ι' x y := by
 induction v with
 | u v => exact .u v
 | bool b => exact .bool b
 | int k n hn => exact .int k n hn
 | str l s hs => exact .str l s hs
 | nilp => exact .nilp
 | ptr p o pl hp hk => exact .ptr p o pl (h _ _ hp) hk
 | nils => exact .nils
 | slice p o len cap esz pl a c hp hk hc hl ha hs => exact .slice p o len cap esz pl a c (h _ _ hp) hk hc hl ha hs
 | nilm => exact .nilm
 | map p pl hp hk => exact .map p pl (h _ _ hp) hk
 | nilf => exact .nilf
 | fn f x y x' y' hx hy h1 h2 ih1 ih2 => exact .fn f x y x' y' hx hy ih1 ih2
 | nili => exact .nili
 | iface t v v' hv ih => exact .iface t v v' ih
 | agg l c hl hh ih => exact .agg l c hl ih
 | tup l c hl hh ih => exact .tup l c hl ih
 | itr p pl hp hk => exact .itr p pl (h _ _ hp) hk
def VRs (ι : Nm) (l : List V) (c : List Value) : Prop := l.length = c.length ∧ ∀ (i : Nat) a b,l[i]? = some a → c[i]? = some b → VR ι a b
theorem VRs.mono {ι ι' : Nm} (h : Ext ι ι') {l : List V} {c : List Value} (v : VRs ι l c) : VRs ι' l c := ⟨v.1,fun i a b ha hb => (v.2 i a b ha hb).mono h⟩
theorem VRs.nil {ι : Nm} : VRs ι [] [] := ⟨rfl,fun i a b h => by simp at h⟩
theorem VRs.cons {ι : Nm} {x : V} {y : Value} {l : List V} {c : List Value} (h : VR ι x y) (hs : VRs ι l c) : VRs ι (x :: l) (y :: c) := by
 refine ⟨by simp [hs.1],fun i a b ha hb => ?_⟩
 cases i with
 | zero => simp at ha hb; subst ha; subst hb; exact h
 | succ i => simp at ha hb; exact hs.2 i a b ha hb
theorem VRs.head {ι : Nm} {x : V} {y : Value} {l : List V} {c : List Value} (h : VRs ι (x :: l) (y :: c)) : VR ι x y := h.2 0 x y rfl rfl
theorem VRs.tail {ι : Nm} {x : V} {y : Value} {l : List V} {c : List Value} (h : VRs ι (x :: l) (y :: c)) : VRs ι l c :=
 ⟨by have := h.1; simpa using this,fun i a b ha hb => h.2 (i + 1) a b (by simpa using ha) (by simpa using hb)⟩
theorem VRs.append {ι : Nm} {l l' : List V} {c c' : List Value} (h : VRs ι l c) (h' : VRs ι l' c') : VRs ι (l ++ l') (c ++ c') := by
 refine ⟨by simp [h.1,h'.1],fun i a b ha hb => ?_⟩
 by_cases hi : i < l.length
 ·rw [List.getElem?_append_left hi] at ha
  rw [List.getElem?_append_left (by rw [← h.1]; exact hi)] at hb
  exact h.2 i a b ha hb
 ·rw [List.getElem?_append_right (by omega)] at ha
  rw [List.getElem?_append_right (by rw [← h.1]; omega)] at hb
  exact h'.2 _ a b ha (by rw [h.1]; exact hb)
theorem VRs.take {ι : Nm} {l : List V} {c : List Value} (h : VRs ι l c) (n : Nat) : VRs ι (l.take n) (c.take n) := by
 refine ⟨by simp [h.1],fun i a b ha hb => ?_⟩
 rw [List.getElem?_take] at ha hb
 split at ha
 ·rename_i hi; rw [if_pos hi] at hb; exact h.2 i a b ha hb
 ·cases ha
theorem VRs.drop {ι : Nm} {l : List V} {c : List Value} (h : VRs ι l c) (n : Nat) : VRs ι (l.drop n) (c.drop n) := by
 refine ⟨by simp [h.1],fun i a b ha hb => ?_⟩
 rw [List.getElem?_drop] at ha hb
 exact h.2 _ a b ha hb
theorem VR.of_agg {ι : Nm} {l : List V} {y : Value} (h : VR ι (.agg l) y) : ∃ c,y = .agg c ∧ VRs ι l c.toList := by
 cases h with
 | agg l c hl h => exact ⟨c,rfl,by simpa using hl,fun i a b ha hb => h i a b ha (by simpa using hb)⟩
theorem VR.mk_agg {ι : Nm} {l : List V} {c : Array Value} (h : VRs ι l c.toList) : VR ι (.agg l) (.agg c) :=
 .agg l c (by simpa using h.1) (fun i a b ha hb => h.2 i a b ha (by simpa using hb))
theorem VR.of_tup {ι : Nm} {l : List V} {y : Value} (h : VR ι (.tup l) y) : ∃ c,y = .tuple c ∧ VRs ι l c.toList := by
 cases h with
 | tup l c hl h => exact ⟨c,rfl,by simpa using hl,fun i a b ha hb => h i a b ha (by simpa using hb)⟩
theorem VR.mk_tup {ι : Nm} {l : List V} {c : Array Value} (h : VRs ι l c.toList) : VR ι (.tup l) (.tuple c) :=
 .tup l c (by simpa using h.1) (fun i a b ha hb => h.2 i a b ha (by simpa using hb))
def PlOk (w : World) (pl : Pl) : Prop :=
 (pl.kd = 0 → ∃ c e,w.heap[pl.blk]? = some (.cells c e) ∧ c.size = pl.sz) ∧
 (pl.kd = 1 → ∃ es ck,w.heap[pl.blk]? = some (.map es ck)) ∧
 (pl.kd = 2 → ∃ m s n st,w.heap[pl.blk]? = some (.mapIter m s n st)) ∧ (pl.kd = 3 → ∃ s n,w.heap[pl.blk]? = some (.stringIter s n)) ∧ pl.kd ≤ 3
def MER (ι : Nm) (x : ME) (y : MapEntry) : Prop := VR ι x.k y.key ∧ VR ι x.v y.val ∧ x.b = y.born
def ObR (ι : Nm) (w : World) (p : Pos) : Ob → Prop
 | .cells l _ _ _ => ∃ pl c e,ι p = some pl ∧ pl.kd = 0 ∧ w.heap[pl.blk]? = some (.cells c e) ∧ c.size = pl.sz ∧ pl.st + l.length ≤ c.size ∧ ∀ (i : Nat) x y,l[i]? = some x → c[pl.st + i]? = some y → VR ι x y
 | .map es ck ks => ∃ pl es',ι p = some pl ∧ pl.kd = 1 ∧ w.heap[pl.blk]? = some (.map es' ck) ∧ es.length = es'.size ∧ (∀ (i : Nat) x y,es[i]? = some x → es'[i]? = some y → MER ι x y) ∧
   (∀ (i : Nat) x,es[i]? = some x → keyShaped ks x.k = true) ∧ ∀ (i j : Nat) x y,es[i]? = some x → es[j]? = some y → x.k = y.k → i = j
 | .mit m since seen stepped => ∃ pl m',ι p = some pl ∧ pl.kd = 2 ∧ w.heap[pl.blk]? = some (.mapIter m' since seen.toArray stepped) ∧
   (match m with | none => m' = none | some q => ∃ pq,ι q = some pq ∧ pq.kd = 1 ∧ m' = some pq.blk)
 | .sit l n => ∃ pl s,ι p = some pl ∧ pl.kd = 3 ∧ w.heap[pl.blk]? = some (.stringIter s n) ∧ s.data.toList.map (·.toNat) = l
 | .dead => True
def Ob.wr : Ob → Bool
 | .cells _ _ fz ro => !fz && !ro
 | .map .. | .mit .. | .sit .. => true
 | .dead => false
def Ob.live : Ob → Bool | .dead => false | _ => true
def Ob.kin : Ob → List Pos | .cells _ kin _ _ => kin | _ => []
def Ob.len : Ob → Nat | .cells l _ _ _ => l.length | _ => 0
structure Rep (ι : Nm) (σ : St) (w : World) : Prop where
 ob : ∀ p o,T.get p σ.h = some o → ObR ι w p o
 pl : ∀ p pl,ι p = some pl → PlOk w pl
 dom : ∀ p pl,ι p = some pl → p.nat < σ.nx.nat
 hdom : ∀ p o,T.get p σ.h = some o → p.nat < σ.nx.nat
 sep2 : ∀ p o q o' a b,T.get p σ.h = some o → o.live = true → T.get q σ.h = some o' → o'.live = true → ι p = some a → ι q = some b → a.blk = b.blk → q ≠ p → q ∈ o.kin ∨ p ∈ o'.kin ∨ (o.wr = false ∧ o'.wr = false ∧ (a.st + o.len ≤ b.st ∨ b.st + o'.len ≤ a.st))
 kin : ∀ p o q o',T.get p σ.h = some o → q ∈ o.kin → T.get q σ.h = some o' → o'.wr = false
 kpres : ∀ p o q,T.get p σ.h = some o → q ∈ o.kin → ∃ o',T.get q σ.h = some o'
 fin : ∀ p o q o' a b,T.get p σ.h = some o → o.wr = true → q ∈ o.kin → T.get q σ.h = some o' → o'.live = true → ι p = some a → ι q = some b → a.blk = b.blk → b.st + o'.len ≤ a.st + o.len
theorem Ob.wr_live {o : Ob} (h : o.wr = true) : o.live = true := by cases o <;> first | rfl | cases h
theorem Rep.sep {ι : Nm} {σ : St} {w : World} (R : Rep ι σ w) : ∀ p o q o' a b,T.get p σ.h = some o → o.wr = true → T.get q σ.h = some o' → o'.live = true → ι p = some a → ι q = some b → a.blk = b.blk → q ≠ p → q ∈ o.kin := by
 intro p o q o' a b hp hw hq hl ha hb hab hqp
 rcases R.sep2 p o q o' a b hp (Ob.wr_live hw) hq hl ha hb hab hqp with h | h | h
 ·exact h
 ·have := R.kin q o' p o hq h hp
  rw [hw] at this; cases this
 ·rw [hw] at h; cases h.1
def Img (ι : Nm) (σ : St) (r : Nat) : Prop := ∃ p o pl,T.get p σ.h = some o ∧ o.wr = true ∧ ι p = some pl ∧ pl.blk = r
structure G (N : Nat) (ι : Nm) (σ : St) (w : World) (ι' : Nm) (σ' : St) (w' : World) : Prop where
 ext : Ext ι ι'
 old : ∀ p : Pos,p.nat < N → ι' p = ι p
 nx : σ.nx.nat ≤ σ'.nx.nat
 size : w.heap.size ≤ w'.heap.size
 os : w'.os = w.os
 tape : w'.tape = w.tape
 out : w'.output = w.output
 keep : ∀ r,r < w.heap.size → ¬ Img ι σ r → w'.heap[r]? = w.heap[r]?
 img : ∀ r,r < w.heap.size → Img ι' σ' r → Img ι σ r
 new : ∀ q pl,ι' q = some pl → ι q = none → pl.blk < w.heap.size → Img ι σ pl.blk
theorem G.refl (N : Nat) (ι : Nm) (σ : St) (w : World) : G N ι σ w ι σ w := ⟨.refl ι,fun _ _ => rfl,Nat.le_refl _,Nat.le_refl _,rfl,rfl,rfl,fun _ _ _ => rfl,fun _ _ h => h,fun q pl h1 h2 => by rw [h2] at h1; cases h1⟩
theorem G.trans {N N' : Nat} {ι ι1 ι2 : Nm} {σ σ1 σ2 : St} {w w1 w2 : World} (h : G N ι σ w ι1 σ1 w1) (hN : N ≤ N') (k : G N' ι1 σ1 w1 ι2 σ2 w2) : G N ι σ w ι2 σ2 w2 where
 ext := h.ext.trans k.ext
 old p hp := (k.old p (Nat.lt_of_lt_of_le hp hN)).trans (h.old p hp)
 nx := Nat.le_trans h.nx k.nx
 size := Nat.le_trans h.size k.size
 os := k.os.trans h.os
 tape := k.tape.trans h.tape
 out := k.out.trans h.out
 keep r hr hi := (k.keep r (Nat.lt_of_lt_of_le hr h.size) (fun x => hi (h.img r hr x))).trans (h.keep r hr hi)
 img r hr x := h.img r hr (k.img r (Nat.lt_of_lt_of_le hr h.size) x)
 new q pl h1 h2 h3 := by
  cases hq : ι1 q with
  | none => exact h.img _ h3 (k.new q pl h1 hq (Nat.lt_of_lt_of_le h3 h.size))
  | some p1 =>
   have := k.ext q p1 hq
   rw [h1] at this; cases this
   exact h.new q pl hq h2 h3
theorem G.less {N N' : Nat} {ι ι1 : Nm} {σ σ1 : St} {w w1 : World} (h : G N' ι σ w ι1 σ1 w1) (hN : N ≤ N') : G N ι σ w ι1 σ1 w1 :=
 { h with old := fun p hp => h.old p (Nat.lt_of_lt_of_le hp hN) }
theorem PlOk.lt {w : World} {pl : Pl} (h : PlOk w pl) : pl.blk < w.heap.size := by
 obtain ⟨h0,h1,h2,h4,h3⟩ := h
 have : pl.kd = 0 ∨ pl.kd = 1 ∨ pl.kd = 2 ∨ pl.kd = 3 := by omega
 rcases this with e | e | e | e
 ·obtain ⟨c,t,h,_⟩ := h0 e; exact (Array.getElem?_eq_some_iff.1 h).1
 ·obtain ⟨c,t,h⟩ := h1 e; exact (Array.getElem?_eq_some_iff.1 h).1
 ·obtain ⟨c,t,x,y,h⟩ := h2 e; exact (Array.getElem?_eq_some_iff.1 h).1
 ·obtain ⟨c,t,h⟩ := h4 e; exact (Array.getElem?_eq_some_iff.1 h).1
noncomputable def kill (ps : List Pos) (h : T Ob) : T Ob := List.rec (motive := fun _ => T Ob) h (fun p _ ih => T.set .dead p ih) ps
theorem get_kill (ps : List Pos) (h : T Ob) (q : Pos) : T.get q (kill ps h) = if q ∈ ps then some .dead else T.get q h := by
 induction ps with
 | nil => simp; rfl
 | cons p l ih =>
  show T.get q (T.set .dead p (kill l h)) = _
  rw [T.get_set,ih]
  by_cases e : q = p
  ·simp [e]
  ·simp [e]
section
variable {ι : Nm} {σ : St} {w : World}
theorem PlOk.heap {w w' : World} (h : ∀ r,r < w.heap.size → ∀ o,w.heap[r]? = some o → w'.heap[r]? = some o) {pl : Pl} (k : PlOk w pl) : PlOk w' pl := by
 have hl := k.lt
 obtain ⟨h0,h1,h2,h4,h3⟩ := k
 refine ⟨fun e => ?_,fun e => ?_,fun e => ?_,fun e => ?_,h3⟩
 ·obtain ⟨c,t,x,y⟩ := h0 e; exact ⟨c,t,h _ hl _ x,y⟩
 ·obtain ⟨c,t,x⟩ := h1 e; exact ⟨c,t,h _ hl _ x⟩
 ·obtain ⟨c,t,a,b,x⟩ := h2 e; exact ⟨c,t,a,b,h _ hl _ x⟩
 ·obtain ⟨c,t,x⟩ := h4 e; exact ⟨c,t,h _ hl _ x⟩
theorem ObR.keep {ι ι' : Nm} (hx : Ext ι ι') {w w' : World} {p : Pos} {o : Ob} (h : ObR ι w p o) (hk : ∀ pl,ι p = some pl → o.live = true → w'.heap[pl.blk]? = w.heap[pl.blk]?) : ObR ι' w' p o := by
 cases o with
 | cells l kin fz ro =>
  obtain ⟨pl,c,e,h1,h2,h3,h4,h5,h6⟩ := h
  exact ⟨pl,c,e,hx _ _ h1,h2,(hk pl h1 rfl).trans h3,h4,h5,fun i x y a b => (h6 i x y a b).mono hx⟩
 | map es ck ro =>
  obtain ⟨pl,es',h1,h2,h3,h4,h5,h6⟩ := h
  exact ⟨pl,es',hx _ _ h1,h2,(hk pl h1 rfl).trans h3,h4,(fun i x y a b => ⟨(h5 i x y a b).1.mono hx,(h5 i x y a b).2.1.mono hx,(h5 i x y a b).2.2⟩),h6⟩
 | mit m s n st =>
  obtain ⟨pl,m',h1,h2,h3,h4⟩ := h
  refine ⟨pl,m',hx _ _ h1,h2,(hk pl h1 rfl).trans h3,?_⟩
  cases m with
  | none => exact h4
  | some q => obtain ⟨pq,a,b,c⟩ := h4; exact ⟨pq,hx _ _ a,b,c⟩
 | sit l n =>
  obtain ⟨pl,s,h1,h2,h3,h4⟩ := h
  exact ⟨pl,s,hx _ _ h1,h2,(hk pl h1 rfl).trans h3,h4⟩
 | dead => trivial
theorem ObR.place {w : World} {p : Pos} {o : Ob} (h : ObR ι w p o) (hl : o.live = true) : ∃ pl,ι p = some pl := by
 cases o with
 | cells l kin fz ro => obtain ⟨pl,c,e,h1,_⟩ := h; exact ⟨pl,h1⟩
 | map es ck ro => obtain ⟨pl,es',h1,_⟩ := h; exact ⟨pl,h1⟩
 | mit m s n st => obtain ⟨pl,m',h1,_⟩ := h; exact ⟨pl,h1⟩
 | sit l n => obtain ⟨pl,s,h1,_⟩ := h; exact ⟨pl,h1⟩
 | dead => cases hl
theorem Rep.heap {w' : World} (R : Rep ι σ w) (h : w'.heap = w.heap) : Rep ι σ w' where
 ob p o hp := (R.ob p o hp).keep (.refl ι) (fun _ _ _ => by rw [h])
 pl p pl hp := (R.pl p pl hp).heap (fun r _ o k => by rw [h]; exact k)
 dom := R.dom
 hdom := R.hdom
 sep2 := R.sep2
 kin := R.kin
 kpres := R.kpres
 fin := R.fin
theorem G.drew (N : Nat) (ι : Nm) (σ : St) (w : World) : G N ι σ w ι σ w.drew := ⟨.refl ι,fun _ _ => rfl,Nat.le_refl _,Nat.le_refl _,rfl,rfl,rfl,fun _ _ _ => rfl,fun _ _ h => h,fun q pl h1 h2 => by rw [h2] at h1; cases h1⟩
theorem Rep.drew (R : Rep ι σ w) : Rep ι σ w.drew := R.heap rfl
theorem Rep.nx (R : Rep ι σ w) {n : Pos} (h : σ.nx.nat ≤ n.nat) : Rep ι { σ with nx := n } w where
 ob := R.ob
 pl := R.pl
 dom p pl hp := Nat.lt_of_lt_of_le (R.dom p pl hp) h
 hdom p o hp := Nat.lt_of_lt_of_le (R.hdom p o hp) h
 sep2 := R.sep2
 kin := R.kin
 kpres := R.kpres
 fin := R.fin
def nmSet (ι : Nm) (p : Pos) (pl : Pl) : Nm := fun q => if q = p then some pl else ι q
theorem nmSet_ext {p : Pos} {pl : Pl} (h : ι p = none) : Ext ι (nmSet ι p pl) := fun q x hq => by
 unfold nmSet
 split
 ·rename_i e; subst e; rw [h] at hq; cases hq
 ·exact hq
theorem nmSet_self (ι : Nm) (p : Pos) (pl : Pl) : nmSet ι p pl p = some pl := by simp [nmSet]
theorem Rep.push (R : Rep ι σ w) {p nx : Pos} (hp : ι p = none) (hh : T.get p σ.h = none) (h1 : σ.nx.nat ≤ nx.nat) (h2 : p.nat < nx.nat) {ob : Ob} {ro : Obj} {sz kd : Nat} (hk : ∀ q ∈ ob.kin,∃ o,T.get q σ.h = some o ∧ o.wr = false)
  (ho : ObR (nmSet ι p ⟨w.heap.size,0,sz,kd⟩) (w.alloc ro) p ob) (hpl : PlOk (w.alloc ro) ⟨w.heap.size,0,sz,kd⟩) {N : Nat} (hN : N ≤ p.nat) :
  Rep (nmSet ι p ⟨w.heap.size,0,sz,kd⟩) ⟨T.set ob p σ.h,nx⟩ (w.alloc ro) ∧ G N ι σ w (nmSet ι p ⟨w.heap.size,0,sz,kd⟩) ⟨T.set ob p σ.h,nx⟩ (w.alloc ro) := by
 have hx : Ext ι (nmSet ι p ⟨w.heap.size,0,sz,kd⟩) := nmSet_ext hp
 have hold : ∀ r,r < w.heap.size → (w.alloc ro).heap[r]? = w.heap[r]? := fun r hr => by rw [heap_alloc_if,if_neg (by omega)]
 have hne : ∀ q o,T.get q σ.h = some o → q ≠ p := fun q o hq e => by rw [e,hh] at hq; cases hq
 have hι : ∀ q,q ≠ p → nmSet ι p ⟨w.heap.size,0,sz,kd⟩ q = ι q := fun q hq => by simp [nmSet,hq]
 have hlt : ∀ q pl,ι q = some pl → pl.blk < w.heap.size := fun q pl hq => (R.pl q pl hq).lt
 constructor
 ·constructor
  ·intro q o hq
   rw [T.get_set] at hq
   split at hq
   ·rename_i e; subst e; cases hq; exact ho
   ·exact (R.ob q o hq).keep hx fun pl h3 _ => hold _ (hlt q pl h3)
  ·intro q pl hq
   by_cases e : q = p
   ·subst e; rw [nmSet_self] at hq; cases hq; exact hpl
   ·rw [hι q e] at hq
    exact (R.pl q pl hq).heap fun r hr o k => (hold r hr).trans k
  ·intro q pl hq
   by_cases e : q = p
   ·subst e; exact h2
   ·rw [hι q e] at hq; exact Nat.lt_of_lt_of_le (R.dom q pl hq) h1
  ·intro q o hq
   rw [T.get_set] at hq
   split at hq
   ·rename_i e; subst e; exact h2
   ·exact Nat.lt_of_lt_of_le (R.hdom q o hq) h1
  ·intro q o q' o' a b hq hw hq' hl ha hb hab hqq
   by_cases e : q = p
   ·subst e
    rw [nmSet_self] at ha; cases ha
    rw [hι q' hqq] at hb
    have := hlt q' b hb
    simp only at hab
    omega
   ·rw [hι q e] at ha
    by_cases e' : q' = p
    ·subst e'
     rw [nmSet_self] at hb; cases hb
     have := hlt q a ha
     simp only at hab
     omega
    ·rw [hι q' e'] at hb
     rw [T.get_set,if_neg e] at hq
     rw [T.get_set,if_neg e'] at hq'
     exact R.sep2 q o q' o' a b hq hw hq' hl ha hb hab hqq
  ·intro q o q' o' hq hk' hq'
   rw [T.get_set] at hq
   split at hq
   ·cases hq
    obtain ⟨o2,h3,h4⟩ := hk q' hk'
    rw [T.get_set,if_neg (hne q' o2 h3),h3] at hq'
    cases hq'; exact h4
   ·rw [T.get_set] at hq'
    split at hq'
    ·rename_i e1 e; subst e
     obtain ⟨o2,h3⟩ := R.kpres q o q' hq hk'
     rw [hh] at h3; cases h3
    ·exact R.kin q o q' o' hq hk' hq'
  ·intro q o q' hq hk'
   rw [T.get_set] at hq
   split at hq
   ·cases hq
    obtain ⟨o2,h3,h4⟩ := hk q' hk'
    exact ⟨o2,by rw [T.get_set,if_neg (hne q' o2 h3)]; exact h3⟩
   ·obtain ⟨o2,h3⟩ := R.kpres q o q' hq hk'
    exact ⟨o2,by rw [T.get_set,if_neg (hne q' o2 h3)]; exact h3⟩
  ·intro q o q' o' a b hq hw hk' hq' hl ha hb hab
   rw [T.get_set] at hq
   split at hq
   ·rename_i e; subst e
    cases hq
    obtain ⟨o2,h3,h4⟩ := hk q' hk'
    rw [nmSet_self] at ha; cases ha
    rw [hι q' (hne q' o2 h3)] at hb
    have := hlt q' b hb
    simp only at hab
    omega
   ·rename_i e
    rw [hι q e] at ha
    rw [T.get_set] at hq'
    split at hq'
    ·rename_i e'; subst e'
     rw [nmSet_self] at hb; cases hb
     have := hlt q a ha
     simp only at hab
     omega
    ·rename_i e'
     rw [hι q' e'] at hb
     exact R.fin q o q' o' a b hq hw hk' hq' hl ha hb hab
 ·refine ⟨hx,fun q hq => hι q (fun e => by subst e; omega),h1,by rw [World.size_alloc]; omega,rfl,rfl,rfl,fun r hr _ => hold r hr,?_,fun q pl h3 h4 h5 => by
   by_cases e : q = p
   ·subst e; rw [nmSet_self] at h3; cases h3; simp only at h5; omega
   ·rw [hι q e,h4] at h3; cases h3⟩
  rintro r hr ⟨q,o,pl,hq,hw,hpl',rfl⟩
  by_cases e : q = p
  ·subst e; rw [nmSet_self] at hpl'; cases hpl'; simp only at hr; omega
  ·rw [T.get_set,if_neg e] at hq
   rw [hι q e] at hpl'
   exact ⟨q,o,pl,hq,hw,hpl',rfl⟩
theorem Rep.store (R : Rep ι σ w) {p : Pos} {l : List V} {kin : List Pos} (hp : T.get p σ.h = some (.cells l kin false false)) {pl : Pl} (hpl : ι p = some pl) {l' : List V} {f : Array Value → Array Value}
  (hl : l'.length ≤ l.length) (hf : ∀ c : Array Value,c.size = pl.sz → (f c).size = c.size)
  (hv : ∀ (c : Array Value),c.size = pl.sz → pl.st + l.length ≤ c.size → (∀ (i : Nat) x y,l[i]? = some x → c[pl.st + i]? = some y → VR ι x y) → ∀ (i : Nat) x y,l'[i]? = some x → (f c)[pl.st + i]? = some y → VR ι x y) {N : Nat} :
  Rep ι ⟨T.set (.cells l' [] false false) p (kill kin σ.h),σ.nx⟩ (upd w pl.blk f) ∧ G N ι σ w ι ⟨T.set (.cells l' [] false false) p (kill kin σ.h),σ.nx⟩ (upd w pl.blk f) := by
 have hpk : p ∉ kin := fun hk => by have := R.kin p _ p _ hp hk hp; cases this
 have hnew : ∀ q o,T.get q (T.set (Ob.cells l' [] false false) p (kill kin σ.h)) = some o → q ≠ p → o.live = true → T.get q σ.h = some o ∧ q ∉ kin := fun q o hq hne hlive => by
  rw [T.get_set,if_neg hne,get_kill] at hq
  split at hq
  ·cases hq; cases hlive
  ·rename_i h; exact ⟨hq,h⟩
 have hbk : ∀ q o pq,T.get q σ.h = some o → o.live = true → q ≠ p → q ∉ kin → ι q = some pq → pl.blk ≠ pq.blk := fun q o pq hq hlive hne hk hpq e =>
  hk (R.sep p _ q o pl pq hp rfl hq hlive hpl hpq e hne)
 obtain ⟨pl0,c,e,g1,g2,g3,g4,g5,g6⟩ := R.ob p _ hp
 rw [hpl] at g1; cases g1
 have hu : (upd w pl.blk f).heap[pl.blk]? = some (.cells (f c) e) := heap_upd_same g3 f
 constructor
 ·constructor
  ·intro q o hq
   by_cases hqp : q = p
   ·subst hqp
    rw [T.get_set,if_pos rfl] at hq; cases hq
    exact ⟨pl,f c,e,hpl,g2,hu,(hf c g4).trans g4,by rw [hf c g4]; omega,hv c g4 g5 g6⟩
   ·cases hlive : o.live with
    | false => cases o <;> first | trivial | cases hlive
    | true =>
     obtain ⟨h1,h2⟩ := hnew q o hq hqp hlive
     refine (R.ob q o h1).keep (.refl ι) fun pq hpq _ => ?_
     exact heap_upd_other w (hbk q o pq h1 hlive hqp h2 hpq) f
  ·intro q pq hq
   obtain ⟨k0,k1,k2,k4,k3⟩ := R.pl q pq hq
   by_cases hb : pl.blk = pq.blk
   ·refine ⟨fun h0 => ?_,fun h0 => ?_,fun h0 => ?_,fun h0 => ?_,k3⟩
    ·obtain ⟨c',e',j1,j2⟩ := k0 h0
     rw [← hb,g3] at j1; cases j1
     rw [← hb]
     exact ⟨_,_,hu,(hf c g4).trans j2⟩
    ·obtain ⟨c',e',j1⟩ := k1 h0
     rw [← hb,g3] at j1; cases j1
    ·obtain ⟨c',e',x,y,j1⟩ := k2 h0
     rw [← hb,g3] at j1; cases j1
    ·obtain ⟨c',e',j1⟩ := k4 h0
     rw [← hb,g3] at j1; cases j1
   ·rw [PlOk,heap_upd_other w hb f]
    exact ⟨k0,k1,k2,k4,k3⟩
  ·exact R.dom
  ·intro q o hq
   rw [T.get_set] at hq
   split at hq
   ·rename_i h; subst h; exact R.hdom q _ hp
   ·rw [get_kill] at hq
    split at hq
    ·rename_i h
     obtain ⟨o2,h3⟩ := R.kpres p _ q hp h
     exact R.hdom q o2 h3
    ·exact R.hdom q o hq
  ·intro q o q' o' a b hq hw2 hq' hlv ha hb hab hqq
   by_cases e1 : q = p
   ·subst e1
    obtain ⟨j1,j2⟩ := hnew q' o' hq' hqq hlv
    rw [hpl] at ha; cases ha
    exact absurd hab (hbk q' o' b j1 hlv hqq j2 hb)
   ·obtain ⟨j1,j2⟩ := hnew q o hq e1 hw2
    by_cases e2 : q' = p
    ·subst e2
     rw [hpl] at hb; cases hb
     exact absurd hab.symm (hbk q o a j1 hw2 e1 j2 ha)
    ·obtain ⟨j3,j4⟩ := hnew q' o' hq' e2 hlv
     exact R.sep2 q o q' o' a b j1 hw2 j3 hlv ha hb hab hqq
  ·intro q o q' o' hq hk' hq'
   by_cases e1 : q = p
   ·subst e1
    rw [T.get_set,if_pos rfl] at hq; cases hq; cases hk'
   ·rw [T.get_set,if_neg e1,get_kill] at hq
    split at hq
    ·cases hq; cases hk'
    ·by_cases e2 : q' = p
     ·subst e2
      have := R.kin q o q' _ hq hk' hp
      cases this
     ·rw [T.get_set,if_neg e2,get_kill] at hq'
      split at hq'
      ·cases hq'; rfl
      ·exact R.kin q o q' o' hq hk' hq'
  ·intro q o q' hq hk'
   by_cases e1 : q = p
   ·subst e1
    rw [T.get_set,if_pos rfl] at hq; cases hq; cases hk'
   ·rw [T.get_set,if_neg e1,get_kill] at hq
    split at hq
    ·cases hq; cases hk'
    ·rw [T.get_set,get_kill]
     split
     ·exact ⟨_,rfl⟩
     ·split
      ·exact ⟨_,rfl⟩
      ·exact R.kpres q o q' hq hk'
  ·intro q o q' o' a b hq hw hk' hq' hlv ha hb hab
   have hw2 : o.live = true := Ob.wr_live hw
   by_cases e1 : q = p
   ·subst e1
    rw [T.get_set,if_pos rfl] at hq; cases hq; cases hk'
   ·obtain ⟨j1,j2⟩ := hnew q o hq e1 hw2
    by_cases e2 : q' = p
    ·subst e2
     have := R.kin q o q' _ j1 hk' hp
     cases this
    ·obtain ⟨j3,j4⟩ := hnew q' o' hq' e2 hlv
     exact R.fin q o q' o' a b j1 hw hk' j3 hlv ha hb hab
 ·refine ⟨.refl ι,fun _ _ => rfl,Nat.le_refl _,by rw [size_upd]; exact Nat.le_refl _,rfl,rfl,rfl,fun r hr hi => ?_,?_,fun q pl h1 h2 => by rw [h2] at h1; cases h1⟩
  ·refine heap_upd_other w (fun h => hi ⟨p,_,pl,hp,rfl,hpl,h⟩) f
  ·rintro r hr ⟨q,o,pq,hq,hw,hpq,rfl⟩
   by_cases e1 : q = p
   ·subst e1
    rw [hpl] at hpq; cases hpq
    exact ⟨q,_,pl,hp,rfl,hpl,rfl⟩
   ·obtain ⟨j1,j2⟩ := hnew q o hq e1 (Ob.wr_live hw)
    exact ⟨q,o,pq,j1,hw,hpq,rfl⟩
theorem upd_id (w : World) (b : Nat) : upd w b id = w := by
 have e1 : w.heap.modify b (oupd id) = w.heap := by
  apply Array.ext
  ·simp
  ·intro k h1 h2
   simp only [Array.getElem_modify]
   split
   ·cases w.heap[k] <;> rfl
   ·rfl
 simp only [upd,e1]
theorem Rep.weaken (R : Rep ι σ w) {p : Pos} {o ob : Ob} (hp : T.get p σ.h = some o) (hw : ob.wr = false) (hl : ob.live = true → o.live = true) (hk : ob.kin = o.kin) (hn : ob.len ≤ o.len) (ho : ObR ι w p ob) :
  Rep ι ⟨T.set ob p σ.h,σ.nx⟩ w where
 ob q x hq := by
  rw [T.get_set] at hq
  split at hq
  ·rename_i e; subst e; cases hq; exact ho
  ·exact R.ob q x hq
 pl := R.pl
 dom := R.dom
 hdom q x hq := by
  rw [T.get_set] at hq
  split at hq
  ·rename_i e; subst e; exact R.hdom q o hp
  ·exact R.hdom q x hq
 sep2 q x q' x' a b hq hw' hq' hl' ha hb hab hqq := by
  rw [T.get_set] at hq
  split at hq
  ·rename_i e; subst e; cases hq
   rw [T.get_set,if_neg hqq] at hq'
   rw [hk]
   exact (R.sep2 q o q' x' a b hp (hl hw') hq' hl' ha hb hab hqq).imp id (Or.imp id (fun h => ⟨hw,h.2.1,by have := h.2.2; omega⟩))
  ·rw [T.get_set] at hq'
   split at hq'
   ·rename_i e; subst e; cases hq'
    rw [hk]
    exact (R.sep2 q x q' o a b hq hw' hp (hl hl') ha hb hab hqq).imp id (Or.imp id (fun h => ⟨h.1,hw,by have := h.2.2; omega⟩))
   ·exact R.sep2 q x q' x' a b hq hw' hq' hl' ha hb hab hqq
 kin q x q' x' hq hk' hq' := by
  rw [T.get_set] at hq'
  split at hq'
  ·cases hq'; exact hw
  ·rw [T.get_set] at hq
   split at hq
   ·rename_i e; subst e; cases hq
    rw [hk] at hk'
    exact R.kin q o q' x' hp hk' hq'
   ·exact R.kin q x q' x' hq hk' hq'
 kpres q x q' hq hk' := by
  rw [T.get_set]
  split
  ·exact ⟨_,rfl⟩
  ·rw [T.get_set] at hq
   split at hq
   ·rename_i e; subst e; cases hq
    rw [hk] at hk'
    exact R.kpres q o q' hp hk'
   ·exact R.kpres q x q' hq hk'
 fin q x q' x' a b hq hw' hk' hq' hl' ha hb hab := by
  rw [T.get_set] at hq
  split at hq
  ·cases hq; rw [hw] at hw'; cases hw'
  ·rw [T.get_set] at hq'
   split at hq'
   ·rename_i e; subst e; cases hq'
    have := R.fin q x q' o a b hq hw' hk' hp (hl hl') ha hb hab
    omega
   ·exact R.fin q x q' x' a b hq hw' hk' hq' hl' ha hb hab
theorem Rep.appendIn (R : Rep ι σ w) {p : Pos} {l : List V} {kin : List Pos} (hp : T.get p σ.h = some (.cells l kin false false)) {pl : Pl} (hpl : ι p = some pl) {o : Nat} (hol : o ≤ l.length) {vs : List V} {cs : List Value}
  (hvs : VRs ι vs cs) (hroom : pl.st + l.length + vs.length ≤ pl.sz) {p' : Pos} (hi : ι p' = none) (hh : T.get p' σ.h = none) {nx : Pos} (h1 : σ.nx.nat ≤ nx.nat) (h2 : p'.nat < nx.nat) {N : Nat} (hN : N ≤ p'.nat) :
  Rep (nmSet ι p' ⟨pl.blk,pl.st + o,pl.sz,0⟩) ⟨T.set (.cells (l.drop o ++ vs) (p :: kin) false false) p' (T.set (.cells l kin true false) p σ.h),nx⟩ (upd w pl.blk fun c => splice c (pl.st + l.length) cs.toArray) ∧
  G N ι σ w (nmSet ι p' ⟨pl.blk,pl.st + o,pl.sz,0⟩) ⟨T.set (.cells (l.drop o ++ vs) (p :: kin) false false) p' (T.set (.cells l kin true false) p σ.h),nx⟩ (upd w pl.blk fun c => splice c (pl.st + l.length) cs.toArray) := by
 have hx : Ext ι (nmSet ι p' ⟨pl.blk,pl.st + o,pl.sz,0⟩) := nmSet_ext hi
 have hι : ∀ q,q ≠ p' → nmSet ι p' ⟨pl.blk,pl.st + o,pl.sz,0⟩ q = ι q := fun q hq => by simp [nmSet,hq]
 have hne : ∀ q x,T.get q σ.h = some x → q ≠ p' := fun q x hq e => by rw [e,hh] at hq; cases hq
 have hpp : p ≠ p' := hne p _ hp
 obtain ⟨pl0,c,e,g1,g2,g3,g4,g5,g6⟩ := R.ob p _ hp
 rw [hpl] at g1; cases g1
 have hcs : cs.length = vs.length := hvs.1.symm
 have hsz : (splice c (pl.st + l.length) cs.toArray).size = c.size := splice_size _ _ _ (by simp; omega)
 have hu : (upd w pl.blk fun c => splice c (pl.st + l.length) cs.toArray).heap[pl.blk]? = some (.cells (splice c (pl.st + l.length) cs.toArray) e) := heap_upd_same g3 _
 have hlow : ∀ i,i < pl.st + l.length → (splice c (pl.st + l.length) cs.toArray)[i]? = c[i]? := fun i hi => by
  rw [splice_get _ _ _ (by simp; omega),if_neg (by omega)]
 have hsame : ∀ q x pq,T.get q σ.h = some x → x.live = true → q ≠ p → ι q = some pq → pl.blk = pq.blk → q ∈ kin ∧ pq.st + x.len ≤ pl.st + l.length := fun q x pq hq hlv hqp hpq hb => by
  have hk := R.sep p _ q x pl pq hp rfl hq hlv hpl hpq hb hqp
  exact ⟨hk,R.fin p _ q x pl pq hp rfl hk hq hlv hpl hpq hb⟩
 have hobj : ∀ q x,T.get q σ.h = some x → ∀ x',(x'.live = true → x.live = true) → (x' = x ∨ (∃ l2 k2 f r l3 k3 f3 r3,x' = .cells l2 k2 f r ∧ x = .cells l3 k3 f3 r3 ∧ l2 = l3)) → ObR (nmSet ι p' ⟨pl.blk,pl.st + o,pl.sz,0⟩) (upd w pl.blk fun c => splice c (pl.st + l.length) cs.toArray) q x' := by
  intro q x hq x' hlv hxx
  have h0 : ObR (nmSet ι p' ⟨pl.blk,pl.st + o,pl.sz,0⟩) (upd w pl.blk fun c => splice c (pl.st + l.length) cs.toArray) q x := by
   by_cases hb : ∃ pq,ι q = some pq ∧ pq.blk = pl.blk ∧ x.live = true
   ·obtain ⟨pq,hpq,hbb,hlive⟩ := hb
    have hend : pq.st + x.len ≤ pl.st + l.length := by
     by_cases hqp : q = p
     ·subst hqp
      rw [hpl] at hpq; cases hpq
      rw [hp] at hq; cases hq
      exact Nat.le_refl _
     ·exact (hsame q x pq hq hlive hqp hpq hbb.symm).2
    have hO := R.ob q x hq
    cases x with
    | cells l3 k3 f3 r3 =>
     obtain ⟨pl3,c3,e3,j1,j2,j3,j4,j5,j6⟩ := hO
     rw [hpq] at j1; cases j1
     rw [hbb,g3] at j3; cases j3
     refine ⟨pq,_,e,hx _ _ hpq,j2,by rw [hbb]; exact hu,hsz.trans j4,by rw [hsz]; exact j5,fun i x y hix hiy => ?_⟩
     have hil : i < l3.length := (List.getElem?_eq_some_iff.1 hix).1
     simp only [Ob.len] at hend
     rw [hlow _ (by omega)] at hiy
     exact (j6 i x y hix hiy).mono hx
    | map es ck ro =>
     obtain ⟨pl3,es3,j1,j2,j3,_⟩ := hO
     rw [hpq] at j1; cases j1
     rw [hbb,g3] at j3; cases j3
    | mit m s n st =>
     obtain ⟨pl3,es3,j1,j2,j3,_⟩ := hO
     rw [hpq] at j1; cases j1
     rw [hbb,g3] at j3; cases j3
    | sit m s =>
     obtain ⟨pl3,es3,j1,j2,j3,_⟩ := hO
     rw [hpq] at j1; cases j1
     rw [hbb,g3] at j3; cases j3
    | dead => cases hlive
   ·refine (R.ob q x hq).keep hx fun pq hpq hlive => ?_
    exact heap_upd_other w (fun e => hb ⟨pq,hpq,e.symm,hlive⟩) _
  rcases hxx with rfl | ⟨l2,k2,f,r,l3,k3,f3,r3,rfl,rfl,rfl⟩
  ·exact h0
  ·exact h0
 constructor
 ·constructor
  ·intro q x hq
   rw [T.get_set] at hq
   split at hq
   ·rename_i e1; subst e1; cases hq
    refine ⟨_,_,e,nmSet_self _ _ _,rfl,hu,hsz.trans g4,?_,?_⟩
    ·simp only [List.length_append,List.length_drop]; rw [hsz]; omega
    ·intro i x y hix hiy
     simp only at hiy
     by_cases hi2 : i < l.length - o
     ·rw [List.getElem?_append_left (by simpa using hi2),List.getElem?_drop] at hix
      rw [hlow _ (by omega),Nat.add_assoc] at hiy
      exact (g6 _ x y hix hiy).mono hx
     ·rw [List.getElem?_append_right (by simpa using hi2),List.length_drop] at hix
      have hiv : i - (l.length - o) < vs.length := (List.getElem?_eq_some_iff.1 hix).1
      rw [splice_get _ _ _ (by simp; omega),if_pos (by simp; omega)] at hiy
      have e2 : pl.st + o + i - (pl.st + l.length) = i - (l.length - o) := by omega
      rw [e2] at hiy
      exact (hvs.2 _ x y hix (by simpa using hiy)).mono hx
   ·rw [T.get_set] at hq
    split at hq
    ·rename_i e1; subst e1; cases hq
     exact hobj q _ hp _ (fun _ => rfl) (Or.inr ⟨_,_,_,_,_,_,_,_,rfl,rfl,rfl⟩)
    ·exact hobj q x hq x id (Or.inl rfl)
  ·intro q pq hq
   by_cases e1 : q = p'
   ·subst e1; rw [nmSet_self] at hq; cases hq
    exact ⟨fun _ => ⟨_,_,hu,hsz.trans g4⟩,(fun h => by cases h),(fun h => by cases h),(fun h => by cases h),Nat.zero_le _⟩
   ·rw [hι q e1] at hq
    obtain ⟨k0,k1,k2,k4,k3⟩ := R.pl q pq hq
    by_cases hb : pl.blk = pq.blk
    ·refine ⟨fun h0 => ?_,fun h0 => ?_,fun h0 => ?_,fun h0 => ?_,k3⟩
     ·obtain ⟨c',e',j1,j2⟩ := k0 h0
      rw [← hb,g3] at j1; cases j1
      rw [← hb]
      exact ⟨_,_,hu,hsz.trans j2⟩
     ·obtain ⟨c',e',j1⟩ := k1 h0
      rw [← hb,g3] at j1; cases j1
     ·obtain ⟨c',e',x,y,j1⟩ := k2 h0
      rw [← hb,g3] at j1; cases j1
     ·obtain ⟨c',e',j1⟩ := k4 h0
      rw [← hb,g3] at j1; cases j1
    ·rw [PlOk,heap_upd_other w hb _]
     exact ⟨k0,k1,k2,k4,k3⟩
  ·intro q pq hq
   by_cases e1 : q = p'
   ·subst e1; exact h2
   ·rw [hι q e1] at hq; exact Nat.lt_of_lt_of_le (R.dom q pq hq) h1
  ·intro q x hq
   rw [T.get_set] at hq
   split at hq
   ·rename_i e1; subst e1; exact h2
   ·rw [T.get_set] at hq
    split at hq
    ·rename_i e1; subst e1; exact Nat.lt_of_lt_of_le (R.hdom q _ hp) h1
    ·exact Nat.lt_of_lt_of_le (R.hdom q x hq) h1
  ·have hone : ∀ q' x' b,T.get q' (T.set (Ob.cells l kin true false) p σ.h) = some x' → x'.live = true → ι q' = some b → pl.blk = b.blk → q' ∈ p :: kin := by
    intro q' x' b hq' hlv hb hab
    rw [T.get_set] at hq'
    split at hq'
    ·rename_i e2; subst e2; simp
    ·rename_i e2
     have := (hsame q' x' b hq' hlv e2 hb hab).1
     simp [this]
   intro q x q' x' a b hq hw hq' hlv ha hb hab hqq
   by_cases e1 : q = p'
   ·subst e1
    rw [T.get_set,if_pos rfl] at hq; cases hq
    rw [nmSet_self] at ha; cases ha
    rw [hι q' hqq] at hb
    rw [T.get_set,if_neg hqq] at hq'
    exact Or.inl (hone q' x' b hq' hlv hb hab)
   ·rw [hι q e1] at ha
    rw [T.get_set,if_neg e1] at hq
    by_cases e3 : q' = p'
    ·subst e3
     rw [T.get_set,if_pos rfl] at hq'; cases hq'
     rw [nmSet_self] at hb; cases hb
     exact Or.inr (Or.inl (hone q x a hq hw ha hab.symm))
    ·rw [hι q' e3] at hb
     rw [T.get_set,if_neg e3] at hq'
     rw [T.get_set] at hq hq'
     have hold : ∀ z zo,(if z = p then some (Ob.cells l kin true false) else T.get z σ.h) = some zo → zo.live = true → ∃ zo',T.get z σ.h = some zo' ∧ zo'.live = true ∧ zo'.kin = zo.kin ∧ (zo'.wr = false → zo.wr = false) ∧ zo.len = zo'.len := by
      intro z zo hz hzl
      split at hz
      ·rename_i e4; subst e4; cases hz
       exact ⟨_,hp,rfl,rfl,fun _ => rfl,rfl⟩
      ·exact ⟨zo,hz,hzl,rfl,id,rfl⟩
     obtain ⟨x1,j1,j2,j3,y1,y2⟩ := hold q x hq hw
     obtain ⟨x2,j4,j5,j6,y3,y4⟩ := hold q' x' hq' hlv
     rw [← j3,← j6,y2,y4]
     exact (R.sep2 q x1 q' x2 a b j1 j2 j4 j5 ha hb hab hqq).imp id (Or.imp id (fun h => ⟨y1 h.1,y3 h.2.1,h.2.2⟩))
  ·intro q x q' x' hq hk' hq'
   rw [T.get_set] at hq
   split at hq
   ·rename_i e1; subst e1; cases hq
    simp only [Ob.kin,List.mem_cons] at hk'
    rcases hk' with rfl | hk'
    ·rw [T.get_set,if_neg hpp,T.get_set,if_pos rfl] at hq'; cases hq'; rfl
    ·obtain ⟨o2,h3⟩ := R.kpres p _ q' hp hk'
     rw [T.get_set,if_neg (hne q' o2 h3),T.get_set] at hq'
     split at hq'
     ·cases hq'; rfl
     ·exact R.kin p _ q' x' hp hk' hq'
   ·rw [T.get_set] at hq
    have hk2 : ∃ x2,T.get q σ.h = some x2 ∧ q' ∈ x2.kin := by
     split at hq
     ·rename_i e2; subst e2; cases hq; exact ⟨_,hp,hk'⟩
     ·exact ⟨x,hq,hk'⟩
    obtain ⟨x2,h3,h4⟩ := hk2
    obtain ⟨o2,h5⟩ := R.kpres q x2 q' h3 h4
    rw [T.get_set,if_neg (hne q' o2 h5),T.get_set] at hq'
    split at hq'
    ·cases hq'; rfl
    ·exact R.kin q x2 q' x' h3 h4 hq'
  ·intro q x q' hq hk'
   have hk2 : q' = p ∨ ∃ x2 q2,T.get q2 σ.h = some x2 ∧ q' ∈ x2.kin := by
    rw [T.get_set] at hq
    split at hq
    ·cases hq
     simp only [Ob.kin,List.mem_cons] at hk'
     rcases hk' with rfl | hk'
     ·exact Or.inl rfl
     ·exact Or.inr ⟨_,p,hp,hk'⟩
    ·rw [T.get_set] at hq
     split at hq
     ·cases hq; exact Or.inr ⟨_,p,hp,hk'⟩
     ·exact Or.inr ⟨x,q,hq,hk'⟩
   rw [T.get_set]
   split
   ·exact ⟨_,rfl⟩
   ·rw [T.get_set]
    split
    ·exact ⟨_,rfl⟩
    ·rename_i e1 e2
     rcases hk2 with h | ⟨x2,q2,h3,h4⟩
     ·exact absurd h e2
     ·exact R.kpres q2 x2 q' h3 h4
  ·intro q x q' x' a b hq hw hk' hq' hlv ha hb hab
   rw [T.get_set] at hq
   split at hq
   ·rename_i e1; subst e1; cases hq
    rw [nmSet_self] at ha; cases ha
    simp only [Ob.len,List.length_append,List.length_drop]
    simp only [Ob.kin,List.mem_cons] at hk'
    rcases hk' with rfl | hk'
    ·rw [T.get_set,if_neg hpp,T.get_set,if_pos rfl] at hq'; cases hq'
     rw [hι _ hpp,hpl] at hb; cases hb
     simp only [Ob.len]; omega
    ·obtain ⟨o2,h3⟩ := R.kpres p _ q' hp hk'
     have hq3 := hne q' o2 h3
     rw [hι _ hq3] at hb
     rw [T.get_set,if_neg hq3,T.get_set] at hq'
     split at hq'
     ·rename_i e2; subst e2; cases hq'
      rw [hpl] at hb; cases hb
      simp only [Ob.len]; omega
     ·rename_i e2
      have := (hsame q' x' b hq' hlv e2 hb hab).2
      show b.st + x'.len ≤ pl.st + o + (l.length - o + vs.length)
      omega
   ·rename_i e1
    rw [hι q e1] at ha
    rw [T.get_set] at hq
    split at hq
    ·cases hq; cases hw
    ·rename_i e2
     obtain ⟨o2,h3⟩ := R.kpres q x q' hq hk'
     have hq3 := hne q' o2 h3
     rw [hι _ hq3] at hb
     rw [T.get_set,if_neg hq3,T.get_set] at hq'
     split at hq'
     ·rename_i e4; subst e4; cases hq'
      exact (R.fin q x q' (.cells l kin false false) a b hq hw hk' hp rfl ha hb hab : _)
     ·exact R.fin q x q' x' a b hq hw hk' hq' hlv ha hb hab
 ·refine ⟨hx,fun q hq => hι q (fun e => by subst e; omega),h1,by rw [size_upd]; exact Nat.le_refl _,rfl,rfl,rfl,fun r hr hi2 => ?_,?_,fun q pq h3 h4 h5 => by
   by_cases e : q = p'
   ·subst e; rw [nmSet_self] at h3; cases h3; exact ⟨p,_,pl,hp,rfl,hpl,rfl⟩
   ·rw [hι q e,h4] at h3; cases h3⟩
  ·exact heap_upd_other w (fun h => hi2 ⟨p,_,pl,hp,rfl,hpl,h⟩) _
  ·rintro r hr ⟨q,x,pq,hq,hw,hpq,rfl⟩
   rw [T.get_set] at hq
   split at hq
   ·rename_i e1; subst e1
    rw [nmSet_self] at hpq; cases hpq
    exact ⟨p,_,pl,hp,rfl,hpl,rfl⟩
   ·rename_i e1
    rw [hι q e1] at hpq
    rw [T.get_set] at hq
    split at hq
    ·rename_i e2; subst e2
     exact ⟨q,_,pq,hp,rfl,hpq,rfl⟩
    ·exact ⟨q,x,pq,hq,hw,hpq,rfl⟩
theorem Rep.setOb (R : Rep ι σ w) {p : Pos} {o ob : Ob} (hp : T.get p σ.h = some o) (hw : o.wr = true) (hk : o.kin = []) (hl : ob.live = true) (hk' : ob.kin = []) {pl : Pl} (hpl : ι p = some pl) {ro : Obj}
  (ho : ObR ι { w with heap := w.heap.setIfInBounds pl.blk ro } p ob) (hkind : ∀ pq : Pl,pq.blk = pl.blk → PlOk w pq → PlOk { w with heap := w.heap.setIfInBounds pl.blk ro } pq) {N : Nat} :
  Rep ι ⟨T.set ob p σ.h,σ.nx⟩ { w with heap := w.heap.setIfInBounds pl.blk ro } ∧ G N ι σ w ι ⟨T.set ob p σ.h,σ.nx⟩ { w with heap := w.heap.setIfInBounds pl.blk ro } := by
 have hoth : ∀ r,r ≠ pl.blk → ({ w with heap := w.heap.setIfInBounds pl.blk ro } : World).heap[r]? = w.heap[r]? := fun r hr => by
  simp only [Array.getElem?_setIfInBounds]
  rw [if_neg (fun e => hr e.symm)]
 have hfar : ∀ q x pq,T.get q σ.h = some x → x.live = true → q ≠ p → ι q = some pq → pl.blk ≠ pq.blk := fun q x pq hq hlv hqp hpq e => by
  have := R.sep p o q x pl pq hp hw hq hlv hpl hpq e hqp
  rw [hk] at this; cases this
 constructor
 ·constructor
  ·intro q x hq
   rw [T.get_set] at hq
   split at hq
   ·rename_i e; subst e; cases hq; exact ho
   ·rename_i e
    refine (R.ob q x hq).keep (.refl ι) fun pq hpq hlv => hoth _ (hfar q x pq hq hlv e hpq).symm
  ·intro q pq hq
   by_cases e : pq.blk = pl.blk
   ·exact hkind pq e (R.pl q pq hq)
   ·have := R.pl q pq hq
    rw [PlOk,hoth _ e]
    exact this
  ·exact R.dom
  ·intro q x hq
   rw [T.get_set] at hq
   split at hq
   ·rename_i e; subst e; exact R.hdom q o hp
   ·exact R.hdom q x hq
  ·intro q x q' x' a b hq hw' hq' hlv ha hb hab hqq
   rw [T.get_set] at hq
   split at hq
   ·rename_i e; subst e; cases hq
    rw [hpl] at ha; cases ha
    rw [T.get_set,if_neg hqq] at hq'
    exact absurd hab (hfar q' x' b hq' hlv hqq hb)
   ·rename_i e
    rw [T.get_set] at hq'
    split at hq'
    ·rename_i e2; subst e2
     rw [hpl] at hb; cases hb
     exact absurd hab.symm (hfar q x a hq hw' e ha)
    ·exact R.sep2 q x q' x' a b hq hw' hq' hlv ha hb hab hqq
  ·intro q x q' x' hq hkk hq'
   rw [T.get_set] at hq
   split at hq
   ·cases hq; rw [hk'] at hkk; cases hkk
   ·rw [T.get_set] at hq'
    split at hq'
    ·rename_i e2; subst e2
     have := R.kin q x q' o hq hkk hp
     rw [hw] at this; cases this
    ·exact R.kin q x q' x' hq hkk hq'
  ·intro q x q' hq hkk
   rw [T.get_set]
   split
   ·exact ⟨_,rfl⟩
   ·rw [T.get_set] at hq
    split at hq
    ·cases hq; rw [hk'] at hkk; cases hkk
    ·exact R.kpres q x q' hq hkk
  ·intro q x q' x' a b hq hw' hkk hq' hlv ha hb hab
   rw [T.get_set] at hq
   split at hq
   ·cases hq; rw [hk'] at hkk; cases hkk
   ·rw [T.get_set] at hq'
    split at hq'
    ·rename_i e2; subst e2
     have := R.kin q x q' o hq hkk hp
     rw [hw] at this; cases this
    ·exact R.fin q x q' x' a b hq hw' hkk hq' hlv ha hb hab
 ·refine ⟨.refl ι,fun _ _ => rfl,Nat.le_refl _,by simp,rfl,rfl,rfl,fun r hr hi => ?_,?_,fun q pl h1 h2 => by rw [h2] at h1; cases h1⟩
  ·exact hoth r (fun e => hi ⟨p,o,pl,hp,hw,hpl,e.symm⟩)
  ·rintro r hr ⟨q,x,pq,hq,hw',hpq,rfl⟩
   by_cases e : q = p
   ·subst e
    exact ⟨q,o,pq,hp,hw,hpq,rfl⟩
   ·rw [T.get_set,if_neg e] at hq
    exact ⟨q,x,pq,hq,hw',hpq,rfl⟩
theorem Rep.name (R : Rep ι σ w) {p : Pos} (hp : ι p = none) (h2 : p.nat < σ.nx.nat) (c : Array Value) (e : TypeId) {N : Nat} (hN : N ≤ p.nat) :
  Rep (nmSet ι p ⟨w.heap.size,0,c.size,0⟩) σ (w.alloc (.cells c e)) ∧ G N ι σ w (nmSet ι p ⟨w.heap.size,0,c.size,0⟩) σ (w.alloc (.cells c e)) := by
 have hx : Ext ι (nmSet ι p ⟨w.heap.size,0,c.size,0⟩) := nmSet_ext hp
 have hold : ∀ r,r < w.heap.size → (w.alloc (.cells c e)).heap[r]? = w.heap[r]? := fun r hr => by rw [heap_alloc_if,if_neg (by omega)]
 have hι : ∀ q,q ≠ p → nmSet ι p ⟨w.heap.size,0,c.size,0⟩ q = ι q := fun q hq => by simp [nmSet,hq]
 have hlt : ∀ q pl,ι q = some pl → pl.blk < w.heap.size := fun q pl hq => (R.pl q pl hq).lt
 have hlive : ∀ q o,T.get q σ.h = some o → o.live = true → q ≠ p := fun q o hq hl e => by
  subst e
  obtain ⟨pl,h⟩ := (R.ob q o hq).place hl
  rw [hp] at h; cases h
 constructor
 ·constructor
  ·intro q o hq
   exact (R.ob q o hq).keep hx fun pl h3 _ => hold _ (hlt q pl h3)
  ·intro q pl hq
   by_cases e1 : q = p
   ·subst e1; rw [nmSet_self] at hq; cases hq
    refine ⟨fun _ => ⟨c,e,?_,rfl⟩,(fun h => by cases h),(fun h => by cases h),(fun h => by cases h),Nat.zero_le _⟩
    rw [heap_alloc_if,if_pos rfl]
   ·rw [hι q e1] at hq
    exact (R.pl q pl hq).heap fun r hr o k => (hold r hr).trans k
  ·intro q pl hq
   by_cases e1 : q = p
   ·subst e1; exact h2
   ·rw [hι q e1] at hq; exact R.dom q pl hq
  ·exact R.hdom
  ·intro q o q' o' a b hq hw hq' hl ha hb hab hqq
   rw [hι q (hlive q o hq hw)] at ha
   rw [hι q' (hlive q' o' hq' hl)] at hb
   exact R.sep2 q o q' o' a b hq hw hq' hl ha hb hab hqq
  ·exact R.kin
  ·exact R.kpres
  ·intro q o q' o' a b hq hw hk hq' hl ha hb hab
   rw [hι q (hlive q o hq (Ob.wr_live hw))] at ha
   rw [hι q' (hlive q' o' hq' hl)] at hb
   exact R.fin q o q' o' a b hq hw hk hq' hl ha hb hab
 ·refine ⟨hx,fun q hq => hι q (fun e => by subst e; omega),Nat.le_refl _,by rw [World.size_alloc]; omega,rfl,rfl,rfl,fun r hr _ => hold r hr,?_,fun q pl h3 h4 h5 => by
   by_cases e1 : q = p
   ·subst e1; rw [nmSet_self] at h3; cases h3; simp only at h5; omega
   ·rw [hι q e1,h4] at h3; cases h3⟩
  rintro r hr ⟨q,o,pl,hq,hw,hpl',rfl⟩
  rw [hι q (hlive q o hq (Ob.wr_live hw))] at hpl'
  exact ⟨q,o,pl,hq,hw,hpl',rfl⟩
end
end Go.Proofs.YtldidldbhngmnaaGreatDoor
namespace Go.Proofs.YtldidldbhngmnaaGreatDoor
open Go
def toU (M : Nat) (n : Int) : Nat := match n with | .ofNat m => Nat.mod m M | .negSucc m => Nat.sub (Nat.sub M 1) (Nat.mod m M)
def ws (M H : Nat) (n : Int) : Int := match n with
 | .ofNat m => (match Nat.blt (Nat.mod m M) H with | true => .ofNat (Nat.mod m M) | false => .negSucc (Nat.sub (Nat.sub M 1) (Nat.mod m M)))
 | .negSucc m => (match Nat.blt (Nat.mod m M) H with | true => .negSucc (Nat.mod m M) | false => .ofNat (Nat.sub (Nat.sub M 1) (Nat.mod m M)))
def modK : IntKind → Nat | .i8 | .u8 => 256 | .i16 | .u16 => 65536 | .i32 | .u32 => 4294967296 | .i64 | .u64 => 18446744073709551616
def wrapK (k : IntKind) (n : Int) : Int := match k with
 | .u8 => .ofNat (toU 256 n) | .u16 => .ofNat (toU 65536 n) | .u32 => .ofNat (toU 4294967296 n) | .u64 => .ofNat (toU 18446744073709551616 n)
 | .i8 => ws 256 128 n | .i16 => ws 65536 32768 n | .i32 => ws 4294967296 2147483648 n | .i64 => ws 18446744073709551616 9223372036854775808 n
theorem blt_eq (a b : Nat) : Nat.blt a b = decide (a < b) := by
 by_cases h : a < b
 ·have : Nat.blt a b = true := by rw [Nat.blt_eq]; exact h
  simp [h,this]
 ·have : ¬ Nat.blt a b = true := fun e => h (by rw [Nat.blt_eq] at e; exact e)
  simp [h,this]
theorem modK_bits (k : IntKind) : modK k = 2 ^ k.bits := by cases k <;> rfl
theorem toU_eq (k : IntKind) (n : Int) : ((toU (modK k) n : Nat) : Int) = n % (modK k : Int) := by
 cases n with
 | ofNat m => cases k <;> (simp only [toU,modK]; show ((m % _ : Nat) : Int) = _; simp)
 | negSucc m =>
  cases k <;>
  ·simp only [toU,modK]
   show ((_ - 1 - m % _ : Nat) : Int) = _
   rw [Int.negSucc_eq]
   omega
theorem p8 : (2 : Int) ^ 8 = 256 := rfl
theorem p16 : (2 : Int) ^ 16 = 65536 := rfl
theorem p32 : (2 : Int) ^ 32 = 4294967296 := rfl
theorem p64 : (2 : Int) ^ 64 = 18446744073709551616 := rfl
theorem p7 : (2 : Int) ^ (8 - 1) = 128 := rfl
theorem p15 : (2 : Int) ^ (16 - 1) = 32768 := rfl
theorem p31 : (2 : Int) ^ (32 - 1) = 2147483648 := rfl
theorem p63 : (2 : Int) ^ (64 - 1) = 9223372036854775808 := rfl
theorem ws_eq (M H : Nat) (hH : M = 2 * H) (h0 : 0 < H) (n : Int) : ws M H n = if n % (M : Int) ≥ (H : Int) then n % (M : Int) - (M : Int) else n % (M : Int) := by
 cases n with
 | ofNat m =>
  have e : (Int.ofNat m) % (M : Int) = ((m % M : Nat) : Int) := by simp
  rw [e]
  have hr : Nat.mod m M = m % M := rfl
  have hlt := Nat.mod_lt m (show 0 < M by omega)
  simp only [ws,blt_eq,hr]
  generalize m % M = r at *
  by_cases h : r < H
  ·simp [h]; omega
  ·simp [h]; rw [if_pos (by omega)]; show Int.negSucc (M - 1 - r) = _; rw [Int.negSucc_eq]; omega
 | negSucc m =>
  have e : (Int.negSucc m) % (M : Int) = (M : Int) - 1 - ((m % M : Nat) : Int) := by
   rw [Int.negSucc_emod m (by omega)]; simp
  rw [e]
  have hr : Nat.mod m M = m % M := rfl
  have hlt := Nat.mod_lt m (show 0 < M by omega)
  simp only [ws,blt_eq,hr]
  generalize m % M = r at *
  by_cases h : r < H
  ·simp [h]; rw [if_pos (by omega),Int.negSucc_eq]; omega
  ·simp [h]; rw [if_neg (by omega)]; show ((M - 1 - r : Nat) : Int) = _; omega
theorem wrapK_eq (k : IntKind) (n : Int) : wrapK k n = k.wrap n := by
 have h := toU_eq k n
 cases k <;> simp only [modK] at h <;> simp only [wrapK,IntKind.wrap,IntKind.bits,IntKind.signed,p8,p16,p32,p64,p7,p15,p31,p63]
 case u8 => simpa using h
 case u16 => simpa using h
 case u32 => simpa using h
 case u64 => simpa using h
 all_goals
  rw [ws_eq _ _ (by rfl) (by decide)]
  simp
theorem wrap_bounds (k : IntKind) (n : Int) : (k.min ≤ k.wrap n ∧ k.wrap n ≤ k.max) ∧ (k.min ≤ n → n ≤ k.max → k.wrap n = n) := by
 rw [← wrapK_eq]
 have h := toU_eq k n
 cases k <;> simp only [modK] at h <;> simp only [wrapK,IntKind.min,IntKind.max,IntKind.bits,IntKind.signed,if_true,Bool.false_eq_true,if_false,p8,p16,p32,p64,p7,p15,p31,p63,Int.ofNat_eq_natCast]
 case u8 => rw [h]; omega
 case u16 => rw [h]; omega
 case u32 => rw [h]; omega
 case u64 => rw [h]; omega
 all_goals
  clear h
  rw [ws_eq _ _ (by rfl) (by decide)]
  split <;> omega
theorem wrap_has (k : IntKind) (n : Int) : k.has (k.wrap n) := (wrap_bounds k n).1
theorem wrap_id {k : IntKind} {n : Int} (h : k.has n) : k.wrap n = n := (wrap_bounds k n).2 h.1 h.2
def ilt (n m : Int) : Bool := match n,m with
 | .ofNat a,.ofNat b => Nat.blt a b | .ofNat _,.negSucc _ => false | .negSucc _,.ofNat _ => true | .negSucc a,.negSucc b => Nat.blt b a
def ieq (n m : Int) : Bool := match n,m with
 | .ofNat a,.ofNat b => Nat.beq a b | .ofNat _,.negSucc _ => false | .negSucc _,.ofNat _ => false | .negSucc a,.negSucc b => Nat.beq a b
theorem ilt_eq (n m : Int) : ilt n m = decide (n < m) := by
 cases n <;> cases m <;> simp only [ilt,blt_eq] <;> (try rw [Int.negSucc_eq]) <;> (try rw [Int.negSucc_eq]) <;> simp <;> omega
theorem nbeq_eq (a b : Nat) : Nat.beq a b = decide (a = b) := by
 by_cases h : a = b
 ·subst h; simp
 ·have : ¬ Nat.beq a b = true := fun e => h (Nat.eq_of_beq_eq_true e)
  simp [h,this]
theorem ieq_eq (n m : Int) : ieq n m = decide (n = m) := by
 cases n <;> cases m <;> simp only [ieq,nbeq_eq] <;> (try rw [Int.negSucc_eq]) <;> (try rw [Int.negSucc_eq]) <;> simp <;> omega
theorem beqK_eq {a b : IntKind} (h : beqK a b = true) : a = b := by cases a <;> cases b <;> first | rfl | cases h
def ibin (op : BinOp) (k : IntKind) (x y : Int) : Option V := match op with
 | .add => some (.int k (wrapK k (Int.add x y)))
 | .sub => some (.int k (wrapK k (Int.sub x y)))
 | .mul => some (.int k (wrapK k (Int.mul x y)))
 | .quo => (match ieq y (.ofNat 0) with | true => none | false => some (.int k (wrapK k (Int.tdiv x y))))
 | .rem => (match ieq y (.ofNat 0) with | true => none | false => some (.int k (wrapK k (Int.tmod x y))))
 | .and => some (.int k (wrapK k (.ofNat (Nat.land (toU (modK k) x) (toU (modK k) y)))))
 | .or => some (.int k (wrapK k (.ofNat (Nat.lor (toU (modK k) x) (toU (modK k) y)))))
 | .xor => some (.int k (wrapK k (.ofNat (Nat.xor (toU (modK k) x) (toU (modK k) y)))))
 | .andNot => some (.int k (wrapK k (.ofNat (Nat.land (toU (modK k) x) (Nat.sub (Nat.sub (modK k) 1) (toU (modK k) y))))))
 | .eql => some (.bool (ieq x y))
 | .neq => some (.bool (!(ieq x y)))
 | .lss => some (.bool (ilt x y))
 | .leq => some (.bool (!(ilt y x)))
 | .gtr => some (.bool (ilt y x))
 | .geq => some (.bool (!(ilt x y)))
 | _ => none
theorem toU_bv (k : IntKind) (x : Int) : (BitVec.ofInt k.bits x).toNat = toU (modK k) x := by
 have h := toU_eq k x
 rw [BitVec.toNat_ofInt,← modK_bits]
 rw [← h]; simp
theorem tmod_has {k : IntKind} {x y : Int} (hx : k.has x) : k.has (x.tmod y) := by
 unfold IntKind.has at *
 have h3 : k.min ≤ 0 ∧ 0 ≤ k.max := by cases k <;> decide
 rcases Int.le_total 0 x with h | h
 ·obtain ⟨n,rfl⟩ := Int.eq_ofNat_of_zero_le h
  have h1 := Int.tmod_nonneg y (Int.natCast_nonneg n)
  have h2 : ((n : Int).tmod y) ≤ n := by
   rw [Int.tmod_eq_emod_of_nonneg (Int.natCast_nonneg n)]
   by_cases hy : y = 0
   ·subst hy; simp
   ·rcases Int.le_total 0 y with h4 | h4
    ·obtain ⟨m,rfl⟩ := Int.eq_ofNat_of_zero_le h4
     have := Nat.mod_le n m
     have : ((n : Int) % (m : Int)) = ((n % m : Nat) : Int) := by simp
     omega
    ·have e : (n : Int) % y = (n : Int) % (-y) := by rw [Int.emod_neg]
     obtain ⟨m,hm⟩ := Int.eq_ofNat_of_zero_le (show 0 ≤ -y by omega)
     rw [e,hm]
     have := Nat.mod_le n m
     have : ((n : Int) % (m : Int)) = ((n % m : Nat) : Int) := by simp
     omega
  omega
 ·obtain ⟨n,hn⟩ := Int.eq_ofNat_of_zero_le (show 0 ≤ -x by omega)
  have hx' : x = -(n : Int) := by omega
  subst hx'
  rw [Int.neg_tmod]
  have h1 := Int.tmod_nonneg y (Int.natCast_nonneg n)
  have h2 : ((n : Int).tmod y) ≤ n := by
   rw [Int.tmod_eq_emod_of_nonneg (Int.natCast_nonneg n)]
   by_cases hy : y = 0
   ·subst hy; simp
   ·rcases Int.le_total 0 y with h4 | h4
    ·obtain ⟨m,rfl⟩ := Int.eq_ofNat_of_zero_le h4
     have := Nat.mod_le n m
     have : ((n : Int) % (m : Int)) = ((n % m : Nat) : Int) := by simp
     omega
    ·have e : (n : Int) % y = (n : Int) % (-y) := by rw [Int.emod_neg]
     obtain ⟨m,hm⟩ := Int.eq_ofNat_of_zero_le (show 0 ≤ -y by omega)
     rw [e,hm]
     have := Nat.mod_le n m
     have : ((n : Int) % (m : Int)) = ((n % m : Nat) : Int) := by simp
     omega
  omega
theorem ibin_sound {P : Program} {ι : Nm} {op : BinOp} {k : IntKind} {x y : Int} {v : V} (hx : k.has x) (hy : k.has y) (h : ibin op k x y = some v) (w : World) :
  ∃ v',(∀ t,(Go.binOp op t (.int k x) (.int k y)).run P w = .ok v' w) ∧ VR ι v v' := by
 have hw : ∀ n,wrapK k n = k.wrap n := wrapK_eq k
 cases op <;> simp only [ibin] at h <;> first | cases h | skip
 case add => exact ⟨_,(fun t => by simp [Go.binOp,Op.intArith]; rfl),by rw [hw]; exact .int _ _ (wrap_has _ _)⟩
 case sub => exact ⟨_,(fun t => by simp [Go.binOp,Op.intArith]; rfl),by rw [hw]; exact .int _ _ (wrap_has _ _)⟩
 case mul => exact ⟨_,(fun t => by simp [Go.binOp,Op.intArith]; rfl),by rw [hw]; exact .int _ _ (wrap_has _ _)⟩
 case quo =>
  split at h
  ·cases h
  ·rename_i hz
   rw [ieq_eq] at hz
   have hz : ¬ y = 0 := by simpa using hz
   cases h
   exact ⟨_,(fun t => by simp [Go.binOp,Op.intDiv,hz]; rfl),by rw [hw]; exact .int _ _ (wrap_has _ _)⟩
 case rem =>
  split at h
  ·cases h
  ·rename_i hz
   rw [ieq_eq] at hz
   have hz : ¬ y = 0 := by simpa using hz
   cases h
   exact ⟨_,(fun t => by simp [Go.binOp,Op.intDiv,hz]; rfl),by rw [hw,wrap_id (tmod_has hx)]; exact .int _ _ (tmod_has hx)⟩
 case and =>
  exact ⟨_,(fun t => by simp [Go.binOp,Op.intBits]; rfl),by rw [hw,← toU_bv,← toU_bv]; exact .int _ _ (wrap_has _ _)⟩
 case or =>
  exact ⟨_,(fun t => by simp [Go.binOp,Op.intBits]; rfl),by rw [hw,← toU_bv,← toU_bv]; exact .int _ _ (wrap_has _ _)⟩
 case xor =>
  exact ⟨_,(fun t => by simp [Go.binOp,Op.intBits]; rfl),by rw [hw,← toU_bv,← toU_bv]; exact .int _ _ (wrap_has _ _)⟩
 case andNot =>
  exact ⟨_,(fun t => by simp [Go.binOp,Op.intBits]; rfl),by rw [hw,← toU_bv,← toU_bv,modK_bits]; exact .int _ _ (wrap_has _ _)⟩
 case eql => exact ⟨_,(fun t => by simp [Go.binOp,Op.intCmp]; rfl),by rw [ieq_eq]; exact .bool _⟩
 case neq => exact ⟨_,(fun t => by simp [Go.binOp,Op.intCmp]; rfl),by rw [ieq_eq]; exact .bool _⟩
 case lss => exact ⟨_,(fun t => by simp [Go.binOp,Op.intCmp]; rfl),by rw [ilt_eq]; exact .bool _⟩
 case leq =>
  have e : (!(ilt y x)) = decide (x ≤ y) := by
   rw [ilt_eq]
   by_cases h : y < x
   ·have : ¬ x ≤ y := by omega
    simp [h,this]
   ·have : x ≤ y := by omega
    simp [h,this]
  rw [e]
  exact ⟨_,(fun t => by simp [Go.binOp,Op.intCmp]),.bool _⟩
 case gtr => exact ⟨_,(fun t => by simp [Go.binOp,Op.intCmp]; rfl),by rw [ilt_eq]; exact .bool _⟩
 case geq =>
  have e : (!(ilt x y)) = decide (x ≥ y) := by
   rw [ilt_eq]
   by_cases h : x < y
   ·have : ¬ x ≥ y := by omega
    simp [h,this]
   ·have : x ≥ y := by omega
    simp [h,this]
  rw [e]
  exact ⟨_,(fun t => by simp [Go.binOp,Op.intCmp]),.bool _⟩
inductive Arg where
 | s (p : Pos) | v (x : V) | g (p : Pos) | f (n : Nat)
noncomputable def ev (A : T V) (a : Arg) : V := match a with
 | .s p => (match T.get p A with | some v => v | none => .u)
 | .v x => x
 | .g p => .ptr p 0
 | .f n => .fn n [] []
mutual
def cstB : V → Value → Bool
 | .bool a,.bool b => a == b
 | .int k n,.int k' m => k == k' && n == m && decide (k.min ≤ n) && decide (n ≤ k.max)
 | .str l,.string s => s.data.toList.map (·.toNat) == l
 | .nilp,.pointer none => true
 | .nils,.slice none 0 0 => true
 | .nilm,.map none => true
 | .nilf,.nilFunc => true
 | .nili,.nilIface => true
 | .agg l,.agg c => cstsB l c.toList
 | .tup l,.tuple c => cstsB l c.toList
 | _,_ => false
def cstsB : List V → List Value → Bool
 | [],[] => true
 | x :: l,y :: c => cstB x y && cstsB l c
 | _,_ => false
end
theorem csts_sound {ι : Nm} (hx : ∀ l : List V,∀ x ∈ l,∀ y,cstB x y = true → VR ι x y) : ∀ (l : List V) (c : List Value),cstsB l c = true → VRs ι l c
 | [],[],_ => .nil
 | [],_ :: _,h => by simp [cstsB] at h
 | _ :: _,[],h => by simp [cstsB] at h
 | x :: l,y :: c,h => by
  simp only [cstsB,Bool.and_eq_true] at h
  exact .cons (hx (x :: l) x (by simp) y h.1) (csts_sound hx l c h.2)
theorem cst_sound {ι : Nm} : ∀ (x : V) (y : Value),cstB x y = true → VR ι x y := by
 intro x
 induction x using V.rec (motive_2 := fun l => ∀ c,cstsB l c = true → VRs ι l c) with
 | u => intro y h; exact .u y
 | bool b => intro y h; cases y <;> simp [cstB] at h; subst h; exact .bool _
 | int k n =>
  intro y h
  cases y <;> simp [cstB] at h
  obtain ⟨⟨⟨rfl,rfl⟩,h1⟩,h2⟩ := h
  exact .int _ _ ⟨h1,h2⟩
 | str l => intro y h; cases y <;> simp [cstB] at h; exact .str _ _ h
 | nilp =>
  intro y h
  cases y with
  | pointer a => cases a with
   | none => exact .nilp
   | some a => simp [cstB] at h
  | _ => simp [cstB] at h
 | nils =>
  intro y h
  cases y with
  | slice a n m =>
   cases a with
   | none => cases n with
    | zero => cases m with
     | zero => exact .nils
     | succ m => simp [cstB] at h
    | succ n => simp [cstB] at h
   | some a => simp [cstB] at h
  | _ => simp [cstB] at h
 | nilm =>
  intro y h
  cases y with
  | map a => cases a with
   | none => exact .nilm
   | some a => simp [cstB] at h
  | _ => simp [cstB] at h
 | nilf => intro y h; cases y <;> simp [cstB] at h; exact .nilf
 | nili => intro y h; cases y <;> simp [cstB] at h; exact .nili
 | agg l ih => intro y h; cases y <;> simp [cstB] at h; exact .mk_agg (ih _ h)
 | tup l ih => intro y h; cases y <;> simp [cstB] at h; exact .mk_tup (ih _ h)
 | ptr p o => intro y h; simp [cstB] at h
 | slice p o l c e => intro y h; simp [cstB] at h
 | map p => intro y h; simp [cstB] at h
 | fn f a b => intro y h; simp [cstB] at h
 | iface t v => intro y h; simp [cstB] at h
 | itr p => intro y h; simp [cstB] at h
 | nil =>
  rename_i c h
  cases c with
  | nil => exact .nil
  | cons y c => simp [cstsB] at h
 | cons x l ih1 ih2 =>
  rename_i c h
  cases c with
  | nil => simp [cstsB] at h
  | cons y c =>
   simp only [cstsB,Bool.and_eq_true] at h
   exact .cons (ih1 y h.1) (ih2 c h.2)
end Go.Proofs.YtldidldbhngmnaaGreatDoor
namespace Go.Proofs.YtldidldbhngmnaaGreatDoor
open Go
inductive NK where | ptr | slice | map | func | iface (c : Bool)
 deriving DecidableEq
inductive QOp where
 | mv (a : Arg)
 | pick (c a b : Arg)
 | bld (z : List V) (ps : List (Nat × Nat × Arg))
 | fadr (a : Arg) (off : Nat)
 | fld (a : Arg) (off n : Nat) (ag : Bool)
 | iadr (a i : Arg) (esz : Nat)
 | iada (a i : Arg) (esz n : Nat)
 | idxa (a i : Arg) (esz n : Nat) (ag : Bool)
 | idxs (a i : Arg)
 | nck (a : Arg)
 | bin (op : BinOp) (a c : Arg)
 | shf (left : Bool) (a c : Arg)
 | cmpb (ne : Bool) (a c : Arg)
 | cmps (op : BinOp) (a c : Arg)
 | eqp (kd : NK) (ne : Bool) (a c : Arg)
 | eqa (ne : Bool) (sh : List IntKind) (a c : Arg)
 | not (a : Arg) | neg (a : Arg) | inv (a : Arg)
 | cvi (k : IntKind) (a : Arg)
 | cvid (a : Arg)
 | mki (t : Nat) (a : Arg)
 | mkf (f : Nat) (xs ys : List Arg)
 | tas (a : Arg) (t : Nat) (z : V) (ok : Bool)
 | tai (a : Arg) (ts : List Nat) (ok : Bool)
 | ext (a : Arg) (i : Nat)
 | lenv (a : Arg)
 | lens (a : Arg)
 | lenc (n : Nat)
 | slc (a : Arg) (lo hi : Option Arg) (esz : Nat)
 | slca (a : Arg) (lo hi : Option Arg) (esz n : Nat)
 | slcs (a : Arg) (lo hi : Option Arg)
 | mnx (mx : Bool) (a c : Arg)
 | ld1 (a : Arg)
 | ldn (a : Arg) (n : Nat)
 | lkp (m k : Arg) (ks : KSh) (z : V) (ok : Bool)
 | lenm (m : Arg)
 | wts (g : Arg)
def flat (v : V) : Option (List V) := match v with | .u => none | .tup _ => none | .agg l => some l | v => some [v]
noncomputable def lsplice (l : List V) (o : Nat) (vs : List V) : List V := lapp (ltake l o) (lapp vs (ldrop l (Nat.add o (llen vs))))
noncomputable def partA (l : List V) (off n : Nat) (ag : Bool) : Option V := match ag with
 | true => (match Nat.ble (Nat.add off n) (llen l) with | true => some (.agg (ltake (ldrop l off) n)) | false => none)
 | false => lget l off
def natOf (i : Int) : Option Nat := match i with | .ofNat n => some n | .negSucc _ => none
noncomputable def bldF (A : T V) (ps : List (Nat × Nat × Arg)) : List V → Option (List V) :=
 List.rec (motive := fun _ => List V → Option (List V)) (fun z => some z) (fun p _ ih z => match flat (ev A p.2.2) with
  | none => none
  | some l => (match Nat.beq (llen l) p.2.1 && Nat.ble (Nat.add p.1 p.2.1) (llen z) with | true => ih (lsplice z p.1 l) | false => none)) ps
noncomputable def inteq (l : List V) : List V → Bool :=
 List.rec (motive := fun _ => List V → Bool) (fun m => match m with | [] => true | _ :: _ => false)
  (fun x _ ih m => match m with
   | [] => false
   | y :: m => (match x with
    | .int _ a => (match y with | .int _ b => (match ieq a b with | true => ih m | false => false) | _ => false)
    | _ => false)) l
noncomputable def nateq (l : List Nat) : List Nat → Bool := List.rec (motive := fun _ => List Nat → Bool) (fun m => match m with | [] => true | _ :: _ => false)
  (fun x _ ih m => match m with | [] => false | y :: m => (match Nat.beq x y with | true => ih m | false => false)) l
theorem inteq_ii (k k' : IntKind) (a b : Int) (l m : List V) : inteq (.int k a :: l) (.int k' b :: m) = (match ieq a b with | true => inteq l m | false => false) := rfl
theorem shaped_nc (y : V) (m : List V) : shaped [] (y :: m) = false := rfl
theorem shaped_cn (x : IntKind) (l : List IntKind) : shaped (x :: l) [] = false := rfl
theorem shaped_i (k k' : IntKind) (b : Int) (l : List IntKind) (m : List V) : shaped (k :: l) (.int k' b :: m) = (match beqK k k' with | true => shaped l m | false => false) := rfl
theorem shaped_inv {k : IntKind} {sh : List IntKind} {m : List V} (h : shaped (k :: sh) m = true) : ∃ b m',m = .int k b :: m' ∧ shaped sh m' = true := by
 cases m with
 | nil => rw [shaped_cn] at h; cases h
 | cons y m =>
  cases y with
  | int k' b =>
   rw [shaped_i] at h
   split at h
   ·rename_i hk
    have := beqK_eq hk; subst this
    exact ⟨b,m,rfl,h⟩
   ·cases h
  | _ => exact absurd h (by show ¬ (false = true); simp)
theorem nateq_eq : ∀ (l m : List Nat),nateq l m = decide (l = m) := by
 intro l
 induction l with
 | nil => intro m; cases m <;> simp <;> rfl
 | cons x l ih =>
  intro m
  cases m with
  | nil => simp; rfl
  | cons y m =>
   have e : nateq (x :: l) (y :: m) = (match Nat.beq x y with | true => nateq l m | false => false) := rfl
   rw [e,ih,nbeq_eq]
   by_cases h : x = y <;> simp [h]
noncomputable def keyEq (a b : V) : Bool := match a with
 | .agg l => (match b with | .agg m => inteq l m | _ => false)
 | .int _ n => (match b with | .int _ m => ieq n m | _ => false)
 | .str l => (match b with | .str m => nateq l m | _ => false)
 | _ => false
theorem shaped_sound {ι : Nm} : ∀ (sh : List IntKind) (l : List V) (c : List Value),shaped sh l = true → VRs ι l c → c.length = sh.length ∧ ∀ (i : Nat) k x,sh[i]? = some k → c[i]? = some x → ∃ n,x = .int k n ∧ k.has n ∧ l[i]? = some (.int k n)
 | [],[],c,_,hc => by
  have : c = [] := List.length_eq_zero_iff.1 hc.1.symm
  subst this
  exact ⟨rfl,fun i k x h => by simp at h⟩
 | [],_ :: _,_,h,_ => by rw [shaped_nc] at h; cases h
 | k :: sh,l,c,h,hc => by
  obtain ⟨b,m,rfl,h'⟩ := shaped_inv h
  cases c with
  | nil => have := hc.1; simp at this
  | cons y c =>
   obtain ⟨h1,h2⟩ := shaped_sound sh m c h' hc.tail
   refine ⟨by simp [h1],fun i k' x hk hx => ?_⟩
   cases i with
   | zero =>
    simp at hk hx
    subst hk; subst hx
    have := hc.head
    cases this with
    | int k n hn => exact ⟨_,rfl,hn,rfl⟩
   | succ i =>
    simp at hk hx
    obtain ⟨n,e1,e2,e3⟩ := h2 i k' x hk hx
    exact ⟨n,e1,e2,by simpa using e3⟩
theorem keyShaped_sound {ι : Nm} {ks : KSh} {v : V} {v' : Value} (h : keyShaped ks v = true) (hv : VR ι v v') : Shaped ks v' := by
 cases ks with
 | cells sh =>
  cases v <;> (try (exfalso; revert h; simp [keyShaped]; done))
  rename_i l
  obtain ⟨c,rfl,hc⟩ := hv.of_agg
  obtain ⟨h1,h2⟩ := shaped_sound sh l c.toList h hc
  refine ⟨c,rfl,by simpa using h1,fun i k x hk hx => ?_⟩
  obtain ⟨n,e1,e2,_⟩ := h2 i k x hk (by simpa using hx)
  exact ⟨n,e1,e2⟩
 | int k =>
  cases v <;> (try (exfalso; revert h; simp [keyShaped]; done))
  have := beqK_eq h
  subst this
  cases hv
  rename_i hn
  exact ⟨_,rfl,hn⟩
 | str =>
  cases v <;> (try (exfalso; revert h; simp [keyShaped]; done))
  cases hv with
  | str l s hs => exact ⟨s,rfl⟩
theorem inteq_sound {ι : Nm} : ∀ (sh : List IntKind) (l m : List V) (c d : List Value),shaped sh l = true → shaped sh m = true → VRs ι l c → VRs ι m d → (inteq l m = true ↔ l = m) ∧ (l = m ↔ c = d)
 | [],[],m,c,d,_,hm,hc,hd => by
  cases m with
  | cons y m => rw [shaped_nc] at hm; cases hm
  | nil =>
   have e1 : c = [] := List.length_eq_zero_iff.1 hc.1.symm
   have e2 : d = [] := List.length_eq_zero_iff.1 hd.1.symm
   subst e1; subst e2
   exact ⟨⟨fun _ => rfl,fun _ => rfl⟩,⟨fun _ => rfl,fun _ => rfl⟩⟩
 | [],_ :: _,_,_,_,h,_,_,_ => by rw [shaped_nc] at h; cases h
 | k :: sh,l,m,c,d,hl,hm,hc,hd => by
  obtain ⟨a,l,rfl,hl'⟩ := shaped_inv hl
  obtain ⟨b,m,rfl,hm'⟩ := shaped_inv hm
  cases c with
  | nil => have := hc.1; simp at this
  | cons x c => cases d with
   | nil => have := hd.1; simp at this
   | cons y d =>
    obtain ⟨h1,h2⟩ := inteq_sound sh l m c d hl' hm' hc.tail hd.tail
    have hx := hc.head
    have hy := hd.head
    cases hx; cases hy
    rw [inteq_ii,ieq_eq]
    constructor
    ·by_cases hab : a = b
     ·subst hab; simp [h1]
     ·simp [hab]
    ·simp only [List.cons.injEq,V.int.injEq,true_and,Value.int.injEq,h2]
theorem keyEq_sound {ι : Nm} {ks : KSh} {a b : V} {a' b' : Value} (ha : keyShaped ks a = true) (hb : keyShaped ks b = true) (va : VR ι a a') (vb : VR ι b b') : (keyEq a b = true ↔ a = b) ∧ (a = b ↔ a' = b') := by
 cases ks with
 | cells sh =>
  cases a <;> (try (exfalso; revert ha; simp [keyShaped]; done))
  cases b <;> (try (exfalso; revert hb; simp [keyShaped]; done))
  obtain ⟨c,rfl,hc⟩ := va.of_agg
  obtain ⟨d,rfl,hd⟩ := vb.of_agg
  obtain ⟨h1,h2⟩ := inteq_sound sh _ _ c.toList d.toList ha hb hc hd
  refine ⟨by show inteq _ _ = true ↔ _; rw [h1]; simp,?_⟩
  simp only [V.agg.injEq,Value.agg.injEq,h2]
  exact ⟨fun h => Array.toList_inj.1 h,fun h => by rw [h]⟩
 | int k =>
  cases a <;> (try (exfalso; revert ha; simp [keyShaped]; done))
  cases b <;> (try (exfalso; revert hb; simp [keyShaped]; done))
  have e1 := beqK_eq ha; subst e1
  have e2 := beqK_eq hb; subst e2
  cases va; cases vb
  refine ⟨by show ieq _ _ = true ↔ _; rw [ieq_eq]; simp,by simp⟩
 | str =>
  cases a <;> (try (exfalso; revert ha; simp [keyShaped]; done))
  cases b <;> (try (exfalso; revert hb; simp [keyShaped]; done))
  cases va with
  | str l s hs => cases vb with
   | str m t ht =>
    refine ⟨by show nateq _ _ = true ↔ _; rw [nateq_eq]; simp,?_⟩
    simp only [V.str.injEq,Value.string.injEq]
    constructor
    ·intro e
     rw [← hs,← ht] at e
     have := (List.map_inj_right (f := fun x : UInt8 => x.toNat) (fun x y h => UInt8.toNat_inj.1 h)).1 e
     exact ByteArray.ext (Array.toList_inj.1 this)
    ·rintro rfl
     rw [← hs,← ht]
end Go.Proofs.YtldidldbhngmnaaGreatDoor
namespace Go.Proofs.YtldidldbhngmnaaGreatDoor
open Go
def mkLen (n : Nat) : Option V := match Nat.ble n 1152921504606846976 with | true => some (.int .i64 (.ofNat n)) | false => none
noncomputable def optN (A : T V) (a : Option Arg) (d : Nat) : Option Nat := match a with
 | none => some d
 | some a => (match ev A a with | .int _ i => natOf i | _ => none)
noncomputable def eqPtr (σ : St) (p : Pos) (o : Nat) (q : Pos) (o' : Nat) : Option Bool := match p.beq q with
 | true => some (Nat.beq o o')
 | false => (match T.get p σ.h with
  | some (.cells l [] _ _) => (match T.get q σ.h with | some (.cells m [] _ _) => (match Nat.blt o (llen l) && Nat.blt o' (llen m) with | true => some false | false => none) | _ => none)
  | _ => none)
noncomputable def eqpV (σ : St) (pt : List Nat) (kd : NK) (x y : V) : Option Bool := match kd with
 | .ptr => (match x with
  | .nilp => (match y with | .nilp => some true | .ptr _ _ => some false | _ => none)
  | .ptr p o => (match y with | .nilp => some false | .ptr q o' => eqPtr σ p o q o' | _ => none)
  | _ => none)
 | .slice => (match x with
  | .nils => (match y with | .nils => some true | .slice _ _ _ _ _ => some false | _ => none)
  | .slice _ _ _ _ _ => (match y with | .nils => some false | _ => none)
  | _ => none)
 | .map => (match x with
  | .nilm => (match y with | .nilm => some true | .map _ => some false | _ => none)
  | .map _ => (match y with | .nilm => some false | _ => none)
  | _ => none)
 | .func => (match x with
  | .nilf => (match y with | .nilf => some true | .fn _ _ _ => some false | _ => none)
  | .fn _ _ _ => (match y with | .nilf => some false | _ => none)
  | _ => none)
 | .iface c => (match x with
  | .nili => (match y with | .nili => (match c with | true => some true | false => none) | .iface _ _ => some false | _ => none)
  | .iface t a => (match y with
   | .nili => some false
   | .iface u b => (match Nat.beq t u with
    | false => some false
    | true => (match lall (fun z => !(Nat.beq z t)) pt with
     | true => none
     | false => (match a with
      | .ptr p o => (match b with | .ptr q o' => eqPtr σ p o q o' | _ => none)
      | _ => none)))
   | _ => none)
  | _ => none)
def xorB (a b : Bool) : Bool := match a with | true => !b | false => b
noncomputable def mfind (k : V) (es : List ME) : Option ME := List.rec (motive := fun _ => Option ME) none (fun e _ ih => match keyEq k e.k with | true => some e | false => ih) es
noncomputable def qev (pt : List Nat) (q : QOp) (A : T V) (σ : St) : Option V := match q with
 | .mv a => some (ev A a)
 | .pick c a b => (match ev A c with | .bool t => some (match t with | true => ev A a | false => ev A b) | _ => none)
 | .bld z ps => (match bldF A ps z with | some l => some (.agg l) | none => none)
 | .fadr a off => (match ev A a with | .ptr p o => some (.ptr p (Nat.add o off)) | _ => none)
 | .fld a off n ag => (match ev A a with | .agg l => partA l off n ag | _ => none)
 | .iadr a i esz => (match ev A a with
  | .slice p o len _ _ => (match ev A i with | .int _ i => (match natOf i with | some n => (match Nat.blt n len with | true => some (.ptr p (Nat.add o (Nat.mul n esz))) | false => none) | none => none) | _ => none)
  | _ => none)
 | .iada a i esz n => (match ev A a with
  | .ptr p o => (match ev A i with | .int _ i => (match natOf i with | some j => (match Nat.blt j n with | true => some (.ptr p (Nat.add o (Nat.mul j esz))) | false => none) | none => none) | _ => none)
  | _ => none)
 | .idxa a i esz n ag => (match ev A a with
  | .agg l => (match ev A i with | .int _ i => (match natOf i with | some j => (match Nat.blt j n with | true => partA l (Nat.mul j esz) esz ag | false => none) | none => none) | _ => none)
  | _ => none)
 | .idxs a i => (match ev A a with
  | .str l => (match ev A i with | .int _ i => (match natOf i with | some j => (match lget l j with | some b => some (.int .u8 (.ofNat b)) | none => none) | none => none) | _ => none)
  | _ => none)
 | .nck a => (match ev A a with
  | .ptr p o => some (.ptr p o)
  | .iface t v => some (.iface t v)
  | .fn f x y => some (.fn f x y)
  | _ => none)
 | .bin op a c => (match ev A a with | .int k x => (match ev A c with | .int k' y => (match beqK k k' with | true => ibin op k x y | false => none) | _ => none) | _ => none)
 | .shf left a c => (match ev A a with
  | .int k x => (match ev A c with
   | .int _ y => (match natOf y with
    | some n => (match Nat.ble n 64 with
     | true => some (.int k (wrapK k (match left with | true => Int.mul x (.ofNat (Nat.pow 2 (Nat.min n k.bits))) | false => Int.fdiv x (.ofNat (Nat.pow 2 (Nat.min n k.bits))))))
     | false => none)
    | none => none)
   | _ => none)
  | _ => none)
 | .cmpb ne a c => (match ev A a with | .bool x => (match ev A c with | .bool y => some (.bool (xorB ne (!(xorB x y)))) | _ => none) | _ => none)
 | .cmps op a c => (match ev A a with
  | .str x => (match ev A c with
   | .str y => (match op with
    | .add => (match Nat.ble (Nat.add (llen x) (llen y)) 1000000 with | true => some (.str (lapp x y)) | false => none)
    | .eql => some (.bool (nateq x y))
    | .neq => some (.bool (!(nateq x y)))
    | _ => none)
   | _ => none)
  | _ => none)
 | .eqp kd ne a c => (match eqpV σ pt kd (ev A a) (ev A c) with | some b => some (.bool (xorB ne b)) | none => none)
 | .eqa ne sh a c => (match ev A a with
  | .agg l => (match ev A c with
   | .agg m => (match shaped sh l with | true => (match shaped sh m with | true => some (.bool (xorB ne (inteq l m))) | false => none) | false => none)
   | _ => none)
  | _ => none)
 | .not a => (match ev A a with | .bool b => some (.bool (!b)) | _ => none)
 | .neg a => (match ev A a with | .int k n => some (.int k (wrapK k (Int.sub (.ofNat 0) n))) | _ => none)
 | .inv a => (match ev A a with
  | .int k n => (match k.signed with | false => some (.int k (wrapK k (.ofNat (Nat.xor (Nat.sub (modK k) 1) (toU (modK k) n))))) | true => none)
  | _ => none)
 | .cvi k a => (match ev A a with | .int _ n => some (.int k (wrapK k n)) | _ => none)
 | .cvid a => (match ev A a with | .str l => some (.str l) | _ => none)
 | .mki t a => some (.iface t (ev A a))
 | .mkf f xs ys => some (.fn f (lmap (ev A) xs) (lmap (ev A) ys))
 | .tas a t z ok => (match ev A a with
  | .iface u v => (match Nat.beq u t with
   | true => some (match ok with | true => .tup [v,.bool true] | false => v)
   | false => (match ok with | true => some (.tup [z,.bool false]) | false => none))
  | .nili => (match ok with | true => some (.tup [z,.bool false]) | false => none)
  | _ => none)
 | .tai a ts ok => (match ev A a with
  | .iface u v => (match lall (fun z => !(Nat.beq z (Nat.mul 2 u))) ts with
   | false => some (match ok with | true => .tup [.iface u v,.bool true] | false => .iface u v)
   | true => (match ok with
    | true => (match lall (fun z => !(Nat.beq z (Nat.add (Nat.mul 2 u) 1))) ts with | false => some (.tup [.nili,.bool false]) | true => none)
    | false => none))
  | .nili => (match ok with | true => some (.tup [.nili,.bool false]) | false => none)
  | _ => none)
 | .ext a i => (match ev A a with | .tup l => lget l i | _ => none)
 | .lenv a => (match ev A a with | .slice _ _ len _ _ => mkLen len | .nils => mkLen 0 | _ => none)
 | .lens a => (match ev A a with | .str l => mkLen (llen l) | _ => none)
 | .lenc n => mkLen n
 | .slc a lo hi esz => (match ev A a with
  | .slice p o len cap es => (match Nat.beq es esz with
   | true => (match optN A hi len with
    | some h => (match optN A lo 0 with
     | some l => (match Nat.ble l h && Nat.ble h len with
      | true => some (.slice p (Nat.add o (Nat.mul l esz)) (Nat.sub h l) (match cap with | some c => some (Nat.sub c l) | none => none) esz)
      | false => none)
     | none => none)
    | none => none)
   | false => none)
  | .nils => (match optN A hi 0 with
   | some h => (match optN A lo 0 with | some l => (match Nat.beq h 0 && Nat.beq l 0 with | true => some .nils | false => none) | none => none)
   | none => none)
  | _ => none)
 | .slca a lo hi esz n => (match ev A a with
  | .ptr p o => (match T.get p σ.h with
   | some (.cells ls _ _ _) => (match Nat.ble (Nat.add o (Nat.mul n esz)) (llen ls) with
    | true => (match optN A hi n with
     | some h => (match optN A lo 0 with
      | some l => (match Nat.ble l h && Nat.ble h n with
       | true => some (.slice p (Nat.add o (Nat.mul l esz)) (Nat.sub h l) (some (Nat.sub n l)) esz)
       | false => none)
      | none => none)
     | none => none)
    | false => none)
   | _ => none)
  | _ => none)
 | .slcs a lo hi => (match ev A a with
  | .str s => (match optN A hi (llen s) with
   | some h => (match optN A lo 0 with
    | some l => (match Nat.ble l h && Nat.ble h (llen s) with | true => some (.str (ltake (ldrop s l) (Nat.sub h l))) | false => none)
    | none => none)
   | none => none)
  | _ => none)
 | .mnx mx a c => (match ev A a with
  | .int k x => (match ev A c with
   | .int k' y => (match beqK k k' with
    | true => some (.int k (match mx with | true => (match ilt x y with | true => y | false => x) | false => (match ilt y x with | true => y | false => x)))
    | false => none)
   | _ => none)
  | _ => none)
 | .ld1 a => (match ev A a with | .ptr p o => (match T.get p σ.h with | some (.cells l _ _ _) => lget l o | _ => none) | _ => none)
 | .ldn a n => (match ev A a with | .ptr p o => (match T.get p σ.h with | some (.cells l _ _ _) => (match Nat.ble (Nat.add o n) (llen l) with | true => some (.agg (ltake (ldrop l o) n)) | false => none) | _ => none) | _ => none)
 | .lkp m k ks z ok => (match keyShaped ks (ev A k) with
  | true => (match ev A m with
   | .nilm => some (match ok with | true => .tup [z,.bool false] | false => z)
   | .map p => (match T.get p σ.h with
    | some (.map es _ ks') => (match decide (ks' = ks) with
     | true => some (match mfind (ev A k) es with
      | some e => (match ok with | true => .tup [e.v,.bool true] | false => e.v)
      | none => (match ok with | true => .tup [z,.bool false] | false => z))
     | false => none)
    | _ => none)
   | _ => none)
  | false => none)
 | .lenm m => (match ev A m with
  | .nilm => mkLen 0
  | .map p => (match T.get p σ.h with | some (.map es _ _) => mkLen (llen es) | _ => none)
  | _ => none)
 | .wts g => (match ev A g with | .ptr p o => (match T.get p σ.h with | some (.cells _ _ _ _) => some (.bool false) | _ => none) | _ => none)
end Go.Proofs.YtldidldbhngmnaaGreatDoor
namespace Go.Proofs.YtldidldbhngmnaaGreatDoor
open Go
structure KTok (P : Program) (t : Nat) (sh : List IntKind) : Prop where
 guard : P.eqGuardType P.depth t = false
 eq : ∀ (w : World) (a b : Value),Shaped (.cells sh) a → Shaped (.cells sh) b → ∃ r : Bool,(Op.equal t a b).run P w = .ok r w ∧ (r = true ↔ a = b)
structure MapK (P : Program) (t : Nat) (ks : KSh) : Prop where
 check : ∀ (w : World) (em : Bool) (v : Value),Shaped ks v → (Instr.checkKey em 10000 t v).run P w = .ok () w
 find : ∀ (w : World) (x : Value) (es : List MapEntry),Shaped ks x → (∀ e ∈ es,Shaped ks e.key) →
  ((Instr.findKey t x es).run P w = .ok none w ∧ ∀ e ∈ es,e.key ≠ x) ∨ ∃ j e,(Instr.findKey t x es).run P w = .ok (some (j,e.val)) w ∧ es[j]? = some e ∧ e.key = x
 stays : ∀ (w : World) (v : Value),Shaped ks v → (Instr.keyThatStays v v).run P w = .ok v w
structure PTok (P : Program) (t : Nat) : Prop where
 ok : ∃ te i j,P.underlying t = some (.pointer te) ∧ P.info? t = some i ∧ i.comparable = true ∧ P.info? te = some j ∧ j.size ≠ 0
abbrev GS := List Nat
structure Env (P : Program) where
 ng : GS
 kt : List (Nat × List IntKind)
 kgood : ∀ x ∈ kt,KTok P x.1 x.2
 mk_ : List (Nat × KSh)
 mgood : ∀ x ∈ mk_,MapK P x.1 x.2
 pt : List Nat
 pgood : ∀ t ∈ pt,PTok P t
section
variable (P : Program)
def aggB (t : Nat) : Option Bool := match P.underlying t with | some (.struct _) => some true | some (.array _ _) => some true | some _ => some false | none => none
def szB (t n : Nat) : Bool := match P.info? t with | some i => i.size == n | none => false
def zeroB (t : Nat) (l : List V) : Bool := match P.info? t with | some i => (match i.zero with | some v => cstsB l v.cells.toList | none => false) | none => false
def zeroV (t : Nat) (x : V) : Bool := match P.info? t with | some i => (match i.zero with | some v => cstB x v | none => false) | none => false
def okA (ng : GS) (a : Arg) (o : Operand) : Bool := match a,o with
 | .s p,.tmp t => p.nat == t + 1
 | .v x,.const c => cstB x c
 | .g p,.global g => p.nat == g + 1 && ng.contains g
 | .f n,.func f => n == f
 | _,_ => false
def okAs (ng : GS) : List Arg → List Operand → Bool
 | [],[] => true
 | a :: l,o :: m => okA ng a o && okAs ng l m
 | _,_ => false
def okOA (ng : GS) (a : Option Arg) (o : Option Operand) : Bool := match a,o with | none,none => true | some a,some o => okA ng a o | _,_ => false
def isC : Arg → Bool | .v _ => true | _ => false
def placeB (t : Nat) (i off sz : Nat) : Bool := match P.underlying t with
 | some (.struct fs) => (match fs[i]? with | some f => f.offset == off && szB P f.type sz | none => false)
 | some (.array _ e) => szB P e sz && off == i * sz
 | _ => false
def placesB (ng : GS) (t : Nat) : List (Nat × Nat × Arg) → List (Nat × Operand) → Bool
 | [],[] => true
 | p :: l,(i,o) :: m => placeB P t i p.1 p.2.1 && okA ng p.2.2 o && placesB ng t l m
 | _,_ => false
end
structure FR (n : Nat) (ds : List Deferred) (ι : Nm) (A : T V) (a : Act) : Prop where
 size : a.tmps.size = n
 defers : a.defers = ds
 at_ : ∀ (p : Pos) v t,T.get p A = some v → p.nat = t + 1 → VR ι v (a.tmps.getD t undef)
theorem FR.mono {n : Nat} {ds : List Deferred} {ι ι' : Nm} (h : Ext ι ι') {A : T V} {a : Act} (F : FR n ds ι A a) : FR n ds ι' A a := ⟨F.size,F.defers,fun p v t h1 h2 => (F.at_ p v t h1 h2).mono h⟩
theorem FR.self {n : Nat} {ds : List Deferred} {ι : Nm} {A : T V} {a : Act} (F : FR n ds ι A a) : FR n a.defers ι A a := ⟨F.size,rfl,F.at_⟩
def Gl (ng : GS) (ι : Nm) : Prop := ∀ (g : Nat) (p : Pos),g ∈ ng → p.nat = g + 1 → ∃ pl,ι p = some pl ∧ pl.kd = 0 ∧ pl.blk = g ∧ pl.st = 0
theorem Gl.mono {ng : GS} {ι ι' : Nm} (h : Ext ι ι') (g : Gl ng ι) : Gl ng ι' := fun n p h1 h2 => let ⟨pl,a,b⟩ := g n p h1 h2; ⟨pl,h _ _ a,b⟩
theorem ev_sound {ng : GS} {n : Nat} {ds : List Deferred} {ι : Nm} {A : T V} {a : Act} (F : FR n ds ι A a) (L : Gl ng ι) {x : Arg} {o : Operand} (h : okA ng x o = true) : VR ι (ev A x) (a.eval o) := by
 cases x with
 | s p =>
  cases o <;> simp [okA] at h
  rename_i t
  have e : ev A (.s p) = match T.get p A with | some v => v | none => .u := rfl
  rw [e]
  cases hg : T.get p A with
  | none => exact .u _
  | some v => exact F.at_ p v t hg h
 | v x =>
  cases o <;> simp [okA] at h
  exact cst_sound _ _ h
 | g p =>
  cases o <;> simp [okA] at h
  rename_i g
  obtain ⟨pl,h1,h2,h3,h4⟩ := L g p h.2 h.1
  have := VR.ptr p 0 pl h1 h2
  rw [h3,h4] at this
  exact this
 | f m =>
  cases o <;> simp [okA] at h
  subst h
  exact .fn _ [] [] #[] #[] rfl rfl (fun i a b h => by simp at h) (fun i a b h => by simp at h)
theorem evs_sound {ng : GS} {n : Nat} {ds : List Deferred} {ι : Nm} {A : T V} {a : Act} (F : FR n ds ι A a) (L : Gl ng ι) : ∀ (l : List Arg) (m : List Operand),okAs ng l m = true → VRs ι (l.map (ev A)) (m.map a.eval)
 | [],[],_ => .nil
 | [],_ :: _,h => by simp [okAs] at h
 | _ :: _,[],h => by simp [okAs] at h
 | x :: l,o :: m,h => by
  simp only [okAs,Bool.and_eq_true] at h
  exact .cons (ev_sound F L h.1) (evs_sound F L l m h.2)
section
variable {P : Program} {w : World}
theorem run_szB {t n : Nat} (h : szB P t n = true) : ∀ w,(Go.sizeOf t).run P w = .ok n w := by
 intro w
 unfold szB at h
 split at h
 ·rename_i i hi
  have : i.size = n := by simpa using h
  simp [Go.sizeOf,typeInfo,hi,this]
 ·cases h
theorem run_aggB {t : Nat} {b : Bool} (h : aggB P t = some b) : ∀ w,(isAgg t).run P w = .ok b w := by
 intro w
 unfold aggB at h
 cases hu : P.underlying t with
 | none => rw [hu] at h; cases h
 | some d =>
  rw [hu] at h
  cases d <;> (cases h; simp [isAgg,run_underlying hu])
theorem run_zero {t : Nat} {i : TypeInfo} {v : Value} (hi : P.info? t = some i) (hz : i.zero = some v) : ∀ w,(zeroValue t).run P w = .ok v w := by
 intro w
 simp [zeroValue,typeInfo,hi,hz]
theorem zeroB_inv {t : Nat} {l : List V} (h : zeroB P t l = true) : ∃ v,(∀ w,(zeroValue t).run P w = .ok v w) ∧ ∀ ι,VRs ι l v.cells.toList := by
 unfold zeroB at h
 split at h
 ·rename_i i hi
  split at h
  ·rename_i v hv
   exact ⟨v,run_zero hi hv,fun ι => csts_sound (fun l x hx y hy => cst_sound x y hy) _ _ h⟩
  ·cases h
 ·cases h
theorem zeroV_inv {t : Nat} {x : V} (h : zeroV P t x = true) : ∃ v,(∀ w,(zeroValue t).run P w = .ok v w) ∧ ∀ ι,VR ι x v := by
 unfold zeroV at h
 split at h
 ·rename_i i hi
  split at h
  ·rename_i v hv
   exact ⟨v,run_zero hi hv,fun ι => cst_sound x v h⟩
  ·cases h
 ·cases h
theorem flat_sound {ι : Nm} {v : V} {v' : Value} {l : List V} (h : flat v = some l) (hv : VR ι v v') : VRs ι l v'.cells.toList := by
 cases v <;> simp [flat] at h
 all_goals subst h
 case agg l => obtain ⟨c,rfl,hc⟩ := hv.of_agg; exact hc
 all_goals
  have e : v'.cells.toList = [v'] := by cases hv <;> rfl
  rw [e]
  exact .cons hv .nil
end
end Go.Proofs.YtldidldbhngmnaaGreatDoor
namespace Go.Proofs.YtldidldbhngmnaaGreatDoor
open Go
section
variable (P : Program)
def fieldB (t f off : Nat) : Option Nat := match P.underlying t with
 | some (.struct fs) => (match fs[f]? with | some fd => if fd.offset = off then some fd.type else none | none => none)
 | _ => none
def nzB (t : Nat) : Bool := match P.info? t with | some i => i.size != 0 | none => false
def isSliceB (t esz : Nat) : Bool := match P.underlying t with | some (.slice e) => szB P e esz | _ => false
def isArrB (t n esz : Nat) : Bool := match P.underlying t with | some (.array m e) => m == n && szB P e esz | _ => false
def isStrB (t : Nat) : Bool := match P.underlying t with | some .string => true | _ => false
def isMapB (t : Nat) (kt : List (Nat × KSh)) (ks : KSh) (z : V) : Bool := match P.underlying t with | some (.map k e) => kt.contains (k,ks) && zeroV P e z | _ => false
def eqOp (ne : Bool) (op : BinOp) : Bool := match op with | .eql => !ne | .neq => ne | _ => false
def notIfaceB (t : Nat) : Bool := match P.underlying t with | some (.interface _) => false | none => false | _ => true
def implB (t : Nat) (ts : List Nat) : Bool := match P.underlying t with
 | some (.interface want) => ts.all fun z => match P.info? (Nat.div z 2) with | some i => (match Nat.mod z 2 with | .zero => (lacking want i.methods).isEmpty | .succ _ => !(lacking want i.methods).isEmpty) | none => false
 | _ => false
def nilKindB (kd : NK) (t : Nat) (a c : Arg) : Bool := match P.underlying t,kd with
 | some (.pointer e),.ptr => nzB P e | some (.slice _),.slice => true | some (.map _ _),.map => true | some (.func _ _ _),.func => true
 | some (.interface _),.iface b => b == (isC a || isC c)
 | _,_ => false
def builtOk (t : Nat) : Bool := match P.underlying t with
 | some (.array _ e) => (P.info? e).isSome
 | some (.struct fs) => (fs.toList.mapM fun f => (P.info? f.type).map fun i => (f.offset,i.size)).isSome
 | _ => false
def okQ {P : Program} (E : Env P) (q : QOp) (op : Op) : Bool := match q with
 | .mv a => (match op with | .move x => okA E.ng a x | .assign x => okA E.ng a x | _ => false)
 | .pick c a b => (match op with | .pick c' a' b' => okA E.ng c c' && okA E.ng a a' && okA E.ng b b' | _ => false)
 | .bld z ps => (match op with | .build t parts => zeroB P t z && builtOk P t && placesB P E.ng t ps parts.toList | _ => false)
 | .fadr a off => (match op with | .fieldAddr t x f => okA E.ng a x && (match fieldB P t f off with | some ft => nzB P ft | none => false) | _ => false)
 | .fld a off n ag => (match op with | .field t x f => okA E.ng a x && (match fieldB P t f off with | some ft => szB P ft n && aggB P ft == some ag | none => false) | _ => false)
 | .iadr a i esz => (match op with | .indexAddr t x j => okA E.ng a x && okA E.ng i j && isSliceB P t esz | _ => false)
 | .iada a i esz n => (match op with | .indexAddr t x j => okA E.ng a x && okA E.ng i j && isArrB P t n esz | _ => false)
 | .idxa a i esz n ag => (match op with | .index t x j => okA E.ng a x && okA E.ng i j && isArrB P t n esz && (match P.underlying t with | some (.array _ e) => aggB P e == some ag | _ => false) | _ => false)
 | .idxs a i => (match op with | .index t x j => okA E.ng a x && okA E.ng i j && isStrB P t | _ => false)
 | .nck a => (match op with | .nilCheck x => okA E.ng a x | _ => false)
 | .bin b a c => (match op with | .binOp b' t x y _ => decide (b = b') && okA E.ng a x && okA E.ng c y | _ => false)
 | .shf left a c => (match op with | .binOp b' t x y _ => decide (b' = (if left then .shl else .shr)) && okA E.ng a x && okA E.ng c y | _ => false)
 | .cmpb ne a c => (match op with | .binOp b' t x y _ => eqOp ne b' && okA E.ng a x && okA E.ng c y && (match P.underlying t with | some .bool => true | _ => false) | _ => false)
 | .cmps b a c => (match op with | .binOp b' t x y _ => decide (b = b') && okA E.ng a x && okA E.ng c y | _ => false)
 | .eqp kd ne a c => (match op with | .binOp b' t x y _ => eqOp ne b' && okA E.ng a x && okA E.ng c y && nilKindB P kd t a c | _ => false)
 | .eqa ne sh a c => (match op with | .binOp b' t x y _ => eqOp ne b' && okA E.ng a x && okA E.ng c y && E.kt.contains (t,sh) | _ => false)
 | .not a => (match op with | .unOp u t x => decide (u = .not) && okA E.ng a x | _ => false)
 | .neg a => (match op with | .unOp u t x => decide (u = .neg) && okA E.ng a x | _ => false)
 | .inv a => (match op with | .unOp u t x => decide (u = .xor) && okA E.ng a x | _ => false)
 | .cvi k a => (match op with | .convert s d x => okA E.ng a x && (match P.underlying s with | some _ => true | none => false) && (match P.underlying d with | some (.int k') => decide (k = k') | _ => false) | _ => false)
 | .cvid a => (match op with | .convert s d x => okA E.ng a x && isStrB P s && isStrB P d | _ => false)
 | .mki t a => (match op with | .makeInterface t' x => t == t' && okA E.ng a x && notIfaceB P t | _ => false)
 | .mkf f xs ys => (match op with | .makeFunc (.func f') first cap => f == f' && okAs E.ng xs first.toList && okAs E.ng ys cap.toList | _ => false)
 | .tas a t z ok => (match op with | .typeAssert x _ t' ok' => t == t' && ok == ok' && okA E.ng a x && notIfaceB P t && zeroV P t z | _ => false)
 | .tai a ts ok => (match op with | .typeAssert x _ t' ok' => ok == ok' && okA E.ng a x && implB P t' ts && zeroV P t' .nili | _ => false)
 | .ext a i => (match op with | .extract x j => i == j && okA E.ng a x | _ => false)
 | .lenv a => (match op with | .call ⟨.builtin .len,args,ats⟩ => (match args.toList,ats.toList with | [x],[t] => okA E.ng a x && (match P.underlying t with | some (.slice _) => true | _ => false) | _,_ => false) | _ => false)
 | .lens a => (match op with | .call ⟨.builtin .len,args,ats⟩ => (match args.toList,ats.toList with | [x],[t] => okA E.ng a x && isStrB P t | _,_ => false) | _ => false)
 | .lenc n => (match op with | .call ⟨.builtin .len,args,ats⟩ => (match args.toList,ats.toList with | [x],[t] => (match P.underlying t with | some (.array m _) => m == n | _ => false) | _,_ => false) | _ => false)
 | .slc a lo hi esz => (match op with | .slice t x l h none => okA E.ng a x && okOA E.ng lo l && okOA E.ng hi h && isSliceB P t esz | _ => false)
 | .slca a lo hi esz n => (match op with | .slice t x l h none => okA E.ng a x && okOA E.ng lo l && okOA E.ng hi h && isArrB P t n esz | _ => false)
 | .slcs a lo hi => (match op with | .slice t x l h none => okA E.ng a x && okOA E.ng lo l && okOA E.ng hi h && isStrB P t | _ => false)
 | .mnx mx a c => (match op with | .call ⟨.builtin b,args,ats⟩ => decide (b = (if mx then .max else .min)) && (match args.toList with | [x,y] => okA E.ng a x && okA E.ng c y | _ => false) | _ => false)
 | .ld1 a => (match op with | .load t x => okA E.ng a x && aggB P t == some false | _ => false)
 | .ldn a n => (match op with | .load t x => okA E.ng a x && aggB P t == some true && szB P t n | _ => false)
 | .lkp m k ks z ok => (match op with | .lookup t x y ok' => ok == ok' && okA E.ng m x && okA E.ng k y && isMapB P t E.mk_ ks z | _ => false)
 | .lenm m => (match op with | .call ⟨.builtin .len,args,ats⟩ => (match args.toList,ats.toList with | [x],[t] => okA E.ng m x && (match P.underlying t with | some (.map _ _) => true | _ => false) | _,_ => false) | _ => false)
 | .wts a => (match op with | .waits g => okA E.ng a (.global g) | _ => false)
end
end Go.Proofs.YtldidldbhngmnaaGreatDoor
namespace Go.Proofs.YtldidldbhngmnaaGreatDoor
open Go
def QSound {P : Program} (E : Env P) (q : QOp) : Prop := ∀ {n : Nat} {ι : Nm} {A : T V} {a : Act} {σ : St} {w : World} {o : Oper} {v : V},FR n a.defers ι A a → Gl E.ng ι → Rep ι σ w →
 okQ E q o.op = true → qev E.pt q A σ = some v → ∃ v',(execOp a.eval o).run P w = .ok (.value v') w ∧ VR ι v v'
theorem exv {P : Program} {ρ : Operand → Value} {o : Oper} {s : Sem Value} {w : World} {v' : Value} (h : execOp ρ o = (do pure (.value (← s)))) (hs : s.run P w = .ok v' w) : (execOp ρ o).run P w = .ok (.value v') w := by
 rw [h]; simp only [Sem.run_bind,hs,Result.andThen_ok,Sem.run_pure]
section
variable {P : Program} {E : Env P}
theorem q_mv (a : Arg) : QSound E (.mv a) := by
 intro n ι A b σ w o v F L R hok h
 obtain ⟨d,op,ty,pos,af,g⟩ := o
 cases op <;> simp only [okQ,Bool.false_eq_true] at hok
 all_goals
  simp only [qev,Option.some.injEq] at h
  subst h
  exact ⟨_,by unfold execOp; rfl,ev_sound F L hok⟩
theorem q_pick (c x y : Arg) : QSound E (.pick c x y) := by
 intro n ι A b σ w o v F L R hok h
 obtain ⟨d,op,ty,pos,af,g⟩ := o
 cases op <;> simp only [okQ,Bool.false_eq_true,Bool.and_eq_true] at hok
 rename_i c' x' y'
 obtain ⟨⟨h1,h2⟩,h3⟩ := hok
 have v1 := ev_sound F L h1
 have v2 := ev_sound F L h2
 have v3 := ev_sound F L h3
 simp only [qev] at h
 split at h
 ·rename_i t ht
  rw [ht] at v1
  generalize hc : b.eval c' = z at v1
  cases v1
  cases h
  cases t
  ·refine ⟨_,?_,v3⟩
   unfold execOp
   simp [hc,asBool]
  ·refine ⟨_,?_,v2⟩
   unfold execOp
   simp [hc,asBool]
 ·cases h
theorem q_fadr (x : Arg) (off : Nat) : QSound E (.fadr x off) := by
 intro n ι A b σ w o v F L R hok h
 obtain ⟨d,op,ty,pos,af,g⟩ := o
 cases op <;> simp only [okQ,Bool.false_eq_true,Bool.and_eq_true] at hok
 rename_i t x' f
 obtain ⟨h1,h2⟩ := hok
 have v1 := ev_sound F L h1
 simp only [qev] at h
 split at h
 ·rename_i p o hx
  rw [hx] at v1
  generalize hc : b.eval x' = z at v1
  cases v1
  rename_i pl hk hp
  cases h
  split at h2
  ·rename_i ft hft
   unfold fieldB at hft
   split at hft
   ·rename_i fs hu
    split at hft
    ·rename_i fd hfd
     split at hft
     ·rename_i hof
      cases hft
      refine ⟨_,exv rfl (s := Instr.fieldAt t (b.eval x') f) ?_,.ptr p (o + off) pl hp hk⟩
      unfold nzB at h2
      split at h2
      ·rename_i i hi
       have hne : i.size ≠ 0 := by simpa using h2
       simp only [Instr.fieldAt,Sem.run_bind,run_underlying hu,Result.andThen_ok,hfd,hc,Instr.sureAddr,Sem.run_pure,fieldPlace,Go.sizeOf,typeInfo,program,Sem.run,hi,hne,if_false]
       subst hof
       rw [show (⟨pl.blk,pl.st + o,none⟩ : Addr).add fd.offset = ⟨pl.blk,pl.st + (o + fd.offset),none⟩ from by unfold Addr.add; split <;> simp_all; omega]
      ·cases h2
     ·cases hft
    ·cases hft
   ·cases hft
  ·cases h2
 ·cases h
theorem ev_as {ng : GS} {n : Nat} {ds : List Deferred} {ι : Nm} {A : T V} {a : Act} (F : FR n ds ι A a) (L : Gl ng ι) {x : Arg} {o : Operand} (h : okA ng x o = true) {v : V} (hv : ev A x = v) : VR ι v (a.eval o) := hv ▸ ev_sound F L h
theorem VR.int_inv {ι : Nm} {k : IntKind} {n : Int} {y : Value} (h : VR ι (.int k n) y) : y = .int k n ∧ k.has n := by cases h; exact ⟨rfl,by assumption⟩
theorem VR.bool_inv {ι : Nm} {b : Bool} {y : Value} (h : VR ι (.bool b) y) : y = .bool b := by cases h; rfl
theorem VR.ptr_inv {ι : Nm} {p : Pos} {o : Nat} {y : Value} (h : VR ι (.ptr p o) y) : ∃ pl,ι p = some pl ∧ pl.kd = 0 ∧ y = .pointer (some ⟨pl.blk,pl.st + o,none⟩) := by cases h; exact ⟨_,by assumption,by assumption,rfl⟩
theorem VR.str_inv {ι : Nm} {l : List Nat} {y : Value} (h : VR ι (.str l) y) : ∃ s : ByteArray,y = .string s ∧ s.data.toList.map (·.toNat) = l := by cases h; exact ⟨_,rfl,by assumption⟩
theorem VR.slice_inv {ι : Nm} {p : Pos} {o len esz : Nat} {cap : Option Nat} {y : Value} (h : VR ι (.slice p o len cap esz) y) :
  ∃ pl a c,ι p = some pl ∧ pl.kd = 0 ∧ (∀ n,cap = some n → c = n) ∧ len ≤ c ∧ (c ≠ 0 → a = ⟨pl.blk,pl.st + o,none⟩) ∧ pl.st + o + c * esz ≤ pl.sz ∧ y = .slice (some a) len c := by
 cases h; exact ⟨_,_,_,by assumption,by assumption,by assumption,by assumption,by assumption,by assumption,rfl⟩
theorem VR.map_inv {ι : Nm} {p : Pos} {y : Value} (h : VR ι (.map p) y) : ∃ pl,ι p = some pl ∧ pl.kd = 1 ∧ y = .map (some pl.blk) := by cases h; exact ⟨_,by assumption,by assumption,rfl⟩
theorem VR.iface_inv {ι : Nm} {t : Nat} {v : V} {y : Value} (h : VR ι (.iface t v) y) : ∃ v',VR ι v v' ∧ y = .iface t v' := by cases h; exact ⟨_,by assumption,rfl⟩
theorem natOf_inv {i : Int} {n : Nat} (h : natOf i = some n) : i = (n : Int) := by cases i <;> simp [natOf] at h; subst h; rfl
theorem ble_le {a b : Nat} (h : Nat.ble a b = true) : a ≤ b := Nat.le_of_ble_eq_true h
theorem addr_add (b o j : Nat) : (⟨b,o,none⟩ : Addr).add j = ⟨b,o + j,none⟩ := by
 unfold Addr.add; split
 ·rename_i h; rw [h]; rfl
 ·rfl
theorem part_sound {ι : Nm} {t n off : Nat} {ag : Bool} {l : List V} {c : Array Value} {v : V} (hc : VRs ι l c.toList) (hs : szB P t n = true) (ha : aggB P t = some ag) (h : partA l off n ag = some v) (w : World) :
  ∃ v',(part t c off).run P w = .ok v' w ∧ VR ι v v' := by
 cases ag with
 | true =>
  simp only [partA] at h
  split at h
  ·rename_i hle
   have hle := ble_le hle
   rw [llen_eq] at hle
   cases h
   refine ⟨.agg (c.extract off (off + n)),by simp [part,run_aggB ha,run_szB hs],.mk_agg ?_⟩
   rw [ltake_eq,ldrop_eq]
   have : (c.extract off (off + n)).toList = (c.toList.drop off).take n := by simp
   rw [this]
   exact (hc.drop off).take n
  ·cases h
 | false =>
  simp only [partA,lget_eq] at h
  have hlt : off < l.length := (List.getElem?_eq_some_iff.1 h).1
  have hlt' : off < c.size := by have := hc.1; simp at this; omega
  refine ⟨c[off],by simp [part,run_aggB ha,hlt'],hc.2 off v _ h (by simp [hlt'])⟩
theorem q_fld (x : Arg) (off m : Nat) (ag : Bool) : QSound E (.fld x off m ag) := by
 intro n ι A b σ w o v F L R hok h
 obtain ⟨d,op,ty,pos,af,g⟩ := o
 cases op <;> simp only [okQ,Bool.false_eq_true,Bool.and_eq_true] at hok
 rename_i t x' f
 obtain ⟨h1,h2⟩ := hok
 simp only [qev] at h
 split at h
 ·rename_i l hx
  obtain ⟨c,hc,hcs⟩ := (ev_as F L h1 hx).of_agg
  split at h2
  ·rename_i ft hft
   unfold fieldB at hft
   split at hft
   ·rename_i fs hu
    split at hft
    ·rename_i fd hfd
     split at hft
     ·rename_i hof
      cases hft
      simp only [Bool.and_eq_true,beq_iff_eq] at h2
      obtain ⟨v',hr,hv⟩ := part_sound hcs h2.1 h2.2 h w
      refine ⟨v',exv rfl (s := Instr.field t (b.eval x') f) ?_,hv⟩
      subst hof
      simp only [Instr.field,Sem.run_bind,run_underlying hu,Result.andThen_ok,hfd,hc,asAgg,Sem.run_pure,hr]
     ·cases hft
    ·cases hft
   ·cases hft
  ·cases h2
 ·cases h
theorem isSliceB_inv {t esz : Nat} (h : isSliceB P t esz = true) : ∃ e,P.underlying t = some (.slice e) ∧ szB P e esz = true := by
 unfold isSliceB at h; split at h
 ·exact ⟨_,by assumption,h⟩
 ·cases h
theorem isArrB_inv {t n esz : Nat} (h : isArrB P t n esz = true) : ∃ e,P.underlying t = some (.array n e) ∧ szB P e esz = true := by
 unfold isArrB at h; split at h
 ·simp only [Bool.and_eq_true,beq_iff_eq] at h
  obtain ⟨rfl,h⟩ := h
  exact ⟨_,by assumption,h⟩
 ·cases h
theorem isStrB_inv {t : Nat} (h : isStrB P t = true) : P.underlying t = some .string := by
 unfold isStrB at h; split at h
 ·assumption
 ·cases h
theorem q_iadr (x i : Arg) (esz : Nat) : QSound E (.iadr x i esz) := by
 intro n ι A b σ w o v F L R hok h
 obtain ⟨d,op,ty,pos,af,g⟩ := o
 cases op <;> simp only [okQ,Bool.false_eq_true,Bool.and_eq_true] at hok
 rename_i t x' j
 obtain ⟨⟨h1,h2⟩,h3⟩ := hok
 obtain ⟨e,hu,hs⟩ := isSliceB_inv h3
 simp only [qev] at h
 split at h
 ·rename_i p o len cap es hx
  split at h
  ·rename_i k i' hi
   split at h
   ·rename_i m hm
    split at h
    ·rename_i hlt
     rw [blt_eq] at hlt
     have hlt : m < len := of_decide_eq_true hlt
     cases h
     obtain ⟨pl,a,c,k1,k2,k3,k4,k5,k6,k7⟩ := (ev_as F L h1 hx).slice_inv
     obtain ⟨k8,k9⟩ := (ev_as F L h2 hi).int_inv
     have := natOf_inv hm
     subst this
     have k5 := k5 (by omega)
     subst k5
     refine ⟨_,exv rfl (s := Instr.indexAt t (b.eval x') (b.eval j)) ?_,.ptr p _ pl k1 k2⟩
     simp only [Instr.indexAt,k7,k8,asIntOf,Sem.run_bind,Sem.run_pure,Result.andThen_ok,run_underlying hu,run_szB hs,Bool.and_false]
     rw [if_pos (by omega)]
     simp only [Sem.run_bind,Sem.run_pure,Result.andThen_ok,run_szB hs,addr_add,Int.toNat_natCast,Nat.add_assoc]
     rfl
    ·cases h
   ·cases h
  ·cases h
 ·cases h
theorem q_iada (x i : Arg) (esz m : Nat) : QSound E (.iada x i esz m) := by
 intro n ι A b σ w o v F L R hok h
 obtain ⟨d,op,ty,pos,af,g⟩ := o
 cases op <;> simp only [okQ,Bool.false_eq_true,Bool.and_eq_true] at hok
 rename_i t x' j
 obtain ⟨⟨h1,h2⟩,h3⟩ := hok
 obtain ⟨e,hu,hs⟩ := isArrB_inv h3
 simp only [qev] at h
 split at h
 ·rename_i p o hx
  split at h
  ·rename_i k i' hi
   split at h
   ·rename_i j' hm
    split at h
    ·rename_i hlt
     rw [blt_eq] at hlt
     have hlt : j' < m := of_decide_eq_true hlt
     cases h
     obtain ⟨pl,k1,k2,k7⟩ := (ev_as F L h1 hx).ptr_inv
     obtain ⟨k8,k9⟩ := (ev_as F L h2 hi).int_inv
     have := natOf_inv hm
     subst this
     refine ⟨_,exv rfl (s := Instr.indexAt t (b.eval x') (b.eval j)) ?_,.ptr p _ pl k1 k2⟩
     simp only [Instr.indexAt,k7,k8,asIntOf,Sem.run_bind,Sem.run_pure,Result.andThen_ok,run_underlying hu,Instr.sureAddr]
     rw [if_pos (by omega)]
     simp only [Sem.run_bind,Sem.run_pure,Result.andThen_ok,run_szB hs,addr_add,Int.toNat_natCast,Nat.add_assoc]
     rfl
    ·cases h
   ·cases h
  ·cases h
 ·cases h
theorem q_idxa (x i : Arg) (esz m : Nat) (ag : Bool) : QSound E (.idxa x i esz m ag) := by
 intro n ι A b σ w o v F L R hok h
 obtain ⟨d,op,ty,pos,af,g⟩ := o
 cases op <;> simp only [okQ,Bool.false_eq_true,Bool.and_eq_true] at hok
 rename_i t x' j
 obtain ⟨⟨⟨h1,h2⟩,h3⟩,h4⟩ := hok
 obtain ⟨e,hu,hs⟩ := isArrB_inv h3
 rw [hu] at h4
 simp only [beq_iff_eq] at h4
 simp only [qev] at h
 split at h
 ·rename_i l hx
  split at h
  ·rename_i k i' hi
   split at h
   ·rename_i j' hm
    split at h
    ·rename_i hlt
     rw [blt_eq] at hlt
     have hlt : j' < m := of_decide_eq_true hlt
     obtain ⟨c,hc,hcs⟩ := (ev_as F L h1 hx).of_agg
     obtain ⟨k8,k9⟩ := (ev_as F L h2 hi).int_inv
     have := natOf_inv hm
     subst this
     obtain ⟨v',hr,hv⟩ := part_sound hcs hs h4 h w
     refine ⟨v',exv rfl (s := Instr.index t (b.eval x') (b.eval j)) ?_,hv⟩
     simp only [Instr.index,hc,k8,asIntOf,Sem.run_bind,Sem.run_pure,Result.andThen_ok,run_underlying hu]
     rw [if_pos (by omega)]
     simp only [Sem.run_bind,Sem.run_pure,Result.andThen_ok,run_szB hs,Int.toNat_natCast]
     exact hr
    ·cases h
   ·cases h
  ·cases h
 ·cases h
theorem q_idxs (x i : Arg) : QSound E (.idxs x i) := by
 intro n ι A b σ w o v F L R hok h
 obtain ⟨d,op,ty,pos,af,g⟩ := o
 cases op <;> simp only [okQ,Bool.false_eq_true,Bool.and_eq_true] at hok
 rename_i t x' j
 obtain ⟨⟨h1,h2⟩,h3⟩ := hok
 have hu := isStrB_inv h3
 simp only [qev] at h
 split at h
 ·rename_i l hx
  split at h
  ·rename_i k i' hi
   split at h
   ·rename_i j' hm
    split at h
    ·rename_i c hc
     cases h
     obtain ⟨s,k7,hs⟩ := (ev_as F L h1 hx).str_inv
     obtain ⟨k8,k9⟩ := (ev_as F L h2 hi).int_inv
     have := natOf_inv hm
     subst this
     rw [lget_eq,← hs,List.getElem?_map] at hc
     cases hg : s.data.toList[j']? with
     | none => rw [hg] at hc; cases hc
     | some u =>
      rw [hg] at hc
      have hc : u.toNat = c := by simpa using hc
      have hlt : j' < s.data.toList.length := (List.getElem?_eq_some_iff.1 hg).1
      have hsz : j' < s.size := by simpa using hlt
      have hget : s[j']? = some u := by
       rw [getElem?_pos s j' hsz]
       congr 1
       have := (List.getElem?_eq_some_iff.1 hg).2
       rw [← this]
       simp
       rfl
      refine ⟨.int .u8 (u.toNat : Int),exv rfl (s := Instr.index t (b.eval x') (b.eval j)) ?_,?_⟩
      ·simp only [Instr.index,k7,k8,asIntOf,Sem.run_bind,Sem.run_pure,Result.andThen_ok,run_underlying hu]
       rw [if_pos (by omega),Int.toNat_natCast,hget]
       rfl
      ·subst hc
       refine .int _ _ ?_
       have := u.toNat_lt
       unfold IntKind.has IntKind.min IntKind.max
       simp [IntKind.bits,IntKind.signed]
       omega
    ·cases h
   ·cases h
  ·cases h
 ·cases h
theorem q_nck (x : Arg) : QSound E (.nck x) := by
 intro n ι A b σ w o v F L R hok h
 obtain ⟨d,op,ty,pos,af,g⟩ := o
 cases op <;> simp only [okQ,Bool.false_eq_true] at hok
 rename_i x'
 simp only [qev] at h
 split at h
 ·rename_i p o hx
  cases h
  have hv := ev_as F L hok hx
  obtain ⟨pl,k1,k2,k3⟩ := hv.ptr_inv
  refine ⟨_,?_,hv⟩
  unfold execOp
  simp only [k3]; rfl
 ·rename_i t uu hx
  cases h
  have hv := ev_as F L hok hx
  obtain ⟨u',k1,k3⟩ := hv.iface_inv
  refine ⟨_,?_,hv⟩
  unfold execOp
  simp only [k3]; rfl
 ·rename_i f xs ys hx
  cases h
  have hv := ev_as F L hok hx
  refine ⟨_,?_,hv⟩
  generalize hz : b.eval x' = z at hv
  cases hv
  unfold execOp
  simp only [hz]; rfl
 ·cases h
end
end Go.Proofs.YtldidldbhngmnaaGreatDoor
namespace Go.Proofs.YtldidldbhngmnaaGreatDoor
open Go
section
variable {P : Program} {E : Env P}
theorem exbin {ρ : Operand → Value} {d : Option Tmp} {op : BinOp} {t u ty : TypeId} {x y : Operand} {pos : String} {af : Array Edge} {g : Option (Nat × Bool)} {w : World} {v' : Value}
  (hg : (eqGuard op t x y (ρ x) (ρ y)).run P w = .ok () w) (hs : (Go.binOp op t (ρ x) (ρ y)).run P w = .ok v' w) : (execOp ρ ⟨d,.binOp op t x y u,ty,pos,af,g⟩).run P w = .ok (.value v') w :=
 exv (s := do eqGuard op t x y (ρ x) (ρ y); Go.binOp op t (ρ x) (ρ y)) rfl (by simp only [Sem.run_bind,hg,Result.andThen_ok,hs])
theorem guard_ok {op : BinOp} {t : TypeId} {x y : Operand} {a b : Value} {w : World} (h : (∀ c d,a = .agg c → b = .agg d → False) ∧ (a = .nilIface → b = .nilIface → False)) : (eqGuard op t x y a b).run P w = .ok () w := by
 unfold eqGuard
 cases op <;> first | rfl | skip
 all_goals
  simp only [Bool.not_true,Bool.false_eq_true,if_false]
  split
  ·exact (h.2 rfl rfl).elim
  ·exact (h.1 _ _ rfl rfl).elim
  ·rfl
theorem q_bin (op : BinOp) (x y : Arg) : QSound E (.bin op x y) := by
 intro n ι A b σ w o v F L R hok h
 obtain ⟨d,op',ty,pos,af,g⟩ := o
 cases op' <;> simp only [okQ,Bool.false_eq_true,Bool.and_eq_true,decide_eq_true_eq] at hok
 rename_i op' t x' y' t'
 obtain ⟨⟨rfl,h1⟩,h2⟩ := hok
 simp only [qev] at h
 split at h
 ·rename_i k m hx
  split at h
  ·rename_i k' m' hy
   split at h
   ·rename_i hk
    have := beqK_eq hk
    subst this
    obtain ⟨k1,k2⟩ := (ev_as F L h1 hx).int_inv
    obtain ⟨k3,k4⟩ := (ev_as F L h2 hy).int_inv
    obtain ⟨v',h3,h4⟩ := ibin_sound (P := P) (ι := ι) k2 k4 h w
    refine ⟨v',exbin ?_ ?_,h4⟩
    ·rw [k1,k3]; exact guard_ok ⟨(fun _ _ e => by cases e),(fun e => by cases e)⟩
    ·rw [k1,k3]; exact h3 t
   ·cases h
  ·cases h
 ·cases h
theorem q_shf (left : Bool) (x y : Arg) : QSound E (.shf left x y) := by
 intro n ι A b σ w o v F L R hok h
 obtain ⟨d,op',ty,pos,af,g⟩ := o
 cases op' <;> simp only [okQ,Bool.false_eq_true,Bool.and_eq_true,decide_eq_true_eq] at hok
 rename_i op' t x' y' t'
 obtain ⟨⟨ho,h1⟩,h2⟩ := hok
 simp only [qev] at h
 split at h
 ·rename_i k m hx
  split at h
  ·rename_i k' m' hy
   split at h
   ·rename_i z hz
    split at h
    ·obtain ⟨k1,k2⟩ := (ev_as F L h1 hx).int_inv
     obtain ⟨k3,k4⟩ := (ev_as F L h2 hy).int_inv
     have := natOf_inv hz
     subst this
     have hneg : ¬ ((z : Int) < 0) := by omega
     have hmin : min z k.bits = Nat.min z k.bits := rfl
     cases left
     ·simp only [Bool.false_eq_true,if_false] at ho
      subst ho
      cases h
      refine ⟨.int k (m.fdiv (2 ^ (min z k.bits))),exbin (by rw [k1,k3]; exact guard_ok ⟨(fun _ _ e => by cases e),(fun e => by cases e)⟩) ?_,?_⟩
      ·rw [k1,k3]
       simp only [Go.binOp,Op.shift,if_neg hneg,Int.toNat_natCast,Sem.run_pure]
      ·rw [wrapK_eq]
       have e : (Int.ofNat (Nat.pow 2 (Nat.min z k.bits))) = (2 : Int) ^ (min z k.bits) := by
        show ((2 ^ (min z k.bits) : Nat) : Int) = _
        simp
       rw [e]
       have hb : k.has (m.fdiv (2 ^ (min z k.bits))) := by
        generalize min z k.bits = r
        have hp : (0 : Int) < 2 ^ r := Int.pow_pos (by decide)
        unfold IntKind.has at *
        have h3 : k.min ≤ 0 ∧ 0 ≤ k.max := by cases k <;> decide
        rw [Int.fdiv_eq_ediv_of_nonneg _ (by omega)]
        have hp1 : (1 : Int) ≤ 2 ^ r := hp
        rcases Int.le_total 0 m with hm | hm
        ·have u1 : 0 ≤ m / 2 ^ r := Int.ediv_nonneg hm (by omega)
         have u2 : m / 2 ^ r ≤ m := Int.ediv_le_self _ hm
         omega
        ·have u1 : m / 2 ^ r ≤ 0 := by
          have := Int.ediv_le_ediv (c := (2 : Int) ^ r) hp hm
          simpa using this
         have u2 : m ≤ m / 2 ^ r := by
          rw [Int.le_ediv_iff_mul_le hp]
          have := Int.mul_le_mul_of_nonpos_left (a := m) hm hp1
          omega
         omega
       rw [wrap_id hb]
       exact .int _ _ hb
     ·simp only [if_true] at ho
      subst ho
      cases h
      refine ⟨.int k (k.wrap (m * 2 ^ (min z k.bits))),exbin (by rw [k1,k3]; exact guard_ok ⟨(fun _ _ e => by cases e),(fun e => by cases e)⟩) ?_,?_⟩
      ·rw [k1,k3]
       simp only [Go.binOp,Op.shift,if_neg hneg,Int.toNat_natCast,Sem.run_pure]
      ·rw [wrapK_eq]
       have e : (Int.ofNat (Nat.pow 2 (Nat.min z k.bits))) = (2 : Int) ^ (min z k.bits) := by
        show ((2 ^ (min z k.bits) : Nat) : Int) = _
        simp
       rw [e]
       exact .int _ _ (wrap_has _ _)
    ·cases h
   ·cases h
  ·cases h
 ·cases h
theorem eqOp_inv {ne : Bool} {op : BinOp} (h : eqOp ne op = true) : op = if ne then .neq else .eql := by cases ne <;> cases op <;> first | rfl | cases h
theorem q_cmpb (ne : Bool) (x y : Arg) : QSound E (.cmpb ne x y) := by
 intro n ι A b σ w o v F L R hok h
 obtain ⟨d,op',ty,pos,af,g⟩ := o
 cases op' <;> simp only [okQ,Bool.false_eq_true,Bool.and_eq_true,decide_eq_true_eq] at hok
 rename_i op' t x' y' t'
 obtain ⟨⟨⟨ho,h1⟩,h2⟩,h3⟩ := hok
 have ho := eqOp_inv ho
 split at h3
 ·rename_i hu
  simp only [qev] at h
  split at h
  ·rename_i p hx
   split at h
   ·rename_i q hy
    cases h
    have k1 := (ev_as F L h1 hx).bool_inv
    have k2 := (ev_as F L h2 hy).bool_inv
    refine ⟨.bool (xorB ne (!(xorB p q))),exbin (by rw [k1,k2]; exact guard_ok ⟨(fun _ _ e => by cases e),(fun e => by cases e)⟩) ?_,.bool _⟩
    rw [k1,k2,ho]
    have he : ∀ d : Nat,(Op.equalIn (d + 1) t (.bool p) (.bool q)).run P w = .ok (p == q) w := fun d => by simp [Op.equalIn,run_underlying hu]
    cases ne
    ·simp only [Bool.false_eq_true,if_false,Go.binOp]
     simp [Op.equal,Op.maxDepth,he 9999,xorB]
     cases p <;> cases q <;> rfl
    ·simp only [if_true,Go.binOp]
     simp [Op.equal,Op.maxDepth,he 9999,xorB]
     cases p <;> cases q <;> rfl
   ·cases h
  ·cases h
 ·cases h3
theorem bytes_inj {s t : ByteArray} : s = t ↔ s.data.toList.map (·.toNat) = t.data.toList.map (·.toNat) := by
 constructor
 ·rintro rfl; rfl
 ·intro e
  have := (List.map_inj_right (f := fun x : UInt8 => x.toNat) (fun x y h => UInt8.toNat_inj.1 h)).1 e
  exact ByteArray.ext (Array.toList_inj.1 this)
theorem q_cmps (op : BinOp) (x y : Arg) : QSound E (.cmps op x y) := by
 intro n ι A b σ w o v F L R hok h
 obtain ⟨d,op',ty,pos,af,g⟩ := o
 cases op' <;> simp only [okQ,Bool.false_eq_true,Bool.and_eq_true,decide_eq_true_eq] at hok
 rename_i op' t x' y' t'
 obtain ⟨⟨rfl,h1⟩,h2⟩ := hok
 simp only [qev] at h
 split at h
 ·rename_i l hx
  split at h
  ·rename_i m hy
   obtain ⟨s1,k1,e1⟩ := (ev_as F L h1 hx).str_inv
   obtain ⟨s2,k2,e2⟩ := (ev_as F L h2 hy).str_inv
   have hg : ∀ op,(eqGuard op t x' y' (b.eval x') (b.eval y')).run P w = .ok () w := fun op => by rw [k1,k2]; exact guard_ok ⟨(fun _ _ e => by cases e),(fun e => by cases e)⟩
   have hbe : (s1.toList == s2.toList) = decide (l = m) := by
    have : (s1.toList = s2.toList) ↔ l = m := by
     rw [← e1,← e2,← bytes_inj]
     constructor
     ·intro e
      have a1 : s1.toList = s1.data.toList := ByteArray.toList_eq _
      have a2 : s2.toList = s2.data.toList := ByteArray.toList_eq _
      rw [a1,a2] at e
      exact ByteArray.ext (Array.toList_inj.1 e)
     ·rintro rfl; rfl
    by_cases hlm : l = m
    ·simp [hlm,this.2 hlm]
    ·have : ¬ s1.toList = s2.toList := fun e => hlm (this.1 e)
     simp [hlm,this]
   split at h
   ·split at h
    ·rename_i hle
     have hle := ble_le hle
     rw [llen_eq,llen_eq] at hle
     cases h
     have hsz : s1.size + s2.size ≤ 1000000 := by
      rw [← e1,← e2] at hle
      simpa using hle
     refine ⟨.string (s1 ++ s2),exbin (hg _) ?_,?_⟩
     ·rw [k1,k2]
      simp only [Go.binOp,Op.stringOp]
      rw [if_neg (by
       have : (IntKind.i64).max = 9223372036854775807 := by decide
       rw [this]; omega)]
      rfl
     ·rw [lapp_eq]
      refine .str _ _ ?_
      rw [← e1,← e2]
      simp
    ·cases h
   ·cases h
    refine ⟨.bool (decide (l = m)),exbin (hg _) ?_,by rw [nateq_eq]; exact .bool _⟩
    rw [k1,k2]
    simp only [Go.binOp,Op.stringOp,hbe]; rfl
   ·cases h
    refine ⟨.bool (!decide (l = m)),exbin (hg _) ?_,by rw [nateq_eq]; exact .bool _⟩
    rw [k1,k2]
    simp only [Go.binOp,Op.stringOp,hbe]; rfl
   ·cases h
  ·cases h
 ·cases h
theorem q_not (x : Arg) : QSound E (.not x) := by
 intro n ι A b σ w o v F L R hok h
 obtain ⟨d,op,ty,pos,af,g⟩ := o
 cases op <;> simp only [okQ,Bool.false_eq_true,Bool.and_eq_true,decide_eq_true_eq] at hok
 rename_i u' t x'
 obtain ⟨rfl,h1⟩ := hok
 simp only [qev] at h
 split at h
 ·rename_i c hx
  cases h
  have k := (ev_as F L h1 hx).bool_inv
  exact ⟨_,exv rfl (s := Op.unary .not (b.eval x')) (by rw [k]; simp only [Op.unary,Sem.run_pure]),.bool _⟩
 ·cases h
theorem q_neg (x : Arg) : QSound E (.neg x) := by
 intro n ι A b σ w o v F L R hok h
 obtain ⟨d,op,ty,pos,af,g⟩ := o
 cases op <;> simp only [okQ,Bool.false_eq_true,Bool.and_eq_true,decide_eq_true_eq] at hok
 rename_i u' t x'
 obtain ⟨rfl,h1⟩ := hok
 simp only [qev] at h
 split at h
 ·rename_i k m hx
  cases h
  obtain ⟨k1,k2⟩ := (ev_as F L h1 hx).int_inv
  refine ⟨.int k (k.wrap (0 - m)),exv rfl (s := Op.unary .neg (b.eval x')) (by rw [k1]; simp only [Op.unary,Op.intArith,Sem.run_pure]),?_⟩
  rw [wrapK_eq]
  exact .int _ _ (wrap_has _ _)
 ·cases h
theorem q_inv (x : Arg) : QSound E (.inv x) := by
 intro n ι A b σ w o v F L R hok h
 obtain ⟨d,op,ty,pos,af,g⟩ := o
 cases op <;> simp only [okQ,Bool.false_eq_true,Bool.and_eq_true,decide_eq_true_eq] at hok
 rename_i u' t x'
 obtain ⟨rfl,h1⟩ := hok
 simp only [qev] at h
 split at h
 ·rename_i k m hx
  split at h
  ·rename_i hsg
   cases h
   obtain ⟨k1,k2⟩ := (ev_as F L h1 hx).int_inv
   refine ⟨.int k (k.wrap ((BitVec.ofInt k.bits k.max ^^^ BitVec.ofInt k.bits m).toNat : Int)),exv rfl (s := Op.unary .xor (b.eval x')) (by rw [k1]; simp only [Op.unary,Op.intBits,hsg,Bool.false_eq_true,if_false,Sem.run_pure]),?_⟩
   rw [wrapK_eq]
   have e : (BitVec.ofInt k.bits k.max ^^^ BitVec.ofInt k.bits m).toNat = Nat.xor (Nat.sub (modK k) 1) (toU (modK k) m) := by
    rw [BitVec.toNat_xor,toU_bv,toU_bv]
    have : toU (modK k) k.max = Nat.sub (modK k) 1 := by cases k <;> first | rfl | exact absurd hsg (by decide)
    rw [this]; rfl
   rw [e]
   exact .int _ _ (wrap_has _ _)
  ·cases h
 ·cases h
theorem q_cvi (k : IntKind) (x : Arg) : QSound E (.cvi k x) := by
 intro n ι A b σ w o v F L R hok h
 obtain ⟨d,op,ty,pos,af,g⟩ := o
 cases op <;> simp only [okQ,Bool.false_eq_true,Bool.and_eq_true,decide_eq_true_eq] at hok
 rename_i s t x'
 obtain ⟨⟨h1,h0⟩,h2⟩ := hok
 split at h0
 ·rename_i ds hs
  split at h2
  ·rename_i k' hu
   simp only [decide_eq_true_eq] at h2
   subst h2
   simp only [qev] at h
   split at h
   ·rename_i kk m hx
    cases h
    obtain ⟨k1,k2⟩ := (ev_as F L h1 hx).int_inv
    refine ⟨.int k (k.wrap m),exv rfl (s := Go.convert s t (b.eval x')) (by rw [k1]; simp only [Go.convert,Sem.run_bind,run_underlying hs,run_underlying hu,Result.andThen_ok,Conv.intToInt,Sem.run_pure]),?_⟩
    rw [wrapK_eq]
    exact .int _ _ (wrap_has _ _)
   ·cases h
  ·cases h2
 ·cases h0
theorem q_cvid (x : Arg) : QSound E (.cvid x) := by
 intro n ι A b σ w o v F L R hok h
 obtain ⟨d,op,ty,pos,af,g⟩ := o
 cases op <;> simp only [okQ,Bool.false_eq_true,Bool.and_eq_true,decide_eq_true_eq] at hok
 rename_i s t x'
 obtain ⟨⟨h1,h0⟩,h2⟩ := hok
 have hs := isStrB_inv h0
 have hu := isStrB_inv h2
 simp only [qev] at h
 split at h
 ·rename_i l hx
  cases h
  have hv := ev_as F L h1 hx
  obtain ⟨s1,k1,e1⟩ := hv.str_inv
  exact ⟨_,exv rfl (s := Go.convert s t (b.eval x')) (by rw [k1]; simp only [Go.convert,Sem.run_bind,run_underlying hs,run_underlying hu,Result.andThen_ok,Sem.run_pure]),.str _ _ e1⟩
 ·cases h
theorem q_mki (t : Nat) (x : Arg) : QSound E (.mki t x) := by
 intro n ι A b σ w o v F L R hok h
 obtain ⟨d,op,ty,pos,af,g⟩ := o
 cases op <;> simp only [okQ,Bool.false_eq_true,Bool.and_eq_true,beq_iff_eq] at hok
 rename_i t' x'
 obtain ⟨⟨rfl,h1⟩,h2⟩ := hok
 simp only [qev] at h
 cases h
 refine ⟨.iface t (b.eval x'),exv rfl (s := Instr.makeInterface t (b.eval x')) ?_,.iface _ _ _ (ev_sound F L h1)⟩
 unfold notIfaceB at h2
 cases hu : P.underlying t with
 | none => rw [hu] at h2; cases h2
 | some dd =>
  rw [hu] at h2
  cases dd <;> first | (simp only [Instr.makeInterface,Sem.run_bind,run_underlying hu,Result.andThen_ok,Sem.run_pure]; done) | exact absurd h2 (by simp)
theorem q_mkf (f : Nat) (xs ys : List Arg) : QSound E (.mkf f xs ys) := by
 intro n ι A b σ w o v F L R hok h
 obtain ⟨d,op,ty,pos,af,g⟩ := o
 cases op with
 | makeFunc fn first cap =>
  cases fn with
  | func f' =>
   simp only [okQ,Bool.and_eq_true,beq_iff_eq] at hok
   obtain ⟨⟨rfl,h1⟩,h2⟩ := hok
   simp only [qev,lmap_eq] at h
   cases h
   have a1 := evs_sound F L _ _ h1
   have a2 := evs_sound F L _ _ h2
   refine ⟨.func (.func f) (first.map b.eval) (cap.map b.eval),exv rfl (s := Instr.makeFunc (.func f) (first.map b.eval) (cap.map b.eval)) rfl,.fn _ _ _ _ _ ?_ ?_ ?_ ?_⟩
   ·have := a1.1; simpa using this
   ·have := a2.1; simpa using this
   ·intro i x y hx hy
    exact a1.2 i x y hx (by rw [← Array.getElem?_toList] at hy; simpa using hy)
   ·intro i x y hx hy
    exact a2.2 i x y hx (by rw [← Array.getElem?_toList] at hy; simpa using hy)
  | _ => simp [okQ] at hok
 | _ => simp [okQ] at hok
theorem q_tas (x : Arg) (t : Nat) (z : V) (ok : Bool) : QSound E (.tas x t z ok) := by
 intro n ι A b σ w o v F L R hok h
 obtain ⟨d,op,ty,pos,af,g⟩ := o
 cases op <;> simp only [okQ,Bool.false_eq_true,Bool.and_eq_true,beq_iff_eq] at hok
 rename_i x' xt t' ok'
 obtain ⟨⟨⟨⟨rfl,rfl⟩,h1⟩,h2⟩,h3⟩ := hok
 obtain ⟨zv,hz,hzv⟩ := zeroV_inv h3
 have hni : ∃ dd,P.underlying t = some dd ∧ ∀ ms,dd ≠ .interface ms := by
  unfold notIfaceB at h2
  cases hu : P.underlying t with
  | none => rw [hu] at h2; cases h2
  | some dd => exact ⟨dd,rfl,fun ms e => by subst e; rw [hu] at h2; cases h2⟩
 obtain ⟨dd,hu,hd⟩ := hni
 simp only [qev] at h
 split at h
 ·rename_i u' vv hx
  obtain ⟨v1,k1,k2⟩ := (ev_as F L h1 hx).iface_inv
  split at h
  ·rename_i he
   have he : u' = t := Nat.eq_of_beq_eq_true he
   subst he
   cases h
   cases ok
   ·refine ⟨v1,exv rfl (s := Instr.typeAssert (b.eval x') xt u' false) ?_,k1⟩
    cases dd <;> first | exact absurd rfl (hd _) | (simp [Instr.typeAssert,run_underlying hu,k2])
   ·refine ⟨.tuple #[v1,.bool true],exv rfl (s := Instr.typeAssert (b.eval x') xt u' true) ?_,.mk_tup (.cons k1 (.cons (.bool _) .nil))⟩
    cases dd <;> first | exact absurd rfl (hd _) | (simp [Instr.typeAssert,run_underlying hu,k2])
  ·rename_i he
   have he : ¬ u' = t := fun e => by subst e; simp at he
   split at h
   ·cases h
    refine ⟨.tuple #[zv,.bool false],exv rfl (s := Instr.typeAssert (b.eval x') xt t true) ?_,.mk_tup (.cons (hzv ι) (.cons (.bool _) .nil))⟩
    cases dd <;> first | exact absurd rfl (hd _) | (simp [Instr.typeAssert,run_underlying hu,k2,he,hz])
   ·cases h
 ·rename_i hx
  split at h
  ·cases h
   have k2 : b.eval x' = .nilIface := by
    have := ev_as F L h1 hx
    generalize b.eval x' = zz at this
    cases this; rfl
   refine ⟨.tuple #[zv,.bool false],exv rfl (s := Instr.typeAssert (b.eval x') xt t true) ?_,.mk_tup (.cons (hzv ι) (.cons (.bool _) .nil))⟩
   cases dd <;> first | exact absurd rfl (hd _) | (simp [Instr.typeAssert,run_underlying hu,k2,hz])
  ·cases h
 ·cases h
theorem q_tai (x : Arg) (ts : List Nat) (ok : Bool) : QSound E (.tai x ts ok) := by
 intro n ι A b σ w o v F L R hok h
 obtain ⟨d,op,ty,pos,af,g⟩ := o
 cases op <;> simp only [okQ,Bool.false_eq_true,Bool.and_eq_true,beq_iff_eq] at hok
 rename_i x' xt t' ok'
 obtain ⟨⟨⟨rfl,h1⟩,h2⟩,h3⟩ := hok
 obtain ⟨zv,hz,hzv⟩ := zeroV_inv h3
 unfold implB at h2
 split at h2
 ·rename_i want hu
  simp only [qev] at h
  split at h
  ·rename_i u' vv hx
   have hv := ev_as F L h1 hx
   obtain ⟨v1,k1,k2⟩ := hv.iface_inv
   rw [k2] at hv
   have hmem : ∀ k : Nat,lall (fun z => !(Nat.beq z k)) ts = false → k ∈ ts := fun k hl => by
    rw [lall_eq] at hl
    apply Classical.byContradiction
    intro hn
    have : ts.all (fun z => !(Nat.beq z k)) = true := by
     rw [List.all_eq_true]
     intro z hz
     have : z ≠ k := fun e => hn (e ▸ hz)
     simp [nbeq_eq,this]
    rw [this] at hl; cases hl
   split at h
   ·rename_i hl
    have := (List.all_eq_true.1 h2) _ (hmem _ hl)
    have e1 : Nat.div (Nat.mul 2 u') 2 = u' := by show 2 * u' / 2 = u'; omega
    have e2 : Nat.mod (Nat.mul 2 u') 2 = Nat.zero := by show 2 * u' % 2 = 0; omega
    rw [e1,e2] at this
    split at this
    ·rename_i i hi
     have hmm : Instr.missingMethod want i.methods = none := missingMethod_none (List.isEmpty_iff.1 this)
     cases h
     cases ok
     ·refine ⟨_,exv rfl (s := Instr.typeAssert (b.eval x') xt t' false) ?_,hv⟩
      simp [Instr.typeAssert,run_underlying hu,k2,typeInfo,hi,hmm]
     ·refine ⟨.tuple #[.iface u' v1,.bool true],exv rfl (s := Instr.typeAssert (b.eval x') xt t' true) ?_,.mk_tup (.cons hv (.cons (.bool _) .nil))⟩
      simp [Instr.typeAssert,run_underlying hu,k2,typeInfo,hi,hmm]
    ·cases this
   ·split at h
    ·split at h
     ·rename_i hl
      have := (List.all_eq_true.1 h2) _ (hmem _ hl)
      have e1 : Nat.div (Nat.add (Nat.mul 2 u') 1) 2 = u' := by show (2 * u' + 1) / 2 = u'; omega
      have e2 : Nat.mod (Nat.add (Nat.mul 2 u') 1) 2 = Nat.succ 0 := by show (2 * u' + 1) % 2 = 1; omega
      rw [e1,e2] at this
      split at this
      ·rename_i i hi
       cases h
       obtain ⟨m,hmm⟩ := missingMethod_some (want := want) (got := i.methods) (fun e => by rw [e] at this; cases this)
       refine ⟨.tuple #[zv,.bool false],exv rfl (s := Instr.typeAssert (b.eval x') xt t' true) ?_,.mk_tup (.cons (hzv ι) (.cons (.bool _) .nil))⟩
       simp [Instr.typeAssert,run_underlying hu,k2,typeInfo,hi,hmm,hz]
      ·cases this
     ·cases h
    ·cases h
  ·rename_i hx
   split at h
   ·cases h
    have k2 : b.eval x' = .nilIface := by
     have := ev_as F L h1 hx
     generalize b.eval x' = zz at this
     cases this; rfl
    refine ⟨.tuple #[zv,.bool false],exv rfl (s := Instr.typeAssert (b.eval x') xt t' true) ?_,.mk_tup (.cons (hzv ι) (.cons (.bool _) .nil))⟩
    simp [Instr.typeAssert,run_underlying hu,k2,hz]
   ·cases h
  ·cases h
 ·cases h2
theorem q_ext (x : Arg) (i : Nat) : QSound E (.ext x i) := by
 intro n ι A b σ w o v F L R hok h
 obtain ⟨d,op,ty,pos,af,g⟩ := o
 cases op <;> simp only [okQ,Bool.false_eq_true,Bool.and_eq_true,beq_iff_eq] at hok
 rename_i x' j
 obtain ⟨rfl,h1⟩ := hok
 simp only [qev] at h
 split at h
 ·rename_i l hx
  obtain ⟨c,k1,k2⟩ := (ev_as F L h1 hx).of_tup
  rw [lget_eq] at h
  have hlt : i < l.length := (List.getElem?_eq_some_iff.1 h).1
  have hlt' : i < c.size := by have := k2.1; simp at this; omega
  refine ⟨c[i],exv rfl (s := Instr.extract (b.eval x') i) (by rw [k1]; simp [Instr.extract,hlt']),k2.2 i v _ h (by simp [hlt'])⟩
 ·cases h
end
end Go.Proofs.YtldidldbhngmnaaGreatDoor
namespace Go.Proofs.YtldidldbhngmnaaGreatDoor
open Go
section
variable {P : Program} {E : Env P}
theorem exlen {ρ : Operand → Value} {d : Option Tmp} {args : Array Operand} {ats : Array TypeId} {ty : TypeId} {pos : String} {af : Array Edge} {g : Option (Nat × Bool)} {x : Operand} {t : TypeId} {w : World} {v' : Value}
  (ha : args.toList = [x]) (ht : ats.toList = [t]) (h : (Builtin.len_ #[t] ty #[ρ x]).run P w = .ok v' w) : (execOp ρ ⟨d,.call ⟨.builtin .len,args,ats⟩,ty,pos,af,g⟩).run P w = .ok (.value v') w := by
 obtain rfl : args = #[x] := Array.toList_inj.1 ha
 obtain rfl : ats = #[t] := Array.toList_inj.1 ht
 unfold execOp
 simp only [resolve,invoke,builtin,Sem.run_bind,Sem.run_pure,Result.andThen_ok,List.map_toArray,List.map_cons,List.map_nil,h]
theorem mkLen_inv {n : Nat} {v : V} (h : mkLen n = some v) : v = .int .i64 (n : Int) ∧ IntKind.i64.has (n : Int) := by
 unfold mkLen at h
 split at h
 ·rename_i hle
  have := ble_le hle
  cases h
  refine ⟨rfl,?_⟩
  unfold IntKind.has IntKind.min IntKind.max
  simp only [IntKind.bits,IntKind.signed,if_true,p63]
  omega
 ·cases h
theorem VR.mkLen {ι : Nm} {n : Nat} {v : V} (h : mkLen n = some v) : VR ι v (.int .i64 (n : Int)) := by
 obtain ⟨rfl,h2⟩ := mkLen_inv h
 exact .int _ _ h2
theorem q_lenv (x : Arg) : QSound E (.lenv x) := by
 intro n ι A b σ w o v F L R hok h
 obtain ⟨d,op,ty,pos,af,g⟩ := o
 cases op <;> simp only [okQ,Bool.false_eq_true] at hok
 rename_i c
 obtain ⟨cal,args,ats⟩ := c
 split at hok
 ·rename_i c' a1 a2 he
  cases he
  split at hok
  ·rename_i x' t ha ht
   simp only [Bool.and_eq_true] at hok
   obtain ⟨h1,h2⟩ := hok
   split at h2
   ·rename_i el hu
    simp only [qev] at h
    split at h
    ·rename_i p o len cap es hx
     obtain ⟨pl,aa,cc,k1,k2,k3,k4,k5,k6,k7⟩ := (ev_as F L h1 hx).slice_inv
     exact ⟨_,exlen ha ht (by rw [k7]; simp [Builtin.len_,run_underlying hu,goInt]),VR.mkLen h⟩
    ·rename_i hx
     have k2 : b.eval x' = .slice none 0 0 := by
      have := ev_as F L h1 hx
      generalize b.eval x' = zz at this
      cases this; rfl
     exact ⟨_,exlen ha ht (by rw [k2]; simp [Builtin.len_,run_underlying hu,goInt]),VR.mkLen h⟩
    ·cases h
   ·cases h2
  ·cases hok
 ·cases hok
theorem q_lens (x : Arg) : QSound E (.lens x) := by
 intro n ι A b σ w o v F L R hok h
 obtain ⟨d,op,ty,pos,af,g⟩ := o
 cases op <;> simp only [okQ,Bool.false_eq_true] at hok
 rename_i c
 obtain ⟨cal,args,ats⟩ := c
 split at hok
 ·rename_i c' a1 a2 he
  cases he
  split at hok
  ·rename_i x' t ha ht
   simp only [Bool.and_eq_true] at hok
   obtain ⟨h1,h2⟩ := hok
   have hu := isStrB_inv h2
   simp only [qev] at h
   split at h
   ·rename_i l hx
    obtain ⟨s,k1,k2⟩ := (ev_as F L h1 hx).str_inv
    have e : s.size = l.length := by rw [← k2]; simp
    rw [llen_eq,← e] at h
    exact ⟨_,exlen ha ht (by rw [k1]; simp [Builtin.len_,run_underlying hu,goInt]),VR.mkLen h⟩
   ·cases h
  ·cases hok
 ·cases hok
theorem q_lenc (m : Nat) : QSound E (.lenc m) := by
 intro n ι A b σ w o v F L R hok h
 obtain ⟨d,op,ty,pos,af,g⟩ := o
 cases op <;> simp only [okQ,Bool.false_eq_true] at hok
 rename_i c
 obtain ⟨cal,args,ats⟩ := c
 split at hok
 ·rename_i c' a1 a2 he
  cases he
  split at hok
  ·rename_i x' t ha ht
   split at hok
   ·rename_i m' el hu
    have hm : m' = m := by simpa using hok
    subst hm
    simp only [qev] at h
    exact ⟨.int .i64 (m' : Int),exlen ha ht (by cases b.eval x' <;> simp [Builtin.len_,run_underlying hu,goInt]),VR.mkLen h⟩
   ·cases hok
  ·cases hok
 ·cases hok
theorem q_lenm (x : Arg) : QSound E (.lenm x) := by
 intro n ι A b σ w o v F L R hok h
 obtain ⟨d,op,ty,pos,af,g⟩ := o
 cases op <;> simp only [okQ,Bool.false_eq_true] at hok
 rename_i c
 obtain ⟨cal,args,ats⟩ := c
 split at hok
 ·rename_i c' a1 a2 he
  cases he
  split at hok
  ·rename_i x' t ha ht
   simp only [Bool.and_eq_true] at hok
   obtain ⟨h1,h2⟩ := hok
   split at h2
   ·rename_i ke el hu
    simp only [qev] at h
    split at h
    ·rename_i hx
     have k2 : b.eval x' = .map none := by
      have := ev_as F L h1 hx
      generalize b.eval x' = zz at this
      cases this; rfl
     exact ⟨_,exlen ha ht (by rw [k2]; simp [Builtin.len_,run_underlying hu,goInt]),VR.mkLen h⟩
    ·rename_i p hx
     split at h
     ·rename_i es ck ks hg
      obtain ⟨pl,k1,k2,k3⟩ := (ev_as F L h1 hx).map_inv
      obtain ⟨pl',es',j1,j2,j3,j4,_⟩ := R.ob p _ hg
      rw [k1] at j1; cases j1
      rw [llen_eq,j4] at h
      refine ⟨_,exlen ha ht ?_,VR.mkLen h⟩
      rw [k3]
      simp [Builtin.len_,run_underlying hu,goInt,getObj,Sem.run,j3,Result.andThen]
     ·cases h
    ·cases h
   ·cases h2
  ·cases hok
 ·cases hok
theorem q_mnx (mx : Bool) (x y : Arg) : QSound E (.mnx mx x y) := by
 intro n ι A b σ w o v F L R hok h
 obtain ⟨d,op,ty,pos,af,g⟩ := o
 cases op <;> simp only [okQ,Bool.false_eq_true] at hok
 rename_i c
 obtain ⟨cal,args,ats⟩ := c
 split at hok
 ·rename_i c' bb a1 a2 he
  cases he
  simp only [Bool.and_eq_true,decide_eq_true_eq] at hok
  obtain ⟨hb,hok⟩ := hok
  split at hok
  ·rename_i x' y' ha
   obtain rfl : args = #[x',y'] := Array.toList_inj.1 ha
   simp only [Bool.and_eq_true] at hok
   obtain ⟨h1,h2⟩ := hok
   simp only [qev] at h
   split at h
   ·rename_i k m hx
    split at h
    ·rename_i k' m' hy
     split at h
     ·rename_i hk
      have := beqK_eq hk
      subst this
      obtain ⟨k1,k2⟩ := (ev_as F L h1 hx).int_inv
      obtain ⟨k3,k4⟩ := (ev_as F L h2 hy).int_inv
      cases mx
      ·simp only [Bool.false_eq_true,if_false] at hb
       subst hb
       simp only [Option.some.injEq] at h
       subst h
       refine ⟨.int k (if m' < m then m' else m),?_,?_⟩
       ·unfold execOp
        simp [resolve,invoke,builtin,Sem.run_bind,Sem.run_pure,Result.andThen_ok,k1,k3,Builtin.min_,Builtin.min2]
       ·rw [ilt_eq]
        by_cases hlt : m' < m
        ·simp [hlt]; exact .int _ _ k4
        ·simp [hlt]; exact .int _ _ k2
      ·simp only [if_true] at hb
       subst hb
       simp only [Option.some.injEq] at h
       subst h
       refine ⟨.int k (if m < m' then m' else m),?_,?_⟩
       ·unfold execOp
        simp [resolve,invoke,builtin,Sem.run_bind,Sem.run_pure,Result.andThen_ok,k1,k3,Builtin.max_,Builtin.max2]
       ·rw [ilt_eq]
        by_cases hlt : m < m'
        ·simp [hlt]; exact .int _ _ k4
        ·simp [hlt]; exact .int _ _ k2
     ·cases h
    ·cases h
   ·cases h
  ·cases hok
 ·cases hok
theorem q_ld1 (x : Arg) : QSound E (.ld1 x) := by
 intro n ι A b σ w o v F L R hok h
 obtain ⟨d,op,ty,pos,af,g⟩ := o
 cases op <;> simp only [okQ,Bool.false_eq_true,Bool.and_eq_true,beq_iff_eq] at hok
 rename_i t x'
 obtain ⟨h1,h2⟩ := hok
 simp only [qev] at h
 split at h
 ·rename_i p o hx
  split at h
  ·rename_i l kin fz ro hg
   obtain ⟨pl,k1,k2,k3⟩ := (ev_as F L h1 hx).ptr_inv
   obtain ⟨pl',c,e,j1,j2,j3,j4,j5,j6⟩ := R.ob p _ hg
   rw [k1] at j1; cases j1
   rw [lget_eq] at h
   have hlt : o < l.length := (List.getElem?_eq_some_iff.1 h).1
   have hc : c[pl.st + o]? = some (c[pl.st + o]'(by omega)) := by simp
   refine ⟨c[pl.st + o]'(by omega),exv rfl (s := Instr.loadAt t (b.eval x')) ?_,j6 o v _ h hc⟩
   have := LD_cell (P := P) (t := t) pl.blk (pl.st + o) w (run_aggB h2)
   rw [k3]
   refine Eq.trans this ?_
   have hb : blk w pl.blk = some (.cells c e) := j3
   rw [hb,loadCell_cells,hc,cellOr_some]
  ·cases h
 ·cases h
theorem q_ldn (x : Arg) (m : Nat) : QSound E (.ldn x m) := by
 intro n ι A b σ w o v F L R hok h
 obtain ⟨d,op,ty,pos,af,g⟩ := o
 cases op <;> simp only [okQ,Bool.false_eq_true,Bool.and_eq_true,beq_iff_eq] at hok
 rename_i t x'
 obtain ⟨⟨h1,h2⟩,h3⟩ := hok
 simp only [qev] at h
 split at h
 ·rename_i p o hx
  split at h
  ·rename_i l kin fz ro hg
   split at h
   ·rename_i hle
    have hle := ble_le hle
    rw [llen_eq] at hle
    cases h
    obtain ⟨pl,k1,k2,k3⟩ := (ev_as F L h1 hx).ptr_inv
    obtain ⟨pl',c,e,j1,j2,j3,j4,j5,j6⟩ := R.ob p _ hg
    rw [k1] at j1; cases j1
    have hle : o + m ≤ l.length := hle
    refine ⟨.agg (c.extract (pl.st + o) (pl.st + o + m)),exv rfl (s := Instr.loadAt t (b.eval x')) ?_,.mk_agg ?_⟩
    ·have := LD_agg (P := P) (t := t) (n := m) (run_aggB h2) (run_szB h3) pl.blk (pl.st + o) w
     rw [k3]
     refine Eq.trans this ?_
     have hb : blk w pl.blk = some (.cells c e) := j3
     rw [hb,loadBlk_cells,if_pos (by omega)]
    ·rw [ltake_eq,ldrop_eq]
     refine ⟨by simp; omega,fun i x y hx hy => ?_⟩
     rw [List.getElem?_take] at hx
     split at hx
     ·rw [List.getElem?_drop] at hx
      rw [Array.getElem?_toList,Array.getElem?_extract] at hy
      split at hy
      ·exact j6 (o + i) x y hx (by rw [← Nat.add_assoc]; exact hy)
      ·cases hy
     ·cases hx
   ·cases h
  ·cases h
 ·cases h
theorem q_wts (x : Arg) : QSound E (.wts x) := by
 intro n ι A b σ w o v F L R hok h
 obtain ⟨d,op,ty,pos,af,g⟩ := o
 cases op <;> simp only [okQ,Bool.false_eq_true] at hok
 rename_i gg
 simp only [qev] at h
 split at h
 ·rename_i p o hx
  split at h
  ·rename_i l kin fz ro hg
   cases h
   obtain ⟨pl,k1,k2,k3⟩ := (ev_as F L hok hx).ptr_inv
   obtain ⟨pl',c,e,j1,j2,j3,j4,j5,j6⟩ := R.ob p _ hg
   rw [k1] at j1; cases j1
   have hb : pl.blk = gg := by
    simp only [Act.eval,Value.pointer.injEq,Option.some.injEq,Addr.mk.injEq] at k3
    exact k3.1.symm
   refine ⟨.bool false,exv rfl (s := Instr.waits gg) ?_,.bool _⟩
   simp [Instr.waits,shape,Sem.run,World.shape?,← hb,j3]
  ·cases h
 ·cases h
end
end Go.Proofs.YtldidldbhngmnaaGreatDoor
namespace Go.Proofs.YtldidldbhngmnaaGreatDoor
open Go
section
variable {P : Program} {E : Env P}
def BoundIs (a : Act) (x : Option Operand) (d n : Nat) : Prop := match x with | none => n = d | some x => ∃ k,a.eval x = .int k n
theorem optN_sound {ng : GS} {n : Nat} {ds : List Deferred} {ι : Nm} {A : T V} {a : Act} (F : FR n ds ι A a) (L : Gl ng ι) {x : Option Arg} {o : Option Operand} (h : okOA ng x o = true) {d m : Nat} (hm : optN A x d = some m) : BoundIs a o d m := by
 cases x with
 | none =>
  cases o with
  | none => cases hm; rfl
  | some o => simp [okOA] at h
 | some x =>
  cases o with
  | none => simp [okOA] at h
  | some o =>
   simp only [okOA] at h
   simp only [optN] at hm
   split at hm
   ·rename_i k i hx
    obtain ⟨k1,k2⟩ := (ev_as F L h hx).int_inv
    have := natOf_inv hm
    subst this
    exact ⟨k,k1⟩
   ·cases hm
theorem bounds_sound {a : Act} {lo hi : Option Operand} {isS : Bool} {len cap l h : Nat} (h1 : BoundIs a hi len h) (h2 : BoundIs a lo 0 l) (hl : l ≤ h) (hh : h ≤ len) (hc : len ≤ cap) (w : World) :
  (Instr.sliceBounds isS len cap (lo.map a.eval) (hi.map a.eval) none).run P w = .ok (l,h,cap) w := by
 have hb : ∀ (k : IntKind) (n y : Nat) (code : BoundsCode),n ≤ y → (Instr.sliceBound (.int k (n : Int)) y code).run P w = .ok n w := by
  intro k n y code hn
  simp only [Instr.sliceBound,asIntOf,Sem.run_bind,Sem.run_pure,Result.andThen_ok]
  rw [if_pos (by omega)]; simp
 cases hi with
 | none =>
  simp only [BoundIs] at h1
  subst h1
  cases lo with
  | none =>
   simp only [BoundIs] at h2
   subst h2
   simp [Instr.sliceBounds]
  | some x =>
   obtain ⟨k,hk⟩ := h2
   simp [Instr.sliceBounds,hk,hb _ _ _ _ hl]
 | some z =>
  obtain ⟨k2,hk2⟩ := h1
  have hz := hb k2 h cap (if isS = true then BoundsCode.sliceAcap else BoundsCode.sliceAlen) (by omega)
  cases lo with
  | none =>
   simp only [BoundIs] at h2
   subst h2
   simp [Instr.sliceBounds,hk2,hz]
  | some x =>
   obtain ⟨k,hk⟩ := h2
   simp [Instr.sliceBounds,hk,hb _ _ _ _ hl,hk2,hz]
theorem and_ble {a b c d : Nat} (h : (Nat.ble a b && Nat.ble c d) = true) : a ≤ b ∧ c ≤ d := by
 simp only [Bool.and_eq_true] at h
 exact ⟨ble_le h.1,ble_le h.2⟩
theorem mul_split {l c e : Nat} (h : l ≤ c) : l * e + (c - l) * e = c * e := by
 rw [← Nat.add_mul]; congr 1; omega
theorem q_slc (x : Arg) (lo hi : Option Arg) (esz : Nat) : QSound E (.slc x lo hi esz) := by
 intro n ι A b σ w o v F L R hok h
 obtain ⟨d,op,ty,pos,af,g⟩ := o
 cases op with
 | slice t x' l' h' m' =>
  cases m' with
  | some m' => simp [okQ] at hok
  | none =>
   simp only [okQ,Bool.and_eq_true] at hok
   obtain ⟨⟨⟨h1,h2⟩,h3⟩,h4⟩ := hok
   obtain ⟨el,hu,hs⟩ := isSliceB_inv h4
   simp only [qev] at h
   split at h
   ·rename_i p o len cap es hx
    split at h
    ·rename_i hes
     have hes : es = esz := Nat.eq_of_beq_eq_true hes
     subst hes
     split at h
     ·rename_i hh hhi
      split at h
      ·rename_i ll hlo
       split at h
       ·rename_i hle
        obtain ⟨hle1,hle2⟩ := and_ble hle
        cases h
        obtain ⟨pl,aa,c,k1,k2,k3,k4,k5,k6,k7⟩ := (ev_as F L h1 hx).slice_inv
        have hb := bounds_sound (P := P) (isS := true) (cap := c) (optN_sound F L h3 hhi) (optN_sound F L h2 hlo) hle1 hle2 k4 w
        refine ⟨.slice (some (if c = ll then aa else aa.add (ll * es))) (hh - ll) (c - ll),exv rfl (s := Instr.sliceAt t (b.eval x') (l'.map b.eval) (h'.map b.eval) none) ?_,?_⟩
        ·simp only [Instr.sliceAt,Sem.run_bind,run_underlying hu,Result.andThen_ok,Instr.slice,k7,hb,run_szB hs,Sem.run_pure]
         congr 2
         split <;> rfl
        ·have hms := mul_split (e := es) (show ll ≤ c by omega)
         refine .slice p _ _ _ _ pl _ _ k1 k2 ?_ (show hh - ll ≤ c - ll by omega) ?_ ?_
         ·intro m hm
          cases cap with
          | none => cases hm
          | some c' =>
           have := k3 c' rfl
           subst this
           cases hm; rfl
         ·intro hne
          rw [if_neg (by omega),k5 (by omega),addr_add,Nat.add_assoc]
          rfl
         ·show pl.st + (o + ll * es) + (c - ll) * es ≤ pl.sz
          omega
       ·cases h
      ·cases h
     ·cases h
    ·cases h
   ·rename_i hx
    have k7 : b.eval x' = .slice none 0 0 := by
     have := ev_as F L h1 hx
     generalize b.eval x' = zz at this
     cases this; rfl
    split at h
    ·rename_i hh hhi
     split at h
     ·rename_i ll hlo
      split at h
      ·rename_i hle
       simp only [Bool.and_eq_true] at hle
       have e1 : hh = 0 := Nat.eq_of_beq_eq_true hle.1
       have e2 : ll = 0 := Nat.eq_of_beq_eq_true hle.2
       subst e1; subst e2
       cases h
       have hb := bounds_sound (P := P) (isS := true) (cap := 0) (optN_sound F L h3 hhi) (optN_sound F L h2 hlo) (Nat.le_refl 0) (Nat.le_refl 0) (Nat.le_refl 0) w
       refine ⟨.slice none 0 0,exv rfl (s := Instr.sliceAt t (b.eval x') (l'.map b.eval) (h'.map b.eval) none) ?_,.nils⟩
       simp only [Instr.sliceAt,Sem.run_bind,run_underlying hu,Result.andThen_ok,Instr.slice,k7,hb,run_szB hs,Sem.run_pure]
       rfl
      ·cases h
     ·cases h
    ·cases h
   ·cases h
 | _ => simp [okQ] at hok
theorem q_slca (x : Arg) (lo hi : Option Arg) (esz m : Nat) : QSound E (.slca x lo hi esz m) := by
 intro n ι A b σ w o v F L R hok h
 obtain ⟨d,op,ty,pos,af,g⟩ := o
 cases op with
 | slice t x' l' h' m' =>
  cases m' with
  | some m' => simp [okQ] at hok
  | none =>
   simp only [okQ,Bool.and_eq_true] at hok
   obtain ⟨⟨⟨h1,h2⟩,h3⟩,h4⟩ := hok
   obtain ⟨el,hu,hs⟩ := isArrB_inv h4
   simp only [qev] at h
   split at h
   ·rename_i p o hx
    split at h
    ·rename_i ls kin fz ro hg
     split at h
     ·rename_i hroom
      have hroom := ble_le hroom
      rw [llen_eq] at hroom
      split at h
      ·rename_i hh hhi
       split at h
       ·rename_i ll hlo
        split at h
        ·rename_i hle
         obtain ⟨hle1,hle2⟩ := and_ble hle
         cases h
         obtain ⟨pl,k1,k2,k3⟩ := (ev_as F L h1 hx).ptr_inv
         obtain ⟨pl',c,e,j1,j2,j3,j4,j5,j6⟩ := R.ob p _ hg
         rw [k1] at j1; cases j1
         have hb := bounds_sound (P := P) (isS := false) (cap := m) (optN_sound F L h3 hhi) (optN_sound F L h2 hlo) hle1 hle2 (Nat.le_refl _) w
         have hroom : o + m * esz ≤ ls.length := hroom
         refine ⟨.slice (some (if m = ll then ⟨pl.blk,pl.st + o,none⟩ else (⟨pl.blk,pl.st + o,none⟩ : Addr).add (ll * esz))) (hh - ll) (m - ll),exv rfl (s := Instr.sliceAt t (b.eval x') (l'.map b.eval) (h'.map b.eval) none) ?_,?_⟩
         ·simp only [Instr.sliceAt,Sem.run_bind,run_underlying hu,Result.andThen_ok,k3,Instr.sureAddr,hb,run_szB hs,Sem.run_pure]
         ·have hms := mul_split (e := esz) (show ll ≤ m by omega)
          refine .slice p _ _ _ _ pl _ _ k1 k2 (fun z hz => by cases hz; rfl) (show hh - ll ≤ m - ll by omega) ?_ ?_
          ·intro hne
           rw [if_neg (by omega),addr_add,Nat.add_assoc]
           rfl
          ·show pl.st + (o + ll * esz) + (m - ll) * esz ≤ pl.sz
           omega
        ·cases h
       ·cases h
      ·cases h
     ·cases h
    ·cases h
   ·cases h
 | _ => simp [okQ] at hok
theorem q_slcs (x : Arg) (lo hi : Option Arg) : QSound E (.slcs x lo hi) := by
 intro n ι A b σ w o v F L R hok h
 obtain ⟨d,op,ty,pos,af,g⟩ := o
 cases op with
 | slice t x' l' h' m' =>
  cases m' with
  | some m' => simp [okQ] at hok
  | none =>
   simp only [okQ,Bool.and_eq_true] at hok
   obtain ⟨⟨⟨h1,h2⟩,h3⟩,h4⟩ := hok
   have hu := isStrB_inv h4
   simp only [qev] at h
   split at h
   ·rename_i s hx
    obtain ⟨s1,k1,k2⟩ := (ev_as F L h1 hx).str_inv
    have hsz : s1.size = s.length := by rw [← k2]; simp
    split at h
    ·rename_i hh hhi
     split at h
     ·rename_i ll hlo
      split at h
      ·rename_i hle
       obtain ⟨hle1,hle2⟩ := and_ble hle
       rw [llen_eq] at hle2 hhi
       cases h
       have hb := bounds_sound (P := P) (isS := false) (len := s1.size) (cap := s1.size) (by rw [hsz]; exact optN_sound F L h3 hhi) (optN_sound F L h2 hlo) hle1 (by omega) (Nat.le_refl _) w
       refine ⟨.string (s1.extract ll hh),exv rfl (s := Instr.sliceAt t (b.eval x') (l'.map b.eval) (h'.map b.eval) none) ?_,?_⟩
       ·simp only [Instr.sliceAt,Sem.run_bind,run_underlying hu,Result.andThen_ok,Instr.slice,k1,Option.isSome_none,Bool.false_eq_true,if_false,Sem.run_pure,hb]
       ·rw [ltake_eq,ldrop_eq]
        refine .str _ _ ?_
        rw [← k2]
        have e : (s1.extract ll hh).data.toList = (s1.data.toList.drop ll).take (hh - ll) := by
         rw [ByteArray.data_extract]
         simp
        rw [e,List.map_take,List.map_drop]
        rfl
      ·cases h
     ·cases h
    ·cases h
   ·cases h
 | _ => simp [okQ] at hok
end
end Go.Proofs.YtldidldbhngmnaaGreatDoor
namespace Go.Proofs.YtldidldbhngmnaaGreatDoor
open Go
section
variable {P : Program} {E : Env P}
theorem exeq {ρ : Operand → Value} {d : Option Tmp} {ne : Bool} {op : BinOp} {t u ty : TypeId} {x y : Operand} {pos : String} {af : Array Edge} {g : Option (Nat × Bool)} {w : World} {r : Bool} (ho : eqOp ne op = true)
  (hx : (∀ k n,ρ x ≠ .int k n) ∧ (∀ s,ρ x ≠ .string s) ∧ (∀ k n,ρ x ≠ .float k n) ∧ (∀ k n m,ρ x ≠ .complex k n m))
  (hg : (eqGuard op t x y (ρ x) (ρ y)).run P w = .ok () w) (he : (Op.equal t (ρ x) (ρ y)).run P w = .ok r w) : (execOp ρ ⟨d,.binOp op t x y u,ty,pos,af,g⟩).run P w = .ok (.value (.bool (xorB ne r))) w := by
 refine exbin hg ?_
 have ho := eqOp_inv ho
 obtain ⟨h1,h2,h3,h4⟩ := hx
 generalize ρ x = a at *
 generalize ρ y = c at *
 cases ne
 ·simp only [Bool.false_eq_true,if_false] at ho
  subst ho
  have e : Go.binOp .eql t a c = (do pure (.bool (← Op.equal t a c))) := by
   cases a <;> first | rfl | exact absurd rfl (h1 _ _) | exact absurd rfl (h2 _) | exact absurd rfl (h3 _ _) | exact absurd rfl (h4 _ _ _) | (cases c <;> rfl)
  rw [e]
  simp only [Sem.run_bind,he,Result.andThen_ok,Sem.run_pure,xorB]
 ·simp only [if_true] at ho
  subst ho
  have e : Go.binOp .neq t a c = (do pure (.bool (!(← Op.equal t a c)))) := by
   cases a <;> first | rfl | exact absurd rfl (h1 _ _) | exact absurd rfl (h2 _) | exact absurd rfl (h3 _ _) | exact absurd rfl (h4 _ _ _) | (cases c <;> rfl)
  rw [e]
  simp only [Sem.run_bind,he,Result.andThen_ok,Sem.run_pure,xorB]
theorem q_eqa (ne : Bool) (sh : List IntKind) (x y : Arg) : QSound E (.eqa ne sh x y) := by
 intro n ι A b σ w o v F L R hok h
 obtain ⟨d,op',ty,pos,af,g⟩ := o
 cases op' <;> simp only [okQ,Bool.false_eq_true,Bool.and_eq_true] at hok
 rename_i op' t x' y' t'
 obtain ⟨⟨⟨ho,h1⟩,h2⟩,h3⟩ := hok
 have hk := E.kgood (t,sh) (by simpa using h3)
 simp only [qev] at h
 split at h
 ·rename_i l hx
  split at h
  ·rename_i m hy
   split at h
   ·rename_i hs1
    split at h
    ·rename_i hs2
     cases h
     have va := ev_as F L h1 hx
     have vb := ev_as F L h2 hy
     have sa : Shaped (.cells sh) (b.eval x') := keyShaped_sound (ks := .cells sh) (v := .agg l) hs1 va
     have sb : Shaped (.cells sh) (b.eval y') := keyShaped_sound (ks := .cells sh) (v := .agg m) hs2 vb
     have hke := keyEq_sound (ks := .cells sh) (a := .agg l) (b := .agg m) hs1 hs2 va vb
     obtain ⟨c,hc,_⟩ := va.of_agg
     obtain ⟨c',hc',_⟩ := vb.of_agg
     obtain ⟨r,hr,hiff⟩ := hk.eq w _ _ sa sb
     have e : r = inteq l m := by
      have h5 : (inteq l m = true ↔ r = true) := (hke.1.trans hke.2).trans hiff.symm
      cases r <;> cases hh : inteq l m <;> simp_all
     subst e
     refine ⟨_,exeq ho ?_ ?_ hr,.bool _⟩
     ·rw [hc]; exact ⟨(fun _ _ e => by cases e),(fun _ e => by cases e),(fun _ _ e => by cases e),(fun _ _ _ e => by cases e)⟩
     ·rw [hc,hc']
      unfold eqGuard
      have := eqOp_inv ho
      cases ne <;> simp only [if_true,Bool.false_eq_true,if_false] at this <;> subst this <;> simp [program,Sem.run,hk.guard]
    ·cases h
   ·cases h
  ·cases h
 ·cases h
theorem eqPtr_sound {ι : Nm} {σ : St} {w : World} (R : Rep ι σ w) {p q : Pos} {o o' : Nat} {r : Bool} (h : eqPtr σ p o q o' = some r) {pl pq : Pl} (hp : ι p = some pl) (hq : ι q = some pq) :
  (sameAddr ⟨pl.blk,pl.st + o,none⟩ ⟨pq.blk,pq.st + o',none⟩).run P w = .ok r w := by
 simp only [eqPtr,Pos.beq_eq] at h
 split at h
 ·rename_i he
  have he : p = q := of_decide_eq_true he
  subst he
  rw [hp] at hq; cases hq
  simp only [Option.some.injEq] at h
  subst h
  rw [nbeq_eq]
  by_cases e : o = o'
  ·subst e; rw [run_sameAddr_same]; simp
  ·simp [sameAddr,e]
 ·rename_i he
  have he : p ≠ q := of_decide_eq_false he
  split at h
  ·rename_i l1 fz1 ro1 hg1
   split at h
   ·rename_i l2 fz2 ro2 hg2
    split at h
    case h_2 => cases h
    rename_i hlt
    cases h
    simp only [Bool.and_eq_true,blt_eq,decide_eq_true_eq,llen_eq] at hlt
    obtain ⟨pl1,c1,e1,a1,a2,a3,a4,_⟩ := R.ob p _ hg1
    obtain ⟨pl2,c2,e2,b1,b2,b3,b4,_⟩ := R.ob q _ hg2
    rw [hp] at a1; cases a1
    rw [hq] at b1; cases b1
    have hne : (⟨pl.blk,pl.st + o,none⟩ : Addr) ≠ ⟨pq.blk,pq.st + o',none⟩ := fun e => by
     have e1 : pl.blk = pq.blk := congrArg Addr.block e
     have e2 : pl.st + o = pq.st + o' := congrArg Addr.off e
     rcases R.sep2 p _ q _ pl pq hg1 rfl hg2 rfl hp hq e1 (fun e => he e.symm) with h5 | h5 | h5
     ·cases h5
     ·cases h5
     ·have h6 := h5.2.2
      simp only [Ob.len] at h6
      omega
    exact run_sameAddr_other w hne a3 b3
   ·cases h
  ·cases h
theorem VR.nilp_inv {ι : Nm} {y : Value} (h : VR ι .nilp y) : y = .pointer none := by cases h; rfl
theorem VR.nils_inv {ι : Nm} {y : Value} (h : VR ι .nils y) : y = .slice none 0 0 := by cases h; rfl
theorem VR.nilm_inv {ι : Nm} {y : Value} (h : VR ι .nilm y) : y = .map none := by cases h; rfl
theorem VR.nilf_inv {ι : Nm} {y : Value} (h : VR ι .nilf y) : y = .nilFunc := by cases h; rfl
theorem VR.nili_inv {ι : Nm} {y : Value} (h : VR ι .nili y) : y = .nilIface := by cases h; rfl
theorem VR.fn_inv {ι : Nm} {f : Nat} {x z : List V} {y : Value} (h : VR ι (.fn f x z) y) : ∃ a b,y = .func (.func f) a b ∧ VRs ι x a.toList ∧ VRs ι z b.toList := by
 cases h with
 | fn f x y x' y' hx hy h1 h2 => exact ⟨x',y',rfl,⟨by simpa using hx,fun i a b ha hb => h1 i a b ha (by simpa using hb)⟩,⟨by simpa using hy,fun i a b ha hb => h2 i a b ha (by simpa using hb)⟩⟩
theorem nk_ptr {t : Nat} {a c : Arg} (h : nilKindB P .ptr t a c = true) : ∃ e,P.underlying t = some (.pointer e) ∧ nzB P e = true := by
 unfold nilKindB at h
 cases hu : P.underlying t with
 | none => simp [hu] at h
 | some d => rw [hu] at h; cases d <;> first | exact ⟨_,rfl,h⟩ | (simp at h; done)
theorem nk_slice {t : Nat} {a c : Arg} (h : nilKindB P .slice t a c = true) : ∃ e,P.underlying t = some (.slice e) := by
 unfold nilKindB at h
 cases hu : P.underlying t with
 | none => simp [hu] at h
 | some d => rw [hu] at h; cases d <;> first | exact ⟨_,rfl⟩ | (simp at h; done)
theorem nk_map {t : Nat} {a c : Arg} (h : nilKindB P .map t a c = true) : ∃ e f,P.underlying t = some (.map e f) := by
 unfold nilKindB at h
 cases hu : P.underlying t with
 | none => simp [hu] at h
 | some d => rw [hu] at h; cases d <;> first | exact ⟨_,_,rfl⟩ | (simp at h; done)
theorem nk_func {t : Nat} {a c : Arg} (h : nilKindB P .func t a c = true) : ∃ e f g,P.underlying t = some (.func e f g) := by
 unfold nilKindB at h
 cases hu : P.underlying t with
 | none => simp [hu] at h
 | some d => rw [hu] at h; cases d <;> first | exact ⟨_,_,_,rfl⟩ | (simp at h; done)
theorem nk_iface {t : Nat} {a c : Arg} {b : Bool} (h : nilKindB P (.iface b) t a c = true) : ∃ e,P.underlying t = some (.interface e) ∧ b = (isC a || isC c) := by
 unfold nilKindB at h
 cases hu : P.underlying t with
 | none => simp [hu] at h
 | some d => rw [hu] at h; cases d <;> first | exact ⟨_,rfl,by simpa using h⟩ | (simp at h; done)
set_option maxHeartbeats 2000000 in
theorem eqp_sound {ι : Nm} {σ : St} {w : World} (R : Rep ι σ w) {kd : NK} {x y : V} {r : Bool} (h : eqpV σ E.pt kd x y = some r) {t : Nat} {a c : Arg} (hk : nilKindB P kd t a c = true) {x' y' : Value} (vx : VR ι x x') (vy : VR ι y y') :
  (Op.equal t x' y').run P w = .ok r w := by
 have top : (∀ d : Nat,(Op.equalIn (d + 2) t x' y').run P w = .ok r w) → (Op.equal t x' y').run P w = .ok r w := fun hd => hd 9998
 refine top fun d => ?_
 clear top
 cases kd with
 | ptr =>
  obtain ⟨e,hu,hk⟩ := nk_ptr hk
  simp only [eqpV] at h
  split at h
  ·have := vx.nilp_inv; subst this
   split at h
   ·have := vy.nilp_inv; subst this
    cases h; simp [Op.equalIn,run_underlying hu]
   ·obtain ⟨pl,_,_,rfl⟩ := vy.ptr_inv
    cases h; simp [Op.equalIn,run_underlying hu]
   ·cases h
  ·obtain ⟨pl,k1,k2,rfl⟩ := vx.ptr_inv
   split at h
   ·have := vy.nilp_inv; subst this
    cases h; simp [Op.equalIn,run_underlying hu]
   ·obtain ⟨pq,k3,k4,rfl⟩ := vy.ptr_inv
    have hs := eqPtr_sound (P := P) R h k1 k3
    unfold nzB at hk
    split at hk
    ·rename_i i hi
     have hne : i.size ≠ 0 := by simpa using hk
     simp [Op.equalIn,run_underlying hu,Go.sizeOf,typeInfo,hi,hne,hs]
    ·cases hk
   ·cases h
  ·cases h
 | slice =>
  obtain ⟨e,hu⟩ := nk_slice hk
  simp only [eqpV] at h
  split at h
  ·have := vx.nils_inv; subst this
   split at h
   ·have := vy.nils_inv; subst this
    cases h; simp [Op.equalIn,run_underlying hu]
   ·obtain ⟨pl,aa,cc,_,_,_,_,_,_,rfl⟩ := vy.slice_inv
    cases h; simp [Op.equalIn,run_underlying hu]
   ·cases h
  ·obtain ⟨pl,aa,cc,_,_,_,_,_,_,rfl⟩ := vx.slice_inv
   split at h
   ·have := vy.nils_inv; subst this
    cases h; simp [Op.equalIn,run_underlying hu]
   ·cases h
  ·cases h
 | map =>
  obtain ⟨e,e2,hu⟩ := nk_map hk
  simp only [eqpV] at h
  split at h
  ·have := vx.nilm_inv; subst this
   split at h
   ·have := vy.nilm_inv; subst this
    cases h; simp [Op.equalIn,run_underlying hu]
   ·obtain ⟨pl,_,_,rfl⟩ := vy.map_inv
    cases h; simp [Op.equalIn,run_underlying hu]
   ·cases h
  ·obtain ⟨pl,_,_,rfl⟩ := vx.map_inv
   split at h
   ·have := vy.nilm_inv; subst this
    cases h; simp [Op.equalIn,run_underlying hu]
   ·cases h
  ·cases h
 | func =>
  obtain ⟨e,e2,e3,hu⟩ := nk_func hk
  simp only [eqpV] at h
  split at h
  ·have := vx.nilf_inv; subst this
   split at h
   ·have := vy.nilf_inv; subst this
    cases h; simp [Op.equalIn,run_underlying hu]
   ·obtain ⟨a1,b1,rfl,_⟩ := vy.fn_inv
    cases h; simp [Op.equalIn,run_underlying hu]
   ·cases h
  ·obtain ⟨a1,b1,rfl,_⟩ := vx.fn_inv
   split at h
   ·have := vy.nilf_inv; subst this
    cases h; simp [Op.equalIn,run_underlying hu]
   ·cases h
  ·cases h
 | iface cc =>
  obtain ⟨e,hu,hcc⟩ := nk_iface hk
  simp only [eqpV] at h
  split at h
  ·have := vx.nili_inv; subst this
   split at h
   ·have := vy.nili_inv; subst this
    cases cc <;> cases h
    simp [Op.equalIn,run_underlying hu]
   ·obtain ⟨a1,_,rfl⟩ := vy.iface_inv
    cases h; simp [Op.equalIn,run_underlying hu]
   ·cases h
  ·rename_i tx vv
   obtain ⟨a1,va,rfl⟩ := vx.iface_inv
   split at h
   ·have := vy.nili_inv; subst this
    cases h; simp [Op.equalIn,run_underlying hu]
   ·rename_i ty uu
    obtain ⟨a2,vb,rfl⟩ := vy.iface_inv
    split at h
    ·rename_i hne
     have hne : tx ≠ ty := fun e => by subst e; simp at hne
     cases h; simp [Op.equalIn,run_underlying hu,hne]
    ·rename_i heq
     have heq : tx = ty := Nat.eq_of_beq_eq_true heq
     subst heq
     split at h
     ·cases h
     ·rename_i hl
      rw [lall_eq] at hl
      have hm : tx ∈ E.pt := by
       apply Classical.byContradiction
       intro hn
       have : E.pt.all (fun z => !(Nat.beq z tx)) = true := by
        rw [List.all_eq_true]
        intro z hz
        have : z ≠ tx := fun e => hn (e ▸ hz)
        simp [nbeq_eq,this]
       rw [this] at hl; cases hl
      obtain ⟨te,i,j,g1,g2,g3,g4,g5⟩ := (E.pgood tx hm).ok
      split at h
      ·split at h
       ·obtain ⟨pl,k1,k2,rfl⟩ := va.ptr_inv
        obtain ⟨pq,k3,k4,rfl⟩ := vb.ptr_inv
        have hs := eqPtr_sound (P := P) R h k1 k3
        simp [Op.equalIn,run_underlying hu,run_underlying g1,typeInfo,g2,g3,Go.sizeOf,g4,g5,hs]
       ·cases h
      ·cases h
   ·cases h
  ·cases h
theorem isC_sound {a : Act} {ng : GS} {x : Arg} {o : Operand} (h : okA ng x o = true) (hc : isC x = true) : ∃ v,o = .const v := by
 cases x <;> simp [isC] at hc
 cases o <;> simp [okA] at h
 exact ⟨_,rfl⟩
theorem q_eqp (kd : NK) (ne : Bool) (x y : Arg) : QSound E (.eqp kd ne x y) := by
 intro n ι A b σ w o v F L R hok h
 obtain ⟨d,op',ty,pos,af,g⟩ := o
 cases op' <;> simp only [okQ,Bool.false_eq_true,Bool.and_eq_true] at hok
 rename_i op' t x' y' t'
 obtain ⟨⟨⟨ho,h1⟩,h2⟩,h3⟩ := hok
 simp only [qev] at h
 split at h
 ·rename_i r hr
  cases h
  have va := ev_sound F L h1
  have vb := ev_sound F L h2
  have he := eqp_sound R hr h3 va vb
  have hkinds : (∀ k n,b.eval x' ≠ .int k n) ∧ (∀ s,b.eval x' ≠ .string s) ∧ (∀ k n,b.eval x' ≠ .float k n) ∧ (∀ k n m,b.eval x' ≠ .complex k n m) ∧ (∀ c,b.eval x' ≠ .agg c) := by
   generalize b.eval x' = zz at va
   generalize ev A x = xv at va hr
   generalize ev A y = yv at hr
   cases va
   case bool => exfalso; revert hr; cases kd <;> simp [eqpV]
   case int => exfalso; revert hr; cases kd <;> simp [eqpV]
   case str => exfalso; revert hr; cases kd <;> simp [eqpV]
   case agg => exfalso; revert hr; cases kd <;> simp [eqpV]
   case u => exfalso; revert hr; cases kd <;> simp [eqpV]
   case tup => exfalso; revert hr; cases kd <;> simp [eqpV]
   case itr => exfalso; revert hr; cases kd <;> simp [eqpV]
   all_goals exact ⟨(fun _ _ e => by cases e),(fun _ e => by cases e),(fun _ _ e => by cases e),(fun _ _ _ e => by cases e),(fun _ e => by cases e)⟩
  obtain ⟨n1,n2,n3,n4,n5⟩ := hkinds
  refine ⟨_,exeq ho ⟨n1,n2,n3,n4⟩ ?_ he,.bool _⟩
  cases kd with
  | iface cc =>
   obtain ⟨e,hu,hcc⟩ := nk_iface h3
   have hboth : b.eval x' = .nilIface → b.eval y' = .nilIface → (∃ v,x' = .const v) ∨ ∃ v,y' = .const v := by
    intro e1 e2
    cases cc with
    | false =>
     exfalso
     rw [e1] at va
     rw [e2] at vb
     generalize ev A x = xv at va hr
     generalize ev A y = yv at vb hr
     cases va <;> cases vb <;> simp [eqpV] at hr
    | true =>
     rcases Bool.or_eq_true_iff.1 hcc.symm with hh | hh
     ·exact Or.inl (isC_sound (a := b) h1 hh)
     ·exact Or.inr (isC_sound (a := b) h2 hh)
   generalize hx' : b.eval x' = xx at *
   generalize hy' : b.eval y' = yy at *
   unfold eqGuard
   have := eqOp_inv ho
   cases ne <;> simp only [if_true,Bool.false_eq_true,if_false] at this <;> subst this
   all_goals
    simp only [Bool.not_true,Bool.false_eq_true,if_false]
    split
    ·rcases hboth rfl rfl with ⟨v,rfl⟩ | ⟨v,rfl⟩ <;> simp
    ·exact absurd rfl (n5 _)
    ·rfl
  | _ =>
   refine guard_ok ⟨fun c d e _ => n5 c e,fun e1 e2 => ?_⟩
   rw [e1] at va
   generalize ev A x = xv at va hr
   cases va <;> simp [eqpV] at hr
 ·cases h
end
end Go.Proofs.YtldidldbhngmnaaGreatDoor
namespace Go.Proofs.YtldidldbhngmnaaGreatDoor
open Go
theorem mfind_eq (k : V) (es : List ME) : mfind k es = es.find? (fun e => keyEq k e.k) := by
 induction es with
 | nil => rfl
 | cons e es ih =>
  have : mfind k (e :: es) = match keyEq k e.k with | true => some e | false => mfind k es := rfl
  rw [this,List.find?_cons,ih]
  cases keyEq k e.k <;> rfl
structure MapR (ι : Nm) (ks : KSh) (es : List ME) (es' : Array MapEntry) : Prop where
 len : es.length = es'.size
 rel : ∀ (i : Nat) x y,es[i]? = some x → es'[i]? = some y → MER ι x y
 sh : ∀ (i : Nat) x,es[i]? = some x → keyShaped ks x.k = true
 inj : ∀ (i j : Nat) x y,es[i]? = some x → es[j]? = some y → x.k = y.k → i = j
theorem MapR.shaped {ι : Nm} {ks : KSh} {es : List ME} {es' : Array MapEntry} (M : MapR ι ks es es') : ∀ e ∈ es'.toList,Shaped ks e.key := by
 intro e he
 obtain ⟨i,hi⟩ := List.getElem?_of_mem he
 have hlt : i < es.length := by
  have := (List.getElem?_eq_some_iff.1 hi).1
  rw [M.len]; simpa using this
 have h1 : es[i]? = some es[i] := by simp
 exact keyShaped_sound (M.sh i _ h1) (M.rel i _ e h1 (by simpa using hi)).1
theorem MapR.find {P : Program} {ι : Nm} {ks : KSh} {kt : Nat} {es : List ME} {es' : Array MapEntry} (M : MapR ι ks es es') (K : MapK P kt ks) {k : V} {k' : Value} (hk : keyShaped ks k = true) (vk : VR ι k k') (w : World) :
  (mfind k es = none ∧ (Instr.findKey kt k' es'.toList).run P w = .ok none w ∧ ∀ e ∈ es,e.k ≠ k) ∨
  ∃ i e e',mfind k es = some e ∧ es[i]? = some e ∧ es'[i]? = some e' ∧ e.k = k ∧ e'.key = k' ∧ (Instr.findKey kt k' es'.toList).run P w = .ok (some (i,e'.val)) w := by
 have key : ∀ (i : Nat) e e',es[i]? = some e → es'[i]? = some e' → (keyEq k e.k = true ↔ k = e.k) ∧ (k = e.k ↔ k' = e'.key) := fun i e e' h1 h2 =>
  keyEq_sound hk (M.sh i e h1) vk (M.rel i e e' h1 h2).1
 have other : ∀ (i : Nat) e,es[i]? = some e → ∃ e',es'[i]? = some e' := fun i e h => by
  have : i < es.length := (List.getElem?_eq_some_iff.1 h).1
  exact ⟨es'[i]'(by rw [← M.len]; exact this),by simp [← M.len,this]⟩
 rw [mfind_eq]
 rcases K.find w k' es'.toList (keyShaped_sound hk vk) M.shaped with ⟨h1,h2⟩ | ⟨j,e',h1,h2,h3⟩
 ·left
  have hno : ∀ e ∈ es,¬ k = e.k := by
   intro e he hke
   obtain ⟨i,hi⟩ := List.getElem?_of_mem he
   obtain ⟨e',hi'⟩ := other i e hi
   exact h2 e' (List.mem_of_getElem? (by simpa using hi')) (((key i e e' hi hi').2.1 hke).symm)
  refine ⟨?_,h1,fun e he h => hno e he h.symm⟩
  rw [List.find?_eq_none]
  intro e he
  obtain ⟨i,hi⟩ := List.getElem?_of_mem he
  obtain ⟨e',hi'⟩ := other i e hi
  intro hq
  exact hno e he ((key i e e' hi hi').1.1 hq)
 ·right
  have hj' : es'[j]? = some e' := by simpa using h2
  have hlt : j < es.length := by
   have := (Array.getElem?_eq_some_iff.1 hj').1
   rw [M.len]; exact this
  have hj : es[j]? = some es[j] := by simp
  have hke : k = es[j].k := ((key j _ e' hj hj').2).2 h3.symm
  have hq : keyEq k es[j].k = true := ((key j _ e' hj hj').1).2 hke
  cases hf : es.find? (fun e => keyEq k e.k) with
  | none =>
   rw [List.find?_eq_none] at hf
   exact absurd hq (hf _ (List.getElem_mem hlt))
  | some e0 =>
   have h4 := List.find?_some hf
   obtain ⟨i0,hi0⟩ := List.getElem?_of_mem (List.mem_of_find?_eq_some hf)
   obtain ⟨e0',hi0'⟩ := other i0 e0 hi0
   have hk0 : k = e0.k := (key i0 e0 e0' hi0 hi0').1.1 h4
   have := M.inj i0 j e0 _ hi0 hj (hk0.symm.trans hke)
   subst this
   have he0 : e0 = es[i0] := by rw [hj] at hi0; exact (Option.some.inj hi0).symm
   subst he0
   exact ⟨i0,_,e',rfl,hj,hj',hke.symm,h3,h1⟩
section
variable {P : Program} {E : Env P}
theorem isMapB_inv {t : Nat} {kt : List (Nat × KSh)} {ks : KSh} {z : V} (h : isMapB P t kt ks z = true) : ∃ k e,P.underlying t = some (.map k e) ∧ (k,ks) ∈ kt ∧ zeroV P e z = true := by
 unfold isMapB at h
 split at h
 ·simp only [Bool.and_eq_true] at h
  exact ⟨_,_,by assumption,by simpa using h.1,h.2⟩
 ·cases h
theorem q_lkp (m k : Arg) (ks : KSh) (z : V) (ok : Bool) : QSound E (.lkp m k ks z ok) := by
 intro n ι A b σ w o v F L R hok h
 obtain ⟨d,op,ty,pos,af,g⟩ := o
 cases op <;> simp only [okQ,Bool.false_eq_true,Bool.and_eq_true,beq_iff_eq] at hok
 rename_i t m' k' ok'
 obtain ⟨⟨⟨rfl,h1⟩,h2⟩,h3⟩ := hok
 obtain ⟨kt,et,hu,hm,hz⟩ := isMapB_inv h3
 obtain ⟨zv,hzr,hzv⟩ := zeroV_inv hz
 have K := E.mgood _ hm
 simp only [qev] at h
 split at h
 ·rename_i hsh
  have vk := ev_sound F L h2
  have hchk := K.check w
  split at h
  ·rename_i hx
   have k2 := (ev_as F L h1 hx).nilm_inv
   cases h
   refine ⟨if ok then .tuple #[zv,.bool false] else zv,exv rfl (s := Instr.lookup t (b.eval m') (b.eval k') ok) ?_,?_⟩
   ·have hf : (Instr.findKey kt (b.eval k') []).run P w = .ok none w := by
     rcases K.find w (b.eval k') [] (keyShaped_sound hsh vk) (fun e he => by cases he) with ⟨h5,_⟩ | ⟨j,e,_,h6,_⟩
     ·exact h5
     ·simp at h6
    simp [Instr.lookup,run_underlying hu,k2,hchk true _ (keyShaped_sound hsh vk),hf,hzr]
   ·cases ok
    ·exact hzv ι
    ·exact .mk_tup (.cons (hzv ι) (.cons (.bool _) .nil))
  ·rename_i p hx
   obtain ⟨pl,k1,k2,k3⟩ := (ev_as F L h1 hx).map_inv
   split at h
   ·rename_i es ck ks' hg
    split at h
    ·rename_i hks
     have hks : ks' = ks := of_decide_eq_true hks
     subst hks
     cases h
     obtain ⟨pl',es',j1,j2,j3,j4,j5,j6,j7⟩ := R.ob p _ hg
     rw [k1] at j1; cases j1
     have M : MapR ι ks' es es' := ⟨j4,j5,j6,j7⟩
     have hget : (getObj pl.blk).run P w = .ok (.map es' ck) w := by simp [getObj,Sem.run,j3]
     rcases M.find K hsh vk w with ⟨h5,h6,_⟩ | ⟨i,e,e',h5,h6,h7,h8,h9,h10⟩
     ·rw [h5]
      refine ⟨if ok then .tuple #[zv,.bool false] else zv,exv rfl (s := Instr.lookup t (b.eval m') (b.eval k') ok) ?_,?_⟩
      ·simp [Instr.lookup,run_underlying hu,k3,hget,hchk _ _ (keyShaped_sound hsh vk),h6,hzr]
      ·cases ok
       ·exact hzv ι
       ·exact .mk_tup (.cons (hzv ι) (.cons (.bool _) .nil))
     ·rw [h5]
      have hv := (M.rel i e e' h6 h7).2.1
      refine ⟨if ok then .tuple #[e'.val,.bool true] else e'.val,exv rfl (s := Instr.lookup t (b.eval m') (b.eval k') ok) ?_,?_⟩
      ·simp [Instr.lookup,run_underlying hu,k3,hget,hchk _ _ (keyShaped_sound hsh vk),h10]
      ·cases ok
       ·exact hv
       ·exact .mk_tup (.cons hv (.cons (.bool _) .nil))
    ·cases h
   ·cases h
  ·cases h
 ·cases h
theorem fill_one (off : Nat) : ∀ (vs : List Value) (n : Nat) (cells : Array Value) (i : Nat),off + n + vs.length ≤ cells.size →
  ((vs.zipIdx n).foldl (fun (cs : Array Value) (x : Value × Nat) => cs.setIfInBounds (off + x.2) x.1) cells)[i]? = if off + n ≤ i ∧ i < off + n + vs.length then vs[i - (off + n)]? else cells[i]?
 | [],n,cells,i,h => by
  simp; omega
 | v :: vs,n,cells,i,h => by
  simp only [List.zipIdx_cons,List.foldl_cons]
  rw [fill_one off vs (n + 1) _ i (by simp at h ⊢; omega)]
  simp only [List.length_cons] at h ⊢
  by_cases h1 : i = off + n
  ·subst h1
   rw [if_neg (by omega),if_pos (by omega)]
   simp [show off + n < cells.size by omega]
  ·by_cases h2 : off + (n + 1) ≤ i ∧ i < off + (n + 1) + vs.length
   ·rw [if_pos h2,if_pos (by omega)]
    have : i - (off + n) = (i - (off + (n + 1))) + 1 := by omega
    rw [this]
    simp
   ·rw [if_neg h2,if_neg (by omega)]
    rw [Array.getElem?_setIfInBounds_ne (by omega)]
theorem VRs.splice {ι : Nm} {z l : List V} {c : List Value} {vs : List Value} {off : Nat} (hz : VRs ι z c) (hl : VRs ι l vs) (ho : off + l.length ≤ z.length) {c' : Array Value}
  (hc : ∀ i : Nat,c'[i]? = if off ≤ i ∧ i < off + vs.length then vs[i - off]? else c[i]?) : VRs ι (lsplice z off l) c'.toList := by
 have e : lsplice z off l = z.take off ++ (l ++ z.drop (off + l.length)) := by
  simp only [lsplice,lapp_eq,ltake_eq,ldrop_eq,llen_eq]; rfl
 rw [e]
 have hc2 : c'.toList = c.take off ++ (vs ++ c.drop (off + vs.length)) := by
  have h1 := hz.1
  have h2 := hl.1
  apply List.ext_getElem?
  intro i
  rw [Array.getElem?_toList,hc]
  by_cases a : i < off
  ·rw [if_neg (by omega),List.getElem?_append_left (by simp; omega),List.getElem?_take,if_pos a]
  ·rw [List.getElem?_append_right (by simp; omega)]
   have hm : (c.take off).length = off := by simp; omega
   rw [hm]
   by_cases b : i < off + vs.length
   ·rw [if_pos (by omega),List.getElem?_append_left (by omega)]
   ·rw [if_neg (by omega),List.getElem?_append_right (by omega),List.getElem?_drop]
    congr 1; omega
 rw [hc2]
 have h2 := hl.1
 refine (hz.take off).append (hl.append ?_)
 rw [h2]
 exact hz.drop _
theorem fill_sound {ng : GS} {n : Nat} {ds : List Deferred} {ι : Nm} {A : T V} {a : Act} (F : FR n ds ι A a) (L : Gl ng ι) {t : Nat} (place : Nat → Option (Nat × Nat)) :
  ∀ (ps : List (Nat × Nat × Arg)) (qs : List (Nat × Operand)) (z l : List V) (cells : Array Value),placesB P ng t ps qs = true → (∀ (i off sz : Nat),placeB P t i off sz = true → place i = some (off,sz)) →
   bldF A ps z = some l → VRs ι z cells.toList → ∃ c,Instr.fill place cells (qs.map fun x => (x.1,a.eval x.2)) = some c ∧ VRs ι l c.toList
 | [],[],z,l,cells,_,_,h,hz => by
  have : l = z := by
   have e : bldF A [] z = some z := rfl
   rw [e] at h; exact (Option.some.inj h).symm
  subst this
  exact ⟨cells,rfl,hz⟩
 | [],_ :: _,_,_,_,h,_,_,_ => by simp [placesB] at h
 | _ :: _,[],_,_,_,h,_,_,_ => by simp [placesB] at h
 | (off,sz,x) :: ps,(i,o) :: qs,z,l,cells,hok,hp,h,hz => by
  simp only [placesB,Bool.and_eq_true] at hok
  obtain ⟨⟨h1,h2⟩,h3⟩ := hok
  have e : bldF A ((off,sz,x) :: ps) z = match flat (ev A x) with
   | none => none
   | some l => (match Nat.beq (llen l) sz && Nat.ble (Nat.add off sz) (llen z) with | true => bldF A ps (lsplice z off l) | false => none) := rfl
  rw [e] at h
  split at h
  ·cases h
  ·rename_i l1 hf
   have hv := flat_sound hf (ev_sound F L h2)
   split at h
   ·rename_i hb
    simp only [Bool.and_eq_true] at hb
    have hb1 : llen l1 = sz := Nat.eq_of_beq_eq_true hb.1
    have hb2 := ble_le hb.2
    rw [llen_eq] at hb1 hb2
    have hpl := hp i off sz h1
    have hvs : (a.eval o).cells.size = sz := by
     have := hv.1; simp at this; omega
    have hcs : cells.size = z.length := by have := hz.1; simp at this; omega
    have hle : off + sz ≤ z.length := hb2
    have hfill : ∀ j : Nat,((a.eval o).cells.zipIdx.foldl (fun (cs : Array Value) (x : Value × Nat) => cs.setIfInBounds (off + x.2) x.1) cells)[j]? = if off ≤ j ∧ j < off + (a.eval o).cells.toList.length then (a.eval o).cells.toList[j - off]? else cells.toList[j]? := by
     intro j
     rw [← Array.foldl_toList,Array.toList_zipIdx]
     have := fill_one off (a.eval o).cells.toList 0 cells j (by simp; omega)
     rw [Nat.add_zero] at this
     rw [this]
     simp
    have hz' := VRs.splice hz hv (by omega) hfill
    obtain ⟨c,k1,k2⟩ := fill_sound F L place ps qs _ l _ h3 hp h hz'
    refine ⟨c,?_,k2⟩
    simp only [List.map_cons,Instr.fill,hpl]
    rw [if_neg (by simp [hvs]; omega)]
    exact k1
   ·cases h
theorem q_bld (z : List V) (ps : List (Nat × Nat × Arg)) : QSound E (.bld z ps) := by
 intro n ι A b σ w o v F L R hok h
 obtain ⟨d,op,ty,pos,af,g⟩ := o
 cases op <;> simp only [okQ,Bool.false_eq_true,Bool.and_eq_true] at hok
 rename_i t parts
 obtain ⟨⟨h1,h0⟩,h2⟩ := hok
 simp only [qev] at h
 split at h
 ·rename_i l hl
  cases h
  have hmap : (parts.map fun x => (x.1,b.eval x.2)).toList = parts.toList.map fun x => (x.1,b.eval x.2) := by simp
  unfold zeroB at h1
  split at h1
  ·rename_i it hit
   split at h1
   ·rename_i zv hz
    have hzv : VRs ι z zv.cells.toList := csts_sound (fun l x hx y hy => cst_sound x y hy) _ _ h1
    unfold builtOk at h0
    split at h0
    ·rename_i m e hu
     obtain ⟨ie,hie⟩ := Option.isSome_iff_exists.1 h0
     obtain ⟨c,k1,k2⟩ := fill_sound F L (fun i => some (i * ie.size,ie.size)) ps parts.toList z l zv.cells h2 (fun i off sz hp => by
      simp only [placeB,hu,szB,hie,Bool.and_eq_true,beq_iff_eq] at hp
      obtain ⟨rfl,rfl⟩ := hp
      rfl) hl hzv
     refine ⟨.agg c,exv rfl (s := Instr.build t (parts.map fun (i,x) => (i,b.eval x))) (run_build w t _ c ?_),.mk_agg k2⟩
     unfold Program.built
     simp only [hit,hu,hz,hie,hmap]
     exact k1
    ·rename_i fs hu
     obtain ⟨places,hp⟩ := Option.isSome_iff_exists.1 h0
     have hget := mapM_some_get hp
     obtain ⟨c,k1,k2⟩ := fill_sound F L (places.toArray[·]?) ps parts.toList z l zv.cells h2 (fun i off sz hpl => by
      simp only [placeB,hu] at hpl
      split at hpl
      ·rename_i f hf
       simp only [Bool.and_eq_true,beq_iff_eq,szB] at hpl
       obtain ⟨h5,h6⟩ := hpl
       split at h6
       ·rename_i fi hfi
        have h6 : fi.size = sz := by simpa using h6
        have := hget i f (by simpa using hf)
        rw [hfi] at this
        simp only [Option.map_some] at this
        rw [List.getElem?_toArray,← this,h5,h6]
       ·cases h6
      ·cases hpl) hl hzv
     refine ⟨.agg c,exv rfl (s := Instr.build t (parts.map fun (i,x) => (i,b.eval x))) (run_build w t _ c ?_),.mk_agg k2⟩
     unfold Program.built
     simp only [hit,hu,hz,hp,hmap]
     exact k1
    ·cases h0
   ·cases h1
  ·cases h1
 ·cases h
theorem q_sound (q : QOp) : QSound E q := by
 cases q with
 | mv a => exact q_mv a
 | pick c a b => exact q_pick c a b
 | bld z ps => exact q_bld z ps
 | fadr a off => exact q_fadr a off
 | fld a off n ag => exact q_fld a off n ag
 | iadr a i esz => exact q_iadr a i esz
 | iada a i esz n => exact q_iada a i esz n
 | idxa a i esz n ag => exact q_idxa a i esz n ag
 | idxs a i => exact q_idxs a i
 | nck a => exact q_nck a
 | bin op a c => exact q_bin op a c
 | shf l a c => exact q_shf l a c
 | cmpb ne a c => exact q_cmpb ne a c
 | cmps op a c => exact q_cmps op a c
 | eqp kd ne a c => exact q_eqp kd ne a c
 | eqa ne sh a c => exact q_eqa ne sh a c
 | not a => exact q_not a
 | neg a => exact q_neg a
 | inv a => exact q_inv a
 | cvi k a => exact q_cvi k a
 | cvid a => exact q_cvid a
 | mki t a => exact q_mki t a
 | mkf f xs ys => exact q_mkf f xs ys
 | tas a t z ok => exact q_tas a t z ok
 | tai a ts ok => exact q_tai a ts ok
 | ext a i => exact q_ext a i
 | lenv a => exact q_lenv a
 | lens a => exact q_lens a
 | lenc n => exact q_lenc n
 | slc a lo hi esz => exact q_slc a lo hi esz
 | slca a lo hi esz n => exact q_slca a lo hi esz n
 | slcs a lo hi => exact q_slcs a lo hi
 | mnx mx a c => exact q_mnx mx a c
 | ld1 a => exact q_ld1 a
 | ldn a n => exact q_ldn a n
 | lkp m k ks z ok => exact q_lkp m k ks z ok
 | lenm m => exact q_lenm m
 | wts g => exact q_wts g
end
end Go.Proofs.YtldidldbhngmnaaGreatDoor
namespace Go.Proofs.YtldidldbhngmnaaGreatDoor
open Go
inductive EOp where
 | st (a x : Arg) (n : Nat)
 | alo (z : List V)
 | box (a : Arg) (n : Nat)
 | bsl (z : List V) (ps : List (Nat × Nat × Arg)) (len esz : Nat)
 | mkm (ks : KSh)
 | mks (len cap : Arg) (z : List V) (esz bts : Nat)
 | app (s x : Arg) (esz bts : Nat) (str : Bool)
 | cpy (d s : Arg) (esz : Nat)
 | clr (s : Arg) (z : List V) (esz : Nat)
 | mup (m k v : Arg) (ks : KSh)
 | mdl (m k : Arg) (ks : KSh)
 | men (m k : Arg) (ks : KSh) (z : V)
 | mes (m s v : Arg)
 | rgm (m : Arg)
 | nxm (m : Arg)
 | ent (m : Arg)
 | prd (a : Arg)
 | pin (m k v : Arg) (ks : KSh)
def plainV (v : V) : Bool := match v with | .u => false | .agg _ => false | .tup _ => false | _ => true
noncomputable def lput (l : List V) (o : Nat) (vs : List V) : List V := match vs with | [] => l | v :: r => (match r with | [] => lset v l o | _ :: _ => lsplice l o vs)
def nameOf (σ : St) (nm : Option Pos) : Pos := match nm with | none => σ.nx | some p => p
noncomputable def nextOf (σ : St) (nm : Option Pos) : Pos := match nm with | none => σ.nx.succ | some _ => σ.nx
noncomputable def newB (σ : St) (nm : Option Pos) (ob : Ob) : St := ⟨T.set ob (nameOf σ nm) σ.h,nextOf σ nm⟩
noncomputable def lrep (z : List V) (n : Nat) : List V := Nat.rec (motive := fun _ => List V) [] (fun _ ih => lapp z ih) n
noncomputable def mset (k v : V) (es : List ME) : List ME := List.rec (motive := fun _ => List ME) [] (fun e es ih => match keyEq k e.k with | true => ⟨e.k,v,e.b⟩ :: es | false => e :: ih) es
noncomputable def mrem (k : V) (es : List ME) : List ME := List.rec (motive := fun _ => List ME) [] (fun e es ih => match keyEq k e.k with | true => es | false => e :: ih) es
noncomputable def lhas (n : Nat) (l : List Nat) : Bool := List.rec (motive := fun _ => Bool) false (fun x _ ih => match Nat.beq x n with | true => true | false => ih) l
noncomputable def lleft (seen : List Nat) (es : List ME) : List ME := List.rec (motive := fun _ => List ME) [] (fun e _ ih => match lhas e.b seen with | true => ih | false => e :: ih) es
noncomputable def llast (l : List Nat) : Option Nat := List.rec (motive := fun _ => Option Nat) none (fun x _ ih => match ih with | none => some x | some y => some y) l
noncomputable def bfind (b : Nat) (es : List ME) : Option ME := List.rec (motive := fun _ => Option ME) none (fun e _ ih => match Nat.beq e.b b with | true => some e | false => ih) es
noncomputable def bset (b : Nat) (v : V) (es : List ME) : Option (List ME) := List.rec (motive := fun _ => Option (List ME)) none (fun e es ih => match Nat.beq e.b b with | true => some (⟨e.k,v,e.b⟩ :: es) | false => (match ih with | some r => some (e :: r) | none => none)) es
noncomputable def stepB (last : Nat) (seen : List Nat) (es : List ME) : Bool := match seen with | [] => true | _ :: _ => (match es with | [] => true | _ :: _ => !lall (fun e => Nat.ble last e.b) es)
noncomputable def sliceCells (σ : St) (v : V) (esz : Nat) : Option (List V) := match v with
 | .nils => some []
 | .slice p o len _ es => (match Nat.beq es esz with
  | true => (match len with
   | 0 => some []
   | _ + 1 => (match T.get p σ.h with
    | some (.cells l _ _ _) => (match Nat.ble (Nat.add o (Nat.mul len esz)) (llen l) with | true => some (ltake (ldrop l o) (Nat.mul len esz)) | false => none)
    | _ => none))
  | false => none)
 | _ => none
noncomputable def srcCells (σ : St) (v : V) (esz : Nat) (str : Bool) : Option (Nat × List V) := match str with
 | false => (match sliceCells σ v esz with
  | none => none
  | some l => (match v with | .slice _ _ len _ _ => some (len,l) | _ => some (0,l)))
 | true => (match v with | .str l => (match esz with | 1 => some (llen l,lmap (fun b => V.int .u8 (.ofNat b)) l) | _ => none) | _ => none)
noncomputable def eev (e : EOp) (nm : Option Pos) (A : T V) (σ : St) : Option (V × St) := match e with
 | .st a x n => (match ev A a with
  | .ptr p o => (match flat (ev A x) with
   | some vs => (match lall plainV vs && Nat.beq (llen vs) n with
    | true => (match T.get p σ.h with
     | some (.cells l kin fz ro) => (match !fz && !ro && Nat.ble (Nat.add o n) (llen l) with
      | true => some (.u,⟨T.set (.cells (lput l o vs) [] false false) p (kill kin σ.h),σ.nx⟩)
      | false => none)
     | _ => none)
    | false => none)
   | none => none)
  | _ => none)
 | .alo z => some (.ptr (nameOf σ nm) 0,newB σ nm (.cells z [] false false))
 | .box a n => (match flat (ev A a) with
  | some l => (match Nat.beq (llen l) n with | true => some (.ptr (nameOf σ nm) 0,newB σ nm (.cells l [] false false)) | false => none)
  | none => none)
 | .bsl z ps len esz => (match bldF A ps z with
  | some l => some (.slice (nameOf σ nm) 0 len (some len) esz,newB σ nm (.cells l [] false false))
  | none => none)
 | .mkm ks => some (.map (nameOf σ nm),newB σ nm (.map [] 0 ks))
 | .mks len cap z esz bts => (match ev A len with
  | .int _ l => (match ev A cap with
   | .int _ c => (match natOf l with
    | some l => (match natOf c with
     | some c => (match Nat.ble l c && Nat.ble (Nat.mul c (Nat.add bts 1)) 1099511627776 with
      | true => some (.slice σ.nx 0 l (some c) esz,⟨T.set (.cells (lrep z c) [] false false) σ.nx σ.h,σ.nx.succ⟩)
      | false => none)
     | none => none)
    | none => none)
   | _ => none)
  | _ => none)
 | .app s x esz bts str => (match srcCells σ (ev A x) esz str with
  | some (n,news) => (match n with
   | 0 => (match ev A s with | .nils => some (.nils,σ) | .slice p o len cap es => (match Nat.beq es esz with | true => some (.slice p o len cap es,σ) | false => none) | _ => none)
   | _ + 1 => (match lall plainV news with
    | true => (match ev A s with
     | .nils => (match Nat.ble (Nat.mul n (Nat.add bts 1)) 1099511627776 with
      | true => some (.slice σ.nx 0 n none esz,⟨T.set (.cells news [] false false) σ.nx σ.h,σ.nx.succ⟩)
      | false => none)
     | .slice p o len cap es => (match Nat.beq es esz && Nat.ble (Nat.mul (Nat.add len n) (Nat.add bts 1)) 1099511627776 with
      | true => (match cap with
       | some c => (match Nat.ble (Nat.add len n) c with
        | true => (match T.get p σ.h with
         | some (.cells l kin fz ro) => (match !fz && !ro && Nat.ble (Nat.add o (Nat.mul (Nat.add len n) esz)) (llen l) with
          | true => some (.slice p o (Nat.add len n) (some c) esz,⟨T.set (.cells (lput l (Nat.add o (Nat.mul len esz)) news) [] false false) p (kill kin σ.h),σ.nx⟩)
          | false => none)
         | _ => none)
        | false => (match sliceCells σ (.slice p o len (some c) esz) esz with
         | some olds => some (.slice σ.nx 0 (Nat.add len n) none esz,⟨T.set (.cells (lapp olds news) [] false false) σ.nx σ.h,σ.nx.succ⟩)
         | none => none))
       | none => (match T.get p σ.h with
        | some (.cells l kin fz ro) => (match !fz && !ro && Nat.ble (Nat.add o (Nat.mul len esz)) (llen l) with
         | true => (match Nat.beq (Nat.add o (Nat.mul len esz)) (llen l) with
          | true => some (.slice σ.nx 0 (Nat.add len n) none esz,⟨T.set (.cells (lapp (ldrop l o) news) (p :: kin) false false) σ.nx (T.set (.cells l kin true false) p σ.h),σ.nx.succ⟩)
          | false => some (.slice σ.nx 0 (Nat.add len n) none esz,⟨T.set (.cells (lapp (ldrop (ltake l (Nat.add o (Nat.mul len esz))) o) news) [p] false false) σ.nx (T.set (.cells (ltake l (Nat.add o (Nat.mul len esz))) [] true false) p (kill kin σ.h)),σ.nx.succ⟩))
         | false => none)
        | _ => none))
      | false => none)
     | _ => none)
    | false => none))
  | none => none)
 | .cpy d s esz => (match sliceCells σ (ev A s) esz with
  | some src => (match ev A d with
   | .slice p o len cap es => (match Nat.beq es esz with
    | true => (match ltake src (Nat.mul len esz) with
     | [] => (match mkLen 0 with | some v => some (v,σ) | none => none)
     | x :: r => (match lall plainV (x :: r) with
      | true => (match T.get p σ.h with
       | some (.cells l kin fz ro) => (match !fz && !ro && Nat.ble (Nat.add o (llen (x :: r))) (llen l) with
        | true => (match ev A s with
         | .slice _ _ len2 _ _ => (match mkLen (Nat.min len2 len) with
          | some v => some (v,⟨T.set (.cells (lput l o (x :: r)) [] false false) p (kill kin σ.h),σ.nx⟩)
          | none => none)
         | _ => none)
        | false => none)
       | _ => none)
      | false => none))
    | false => none)
   | _ => none)
  | none => none)
 | .clr s z esz => (match ev A s with
  | .nils => some (.tup [],σ)
  | .slice p o len cap es => (match len with
   | 0 => some (.tup [],σ)
   | m + 1 => (match lall plainV (lrep z (Nat.add m 1)) with
    | true => (match T.get p σ.h with
     | some (.cells l kin fz ro) => (match !fz && !ro && Nat.ble (Nat.add o (llen (lrep z (Nat.add m 1)))) (llen l) with
      | true => some (.tup [],⟨T.set (.cells (lput l o (lrep z (Nat.add m 1))) [] false false) p (kill kin σ.h),σ.nx⟩)
      | false => none)
     | _ => none)
    | false => none))
  | _ => none)
 | .mup m k v ks => (match keyShaped ks (ev A k) with
  | true => (match ev A m with
   | .map p => (match T.get p σ.h with
    | some (.map es ck ks') => (match decide (ks' = ks) with
     | true => (match mfind (ev A k) es with
      | some _ => some (.u,⟨T.set (.map (mset (ev A k) (ev A v) es) ck ks) p σ.h,σ.nx⟩)
      | none => some (.u,⟨T.set (.map (lapp es [⟨ev A k,ev A v,ck⟩]) (Nat.add ck 1) ks) p σ.h,σ.nx⟩))
     | false => none)
    | _ => none)
   | _ => none)
  | false => none)
 | .mdl m k ks => (match keyShaped ks (ev A k) with
  | true => (match ev A m with
   | .nilm => some (.tup [],σ)
   | .map p => (match T.get p σ.h with
    | some (.map es ck ks') => (match decide (ks' = ks) with
     | true => some (.tup [],⟨T.set (.map (mrem (ev A k) es) ck ks) p σ.h,σ.nx⟩)
     | false => none)
    | _ => none)
   | _ => none)
  | false => none)
 | .men m k ks z => (match keyShaped ks (ev A k) with
  | true => (match ev A m with
   | .map p => (match T.get p σ.h with
    | some (.map es ck ks') => (match decide (ks' = ks) with
     | true => (match Nat.ble ck 1152921504606846976 with
      | true => (match mfind (ev A k) es with
       | some e => (match Nat.ble e.b 1152921504606846976 with | true => some (.tup [e.v,.int .i64 (.ofNat e.b)],σ) | false => none)
       | none => some (.tup [z,.int .i64 (.ofNat ck)],⟨T.set (.map (lapp es [⟨ev A k,z,ck⟩]) (Nat.add ck 1) ks) p σ.h,σ.nx⟩))
      | false => none)
     | false => none)
    | _ => none)
   | _ => none)
  | false => none)
 | .mes m s v => (match ev A m with
  | .map p => (match T.get p σ.h with
   | some (.map es ck ks) => (match ev A s with
    | .int _ b => (match natOf b with
     | some b => (match bset b (ev A v) es with
      | some es' => some (.u,⟨T.set (.map es' ck ks) p σ.h,σ.nx⟩)
      | none => none)
     | none => none)
    | _ => none)
   | _ => none)
  | _ => none)
 | .rgm m => (match ev A m with
  | .nilm => some (.itr σ.nx,⟨T.set (.mit none 0 [] 0) σ.nx σ.h,σ.nx.succ⟩)
  | .map p => (match T.get p σ.h with
   | some (.map es ck ks) => some (.itr σ.nx,⟨T.set (.mit (some p) ck [] ck) σ.nx σ.h,σ.nx.succ⟩)
   | _ => none)
  | _ => none)
 | .nxm m => (match ev A m with
  | .itr p => (match T.get p σ.h with
   | some (.mit q since seen last) => (match q with
    | none => some (.tup [.bool false],σ)
    | some q => (match T.get q σ.h with
     | some (.map es ck ks) => (match stepB last seen es with
      | true => (match lleft seen es with
       | [] => some (.tup [.bool false],σ)
       | e :: r => (match r with
        | [] => (match Nat.blt e.b since with
         | true => some (.tup [.bool true,e.k,e.v],⟨T.set (.mit (some q) since (lapp seen [e.b]) ck) p σ.h,σ.nx⟩)
         | false => none)
        | _ :: _ => none))
      | false => none)
     | _ => none))
   | _ => none)
  | _ => none)
 | .ent m => (match ev A m with
  | .itr p => (match T.get p σ.h with
   | some (.mit q since seen last) => (match q with
    | none => none
    | some q => (match T.get q σ.h with
     | some (.map es ck ks) => (match Nat.beq ck last with
      | true => (match llast seen with
       | some b => (match bfind b es with
        | some e => some (.tup [e.k,e.v],σ)
        | none => none)
       | none => none)
      | false => none)
     | _ => none))
   | _ => none)
  | _ => none)
 | .prd a => (match nm with
  | some p => (match ev A a with
   | .ptr q o => (match p.beq q with
    | true => (match T.get p σ.h with
     | some (.cells l _ _ _) => (match lget l o with | some v => some (v,σ) | none => none)
     | _ => none)
    | false => none)
   | _ => none)
  | none => none)
 | .pin m k v ks => (match nm with
  | some p' => (match ev A m with
   | .map q' => (match p'.beq q' with
    | true => (match keyShaped ks (ev A k) with
     | true => (match ev A m with
      | .map p => (match T.get p σ.h with
       | some (.map es ck ks') => (match decide (ks' = ks) with
        | true => (match mfind (ev A k) es with
         | some _ => some (.u,⟨T.set (.map (mset (ev A k) (ev A v) es) ck ks) p σ.h,σ.nx⟩)
         | none => some (.u,⟨T.set (.map (lapp es [⟨ev A k,ev A v,ck⟩]) (Nat.add ck 1) ks) p σ.h,σ.nx⟩))
        | false => none)
       | _ => none)
      | _ => none)
     | false => none)
    | false => none)
   | _ => none)
  | none => none)
def isPv (e : EOp) : Bool := match e with | .prd _ => true | .pin _ _ _ _ => true | _ => false
def bytesB (P : Program) (t bts : Nat) : Bool := match P.info? t with | some i => i.bytes == bts | none => false
def zsizeB (P : Program) (t n : Nat) : Bool := match P.info? t with | some i => (match i.zero with | some v => v.cells.size == n | none => false) | none => false
def zrepB (P : Program) (e n : Nat) (z : List V) : Bool := match P.info? e with
 | some i => (match i.zero with | some v => cstsB z ((Array.range n).map (v.cells[· % v.cells.size]!)).toList | none => false)
 | none => false
def elemB (P : Program) (t esz bts : Nat) : Bool := match P.underlying t with | some (.slice e) => szB P e esz && bytesB P e bts && decide (0 < esz) && zsizeB P e esz | _ => false
def srcB (P : Program) (tx : Nat) (str : Bool) (esz : Nat) : Bool := match P.underlying tx with | some (.slice _) => !str | some .string => str && esz == 1 | _ => false
def okE {P : Program} (E : Env P) (e : EOp) (op : Op) : Bool := match e with
 | .st a x n => (match op with | .store t a' x' => okA E.ng a a' && okA E.ng x x' && szB P t n | _ => false)
 | .alo z => (match op with | .alloc t => zeroB P t z | _ => false)
 | .box a n => (match op with | .box t x => okA E.ng a x | _ => false)
 | .bsl z ps len esz => (match op with
  | .buildSlice t n parts => n == len && decide (len * esz ≤ 2 ^ 24) && (decide (0 < len * esz) || parts.toList.isEmpty) && len * esz == z.length &&
   (match P.underlying t with | some (.slice e) => szB P e esz && zrepB P e (len * esz) z && bslB P E.ng e esz ps parts.toList | _ => false)
  | _ => false)
 | .mkm ks => (match op with | .makeMap t r => (match r with | none => true | some (.const (.int _ _)) => true | _ => false) && (match P.underlying t with | some (.map k _) => E.mk_.contains (k,ks) | _ => false) | _ => false)
 | .mks len cap z esz bts => (match op with | .makeSlice t l c => okA E.ng len l && okA E.ng cap c && (match P.underlying t with | some (.slice e) => szB P e esz && bytesB P e bts && zeroB P e z && z.length == esz && decide (0 < esz) | _ => false) | _ => false)
 | .app s x esz bts str => (match op with
  | .call ⟨.builtin .append,args,ats⟩ => (match args.toList,ats.toList with
   | [s',x'],[t,tx] => okA E.ng s s' && okA E.ng x x' && elemB P t esz bts &&
    srcB P tx str esz
   | _,_ => false)
  | _ => false)
 | .cpy d s esz => (match op with
  | .call ⟨.builtin .copy,args,ats⟩ => (match args.toList,ats.toList with
   | [d',s'],(t :: _) => okA E.ng d d' && okA E.ng s s' && (match P.underlying t with | some (.slice e) => szB P e esz && decide (0 < esz) | _ => false)
   | _,_ => false)
  | _ => false)
 | .clr s z esz => (match op with
  | .call ⟨.builtin .clear,args,ats⟩ => (match args.toList,ats.toList with
   | [s'],(t :: _) => okA E.ng s s' && (match P.underlying t with | some (.slice e) => zeroB P e z && z.length == esz && decide (0 < esz) | _ => false)
   | _,_ => false)
  | _ => false)
 | .mup m k v ks => (match op with
  | .mapUpdate t m' k' v' => okA E.ng m m' && okA E.ng k k' && okA E.ng v v' && (match P.underlying t with | some (.map kt _) => E.mk_.contains (kt,ks) | _ => false)
  | .insert t m' k' v' => okA E.ng m m' && okA E.ng k k' && okA E.ng v v' && (match P.underlying t with | some (.map kt _) => E.mk_.contains (kt,ks) | _ => false)
  | _ => false)
 | .mdl m k ks => (match op with
  | .call ⟨.builtin .delete,args,ats⟩ => (match args.toList,ats.toList with
   | [m',k'],(t :: _) => okA E.ng m m' && okA E.ng k k' && (match P.underlying t with | some (.map kt _) => E.mk_.contains (kt,ks) | _ => false)
   | _,_ => false)
  | _ => false)
 | .men m k ks z => (match op with | .mapEntry t m' k' => okA E.ng m m' && okA E.ng k k' && (match P.underlying t with | some (.map kt et) => E.mk_.contains (kt,ks) && zeroV P et z | _ => false) | _ => false)
 | .mes m s v => (match op with | .entryStore t m' s' v' => okA E.ng m m' && okA E.ng s s' && okA E.ng v v' | _ => false)
 | .rgm m => (match op with | .range t m' => okA E.ng m m' && (match P.underlying t with | some (.map _ _) => true | _ => false) | _ => false)
 | .nxm m => (match op with | .next m' s => okA E.ng m m' && !s | _ => false)
 | .ent m => (match op with | .entry m' => okA E.ng m m' | _ => false)
 | .prd _ => false
 | .pin _ _ _ _ => false
 where
 bslB (P : Program) (ng : GS) (e esz : Nat) : List (Nat × Nat × Arg) → List (Nat × Operand) → Bool
  | [],[] => true
  | p :: l,(i,o) :: m => p.1 == i * esz && p.2.1 == esz && okA ng p.2.2 o && bslB P ng e esz l m
  | _,_ => false
def okP {P : Program} (E : Env P) (e : EOp) (op : Op) : Bool := match e with
 | .prd a => okQ E (.ld1 a) op
 | .pin m k v ks => okE E (.mup m k v ks) op
 | _ => false
end Go.Proofs.YtldidldbhngmnaaGreatDoor
namespace Go.Proofs.YtldidldbhngmnaaGreatDoor
open Go
def ESound {P : Program} (E : Env P) (e : EOp) : Prop := ∀ {n : Nat} {ι : Nm} {A : T V} {a : Act} {σ σ' : St} {w : World} {o : Oper} {v : V},FR n a.defers ι A a → Gl E.ng ι → Rep ι σ w →
 okE E e o.op = true → eev e none A σ = some (v,σ') →
 ∃ ι' w',((∃ v',(execOp a.eval o).run P w = .ok (.value v') w' ∧ VR ι' v v') ∨ ((execOp a.eval o).run P w = .ok .skip w' ∧ v = .u)) ∧ Rep ι' σ' w' ∧ G σ.nx.nat ι σ w ι' σ' w'
def LSound {P : Program} (E : Env P) (e : EOp) : Prop := ∀ {n : Nat} {ι : Nm} {A : T V} {a : Act} {σ σ' : St} {w : World} {o : Oper} {v : V} {nm : Option Pos},FR n a.defers ι A a → Gl E.ng ι → Rep ι σ w →
 okE E e o.op = true → eev e nm A σ = some (v,σ') →
 ∃ l c ty v',σ' = newB σ nm (.cells l [] false false) ∧ (execOp a.eval o).run P w = .ok (.value v') (w.alloc (.cells c ty)) ∧ VRs ι l c.toList ∧
  ∀ ι' : Nm,ι' (nameOf σ nm) = some ⟨w.heap.size,0,c.size,0⟩ → VR ι' v v'
theorem exu {P : Program} {ρ : Operand → Value} {o : Oper} {s : Sem Unit} {w w' : World} (h : execOp ρ o = (do s; pure .skip)) (hs : s.run P w = .ok () w') : (execOp ρ o).run P w = .ok .skip w' := by
 rw [h]; simp only [Sem.run_bind,hs,Result.andThen_ok,Sem.run_pure]
theorem exv2 {P : Program} {ρ : Operand → Value} {o : Oper} {s : Sem Value} {w w' : World} {v' : Value} (h : execOp ρ o = (do pure (.value (← s)))) (hs : s.run P w = .ok v' w') : (execOp ρ o).run P w = .ok (.value v') w' := by
 rw [h]; simp only [Sem.run_bind,hs,Result.andThen_ok,Sem.run_pure]
section
variable {P : Program} {E : Env P}
theorem Rep.fresh {ι : Nm} {σ : St} {w : World} (R : Rep ι σ w) : ι σ.nx = none ∧ T.get σ.nx σ.h = none := by
 constructor
 ·cases h : ι σ.nx with
  | none => rfl
  | some pl => exact absurd (R.dom _ _ h) (Nat.lt_irrefl _)
 ·cases h : T.get σ.nx σ.h with
  | none => rfl
  | some o => exact absurd (R.hdom _ _ h) (Nat.lt_irrefl _)
theorem Rep.newCells {ι : Nm} {σ : St} {w : World} (R : Rep ι σ w) {l : List V} {c : Array Value} (e : TypeId) (h : VRs ι l (c.toList.take l.length)) (hle : l.length ≤ c.size) :
  Rep (nmSet ι σ.nx ⟨w.heap.size,0,c.size,0⟩) ⟨T.set (.cells l [] false false) σ.nx σ.h,σ.nx.succ⟩ (w.alloc (.cells c e)) ∧
  G σ.nx.nat ι σ w (nmSet ι σ.nx ⟨w.heap.size,0,c.size,0⟩) ⟨T.set (.cells l [] false false) σ.nx σ.h,σ.nx.succ⟩ (w.alloc (.cells c e)) := by
 obtain ⟨h1,h2⟩ := R.fresh
 have hn := Pos.succ_nat σ.nx
 refine R.push (nx := σ.nx.succ) h1 h2 (by omega) (by omega) (fun q hq => by cases hq) ?_ ?_ (Nat.le_refl _)
 ·refine ⟨_,c,e,nmSet_self _ _ _,rfl,by rw [heap_alloc_if,if_pos rfl],rfl,by simpa using hle,fun i x y hx hy => ?_⟩
  have hlt : i < l.length := (List.getElem?_eq_some_iff.1 hx).1
  refine (h.2 i x y hx ?_).mono (nmSet_ext h1)
  rw [List.getElem?_take,if_pos hlt]
  simpa using hy
 ·refine ⟨fun _ => ⟨c,e,by rw [heap_alloc_if,if_pos rfl],rfl⟩,(fun h => by cases h),(fun h => by cases h),(fun h => by cases h),Nat.zero_le _⟩
theorem l_alo (z : List V) : LSound E (.alo z) := by
 intro n ι A b σ σ' w o v nm F L R hok h
 obtain ⟨d,op,ty,pos,af,g⟩ := o
 cases op <;> simp only [okE,Bool.false_eq_true] at hok
 rename_i t
 obtain ⟨zv,hz,hzv⟩ := zeroB_inv hok
 simp only [eev,Option.some.injEq,Prod.mk.injEq] at h
 obtain ⟨rfl,rfl⟩ := h
 refine ⟨z,zv.cells,t,.pointer (some ⟨w.heap.size,0,none⟩),rfl,exv2 (s := Instr.alloc t true (.tuple #[])) rfl ?_,hzv ι,fun ι' h => ?_⟩
 ·simp only [Instr.alloc,Sem.run_bind,hz,Result.andThen,newVar,newRow,newObj,Sem.run,Sem.run_pure]
  rfl
 ·have := VR.ptr (ι := ι') (nameOf σ nm) 0 _ h rfl
  simpa using this
theorem l_box (x : Arg) (m : Nat) : LSound E (.box x m) := by
 intro n ι A b σ σ' w o v nm F L R hok h
 obtain ⟨d,op,ty,pos,af,g⟩ := o
 cases op <;> simp only [okE,Bool.false_eq_true] at hok
 rename_i t x'
 simp only [eev] at h
 split at h
 ·rename_i l hl
  split at h
  ·simp only [Option.some.injEq,Prod.mk.injEq] at h
   obtain ⟨rfl,rfl⟩ := h
   have hv := flat_sound hl (ev_sound F L hok)
   refine ⟨l,(b.eval x').cells,t,.pointer (some ⟨w.heap.size,0,none⟩),rfl,exv2 (s := Instr.box t (b.eval x')) rfl ?_,hv,fun ι' h => ?_⟩
   ·simp only [Instr.box,newVar,newRow,newObj,Sem.run_bind,Sem.run,Result.andThen,Sem.run_pure]
    rfl
   ·have := VR.ptr (ι := ι') (nameOf σ nm) 0 _ h rfl
    simpa using this
  ·cases h
 ·cases h
theorem zrepB_inv {e n : Nat} {z : List V} (h : zrepB P e n z = true) : ∃ zv,(∀ w,(zeroValue e).run P w = .ok zv w) ∧ ∀ ι,VRs ι z ((Array.range n).map (zv.cells[· % zv.cells.size]!)).toList := by
 unfold zrepB at h
 split at h
 ·rename_i i hi
  split at h
  ·rename_i v hv
   exact ⟨v,run_zero hi hv,fun ι => csts_sound (fun l x hx y hy => cst_sound x y hy) _ _ h⟩
  ·cases h
 ·cases h
theorem bldF_length {A : T V} : ∀ {ps : List (Nat × Nat × Arg)} {z l : List V},bldF A ps z = some l → l.length = z.length
 | [],z,l,h => by
  have e : bldF A [] z = some z := rfl
  rw [e] at h; cases h; rfl
 | (off,sz,x) :: ps,z,l,h => by
  have e : bldF A ((off,sz,x) :: ps) z = match flat (ev A x) with
   | none => none
   | some l => (match Nat.beq (llen l) sz && Nat.ble (Nat.add off sz) (llen z) with | true => bldF A ps (lsplice z off l) | false => none) := rfl
  rw [e] at h
  split at h
  ·cases h
  ·rename_i l1 hf
   split at h
   ·rename_i hb
    simp only [Bool.and_eq_true] at hb
    have hb1 : llen l1 = sz := Nat.eq_of_beq_eq_true hb.1
    have hb2 := ble_le hb.2
    rw [llen_eq] at hb1 hb2
    have hle : off + sz ≤ z.length := hb2
    rw [bldF_length h]
    have e : lsplice z off l1 = z.take off ++ (l1 ++ z.drop (off + l1.length)) := by
     simp only [lsplice,lapp_eq,ltake_eq,ldrop_eq,llen_eq]; rfl
    rw [e]; simp; omega
   ·cases h
theorem bslB_places {ng : GS} {e esz : Nat} : ∀ (ps : List (Nat × Nat × Arg)) (qs : List (Nat × Operand)),okE.bslB P ng e esz ps qs = true → ∀ {n : Nat} {ι : Nm} {A : T V} {a : Act},FR n a.defers ι A a → Gl ng ι →
  ∀ (z l : List V) (cells : Array Value),bldF A ps z = some l → VRs ι z cells.toList → ∃ c,Instr.fill (fun i => some (i * esz,esz)) cells (qs.map fun x => (x.1,a.eval x.2)) = some c ∧ VRs ι l c.toList
 | [],[],_,n,ι,A,a,F,L,z,l,cells,h,hz => by
  have : l = z := by
   have e : bldF A [] z = some z := rfl
   rw [e] at h; exact (Option.some.inj h).symm
  subst this
  exact ⟨cells,rfl,hz⟩
 | [],_ :: _,h,_,_,_,_,_,_,_,_,_,_,_ => by simp [okE.bslB] at h
 | _ :: _,[],h,_,_,_,_,_,_,_,_,_,_,_ => by simp [okE.bslB] at h
 | (off,sz,x) :: ps,(i,o) :: qs,hok,n,ι,A,a,F,L,z,l,cells,h,hz => by
  simp only [okE.bslB,Bool.and_eq_true,beq_iff_eq] at hok
  obtain ⟨⟨⟨rfl,rfl⟩,h2⟩,h3⟩ := hok
  have e : bldF A ((i * sz,sz,x) :: ps) z = match flat (ev A x) with
   | none => none
   | some l => (match Nat.beq (llen l) sz && Nat.ble (Nat.add (i * sz) sz) (llen z) with | true => bldF A ps (lsplice z (i * sz) l) | false => none) := rfl
  rw [e] at h
  split at h
  ·cases h
  ·rename_i l1 hf
   have hv := flat_sound hf (ev_sound F L h2)
   split at h
   ·rename_i hb
    simp only [Bool.and_eq_true] at hb
    have hb1 : llen l1 = sz := Nat.eq_of_beq_eq_true hb.1
    have hb2 := ble_le hb.2
    rw [llen_eq] at hb1 hb2
    have hvs : (a.eval o).cells.size = sz := by
     have := hv.1; simp at this; omega
    have hcs : cells.size = z.length := by have := hz.1; simp at this; omega
    have hle : i * sz + sz ≤ z.length := hb2
    have hfill : ∀ j : Nat,((a.eval o).cells.zipIdx.foldl (fun (cs : Array Value) (x : Value × Nat) => cs.setIfInBounds (i * sz + x.2) x.1) cells)[j]? = if i * sz ≤ j ∧ j < i * sz + (a.eval o).cells.toList.length then (a.eval o).cells.toList[j - i * sz]? else cells.toList[j]? := by
     intro j
     rw [← Array.foldl_toList,Array.toList_zipIdx]
     have := fill_one (i * sz) (a.eval o).cells.toList 0 cells j (by simp; omega)
     rw [Nat.add_zero] at this
     rw [this]
     simp
    have hz' := VRs.splice hz hv (by omega) hfill
    obtain ⟨c,k1,k2⟩ := bslB_places ps qs h3 F L _ l _ h hz'
    refine ⟨c,?_,k2⟩
    simp only [List.map_cons,Instr.fill]
    rw [if_neg (by simp [hvs]; omega)]
    exact k1
   ·cases h
theorem ex_bs (ρ : Operand → Value) (d : Option Tmp) (t ty : TypeId) (n : Nat) (pos : String) (af : Array Edge) (g : Option (Nat × Bool)) (ps : Array (Nat × Operand)) :
  execOp ρ ⟨d,.buildSlice t n ps,ty,pos,af,g⟩ = (do pure (.value (← Instr.buildSlice t n (ps.map fun x => (x.1,ρ x.2))))) := rfl
theorem l_bsl (z : List V) (ps : List (Nat × Nat × Arg)) (len esz : Nat) : LSound E (.bsl z ps len esz) := by
 intro n ι A b σ σ' w o v nm F L R hok h
 obtain ⟨d,op,ty,pos,af,g⟩ := o
 cases op <;> simp only [okE,Bool.false_eq_true,Bool.and_eq_true,beq_iff_eq,decide_eq_true_eq] at hok
 rename_i t m parts
 obtain ⟨⟨⟨⟨rfl,h1⟩,h2⟩,h3⟩,h4⟩ := hok
 split at h4
 ·rename_i e hu
  simp only [Bool.and_eq_true] at h4
  obtain ⟨⟨h5,h6⟩,h7⟩ := h4
  obtain ⟨zv,hz,hzv⟩ := zrepB_inv h6
  simp only [eev] at h
  split at h
  ·rename_i l hl
   simp only [Option.some.injEq,Prod.mk.injEq] at h
   obtain ⟨rfl,rfl⟩ := h
   obtain ⟨c,k1,k2⟩ := bslB_places ps parts.toList h7 F L z l _ hl (hzv ι)
   have hlen : l.length = z.length := by
    have := bldF_length hl; exact this
   have hcs : c.size = m * esz := by have := k2.1; simp at this; omega
   have hmap : (parts.map fun x => (x.1,b.eval x.2)).toList = parts.toList.map fun x => (x.1,b.eval x.2) := by simp
   refine ⟨l,c,e,.slice (some ⟨w.heap.size,0,none⟩) m m,rfl,exv2 (ex_bs _ _ _ _ _ _ _ _ _) ?_,k2,fun ι' h => ?_⟩
   ·simp only [Instr.buildSlice,Sem.run_bind,run_underlying hu,Result.andThen_ok,run_szB h5]
    by_cases h0 : m * esz = 0
    ·have hp : parts.toList = [] := by
      simp only [Bool.or_eq_true,decide_eq_true_eq,List.isEmpty_iff] at h2
      rcases h2 with h2 | h2
      ·omega
      ·exact h2
     rw [if_neg (by omega),if_pos h0]
     have hmap2 : (parts.map fun x => (x.1,b.eval x.2)).toList = [] := by rw [hmap,hp]; rfl
     have k1 : Instr.fill (fun i => some (i * esz,esz)) ((Array.range (m * esz)).map (zv.cells[· % zv.cells.size]!)) [] = some c := by rw [hp] at k1; exact k1
     have hr0 : ∀ f : Nat → Value,(Array.range 0).map f = #[] := fun f => by simp
     have hc : c = #[] := by
      rw [h0,hr0] at k1
      have : some #[] = some c := k1
      cases this; rfl
     subst hc
     simp only [Sem.run_bind,Result.andThen_ok,Sem.run_pure,hmap2,h0,hr0,newRow,newObj,Sem.run]
     rfl
    ·rw [if_neg (by omega),if_neg h0]
     simp only [Sem.run_bind,hz,Result.andThen_ok,Sem.run_pure,hmap,k1,newRow,newObj,Sem.run]
     rfl
   ·have := VR.slice (ι := ι') (nameOf σ nm) 0 m (some m) esz _ ⟨w.heap.size,0 + 0,none⟩ m h rfl (fun n hn => by cases hn; rfl) (Nat.le_refl _) (fun _ => rfl) (by simp [hcs])
    simpa using this
  ·cases h
 ·cases h4
end
end Go.Proofs.YtldidldbhngmnaaGreatDoor
namespace Go.Proofs.YtldidldbhngmnaaGreatDoor
open Go
section
variable {P : Program} {E : Env P}
theorem late_sound {e : EOp} (h : LSound E e) : ESound E e := by
 intro n ι A b σ σ' w o v F L R hok hv
 obtain ⟨l,c,ty,v',h1,h2,h3,h4⟩ := h (nm := none) F L R hok hv
 subst h1
 have hlen : l.length = c.size := by have := h3.1; simpa using this
 obtain ⟨k1,k2⟩ := R.newCells (l := l) (c := c) ty (by rw [hlen,List.take_of_length_le (by simp)]; exact h3) (by omega)
 exact ⟨_,_,Or.inl ⟨v',h2,h4 _ (nmSet_self _ _ _)⟩,k1,k2⟩
theorem lput_eq (l : List V) (o : Nat) (vs : List V) (h : o + vs.length ≤ l.length) : lput l o vs = l.take o ++ vs ++ l.drop (o + vs.length) := by
 cases vs with
 | nil => simp [lput]
 | cons v r =>
  cases r with
  | nil =>
   show lset v l o = _
   rw [lset_eq]
   simp at h
   rw [List.set_eq_take_append_cons_drop,if_pos (by omega)]
   simp
  | cons u1 r =>
   show lsplice l o _ = _
   simp only [lsplice,lapp_eq,ltake_eq,ldrop_eq,llen_eq,List.append_assoc]
   rfl
theorem lput_len (l : List V) (o : Nat) (vs : List V) (h : o + vs.length ≤ l.length) : (lput l o vs).length = l.length := by
 rw [lput_eq l o vs h]; simp; omega
theorem lput_get (l : List V) (o : Nat) (vs : List V) (h : o + vs.length ≤ l.length) (i : Nat) : (lput l o vs)[i]? = if o ≤ i ∧ i < o + vs.length then vs[i - o]? else l[i]? := by
 rw [lput_eq l o vs h]
 by_cases a : i < o
 ·rw [if_neg (by omega),List.append_assoc,List.getElem?_append_left (by simp; omega),List.getElem?_take,if_pos a]
 ·by_cases b : i < o + vs.length
  ·rw [if_pos (by omega),List.append_assoc,List.getElem?_append_right (by simp; omega)]
   rw [List.getElem?_append_left (by simp; omega)]
   congr 1; simp; omega
  ·rw [if_neg (by omega),List.getElem?_append_right (by simp; omega),List.getElem?_drop]
   congr 1; simp; omega
theorem plain_flat {ι : Nm} {vs : List V} {cs : List Value} (h : lall plainV vs = true) (hv : VRs ι vs cs) : (∀ v ∈ cs,(∀ x,v ≠ .agg x) ∧ ∀ x,v ≠ .tuple x) ∧ ∀ v ∈ cs,v.oneCell' = true := by
 rw [lall_eq,List.all_eq_true] at h
 have : ∀ v ∈ cs,∃ x,plainV x = true ∧ VR ι x v := by
  intro v hm
  obtain ⟨i,hi⟩ := List.getElem?_of_mem hm
  have hlt : i < vs.length := by
   have := (List.getElem?_eq_some_iff.1 hi).1
   rw [hv.1]; exact this
  exact ⟨vs[i],h _ (List.getElem_mem hlt),hv.2 i _ _ (by simp) hi⟩
 constructor
 ·intro v hm
  obtain ⟨x,hp,hr⟩ := this v hm
  cases hr <;> first | (simp [plainV] at hp; done) | exact ⟨(fun _ e => by cases e),(fun _ e => by cases e)⟩
 ·intro v hm
  obtain ⟨x,hp,hr⟩ := this v hm
  cases hr <;> first | (simp [plainV] at hp; done) | rfl
theorem setCells_upd : ∀ (vs : List Value) (w : World) (b o : Nat) (c : Array Value) (e : TypeId),w.heap[b]? = some (.cells c e) → o + vs.length ≤ c.size → w.setCells b o vs = upd w b (fun c => splice c o vs.toArray)
 | [],w,b,o,c,e,h,hn => by
  have : upd w b (fun c => splice c o ([] : List Value).toArray) = upd w b id := upd_congr h (by simp at hn; simp [splice]; omega)
  rw [this,upd_id]
  rfl
 | v :: vs,w,b,o,c,e,h,hn => by
  have hw1 : (w.setCell ⟨b,o,none⟩ v).heap[b]? = some (.cells (c.setIfInBounds o v) e) := by
   rw [setCell_upd]; exact heap_upd_same h _
  show (w.setCell ⟨b,o,none⟩ v).setCells b (o + 1) vs = _
  rw [setCells_upd vs _ b (o + 1) _ e hw1 (by simp at hn ⊢; omega),setCell_upd,upd_comp]
  refine upd_congr h ?_
  have s1 : o + 1 + vs.toArray.size ≤ (c.setIfInBounds o v).size := by simp at hn ⊢; omega
  have s2 : o + (v :: vs).toArray.size ≤ c.size := by simp at hn ⊢; omega
  apply Array.ext_getElem?
  intro k
  rw [splice_get _ _ _ s1,splice_get _ _ _ s2]
  simp only [List.size_toArray,List.length_cons]
  simp only [List.length_cons] at hn
  by_cases a : k = o
  ·subst a
   rw [if_neg (by omega),if_pos (by omega)]
   simp [show k < c.size by omega]
  ·by_cases b1 : o + 1 ≤ k ∧ k < o + 1 + vs.length
   ·rw [if_pos b1,if_pos (by omega)]
    have : k - o = (k - (o + 1)) + 1 := by omega
    rw [this]
    simp
   ·rw [if_neg b1,if_neg (by omega),Array.getElem?_setIfInBounds_ne (by omega)]
theorem Rep.put {ι : Nm} {σ : St} {w : World} (R : Rep ι σ w) {p : Pos} {l : List V} {kin : List Pos} (hp : T.get p σ.h = some (.cells l kin false false)) {pl : Pl} (hpl : ι p = some pl) {o : Nat} {vs : List V} {cs : List Value} (hv : VRs ι vs cs)
  (ho : o + vs.length ≤ l.length) {N : Nat} :
  Rep ι ⟨T.set (.cells (lput l o vs) [] false false) p (kill kin σ.h),σ.nx⟩ (upd w pl.blk fun c => splice c (pl.st + o) cs.toArray) ∧
  G N ι σ w ι ⟨T.set (.cells (lput l o vs) [] false false) p (kill kin σ.h),σ.nx⟩ (upd w pl.blk fun c => splice c (pl.st + o) cs.toArray) := by
 have hlen := hv.1
 obtain ⟨pl0,c0,e0,g1,g2,g3,g4,g5,g6⟩ := R.ob p _ hp
 rw [hpl] at g1; cases g1
 refine R.store hp hpl (by rw [lput_len _ _ _ ho]; exact Nat.le_refl _) (fun c hc => splice_size _ _ _ (by simp; omega)) ?_
 intro c hc hle hc2 i x y hx hy
 rw [lput_get _ _ _ ho] at hx
 rw [splice_get _ _ _ (by simp; omega)] at hy
 simp only [List.size_toArray,← hlen] at hy
 by_cases hin : o ≤ i ∧ i < o + vs.length
 ·rw [if_pos hin] at hx
  rw [if_pos (by omega)] at hy
  have e : pl.st + i - (pl.st + o) = i - o := by omega
  rw [e] at hy
  exact hv.2 _ x y hx (by simpa using hy)
 ·rw [if_neg hin] at hx
  rw [if_neg (by omega)] at hy
  exact hc2 i x y hx hy
theorem wr_inv {fz ro b : Bool} (h : (!fz && !ro && b) = true) : fz = false ∧ ro = false ∧ b = true := by
 cases fz <;> cases ro <;> simp_all
theorem e_st (x y : Arg) (m : Nat) : ESound E (.st x y m) := by
 intro n ι A b σ σ' w o v F L R hok h
 obtain ⟨d,op,ty,pos,af,g⟩ := o
 cases op <;> simp only [okE,Bool.false_eq_true,Bool.and_eq_true] at hok
 rename_i t x' y'
 obtain ⟨⟨h1,h2⟩,h3⟩ := hok
 simp only [eev] at h
 split at h
 ·rename_i p o hx
  split at h
  ·rename_i vs hvs
   split at h
   ·rename_i hpl
    simp only [Bool.and_eq_true] at hpl
    have hm : llen vs = m := Nat.eq_of_beq_eq_true hpl.2
    rw [llen_eq] at hm
    split at h
    ·rename_i l kin fz ro hg
     split at h
     ·rename_i hw
      obtain ⟨rfl,rfl,hle⟩ := wr_inv hw
      have hle := ble_le hle
      rw [llen_eq] at hle
      simp only [Option.some.injEq,Prod.mk.injEq] at h
      obtain ⟨rfl,rfl⟩ := h
      obtain ⟨pl,k1,k2,k3⟩ := (ev_as F L h1 hx).ptr_inv
      have hv := flat_sound hvs (ev_sound F L h2)
      obtain ⟨pl0,c0,e0,g1,g2,g3,g4,g5,g6⟩ := R.ob p _ hg
      rw [k1] at g1; cases g1
      have hle' : o + vs.length ≤ l.length := by rw [hm]; exact hle
      obtain ⟨q1,q2⟩ := R.put (N := σ.nx.nat) hg k1 hv hle'
      refine ⟨ι,_,Or.inr ⟨exu (s := Instr.storeAt t (b.eval x') (b.eval y')) rfl ?_,rfl⟩,q1,q2⟩
      have hcs : (b.eval y').cells.size = m := by have := hv.1; simp at this; omega
      simp only [Instr.storeAt,k3,Instr.sureAddr,storeVar,Sem.run_bind,Sem.run_pure,Result.andThen_ok,run_szB h3]
      rw [if_neg (by simp [hcs])]
      have := run_storeCells (P := P) (b := pl.blk) (e := e0) (b.eval y').cells.toList w c0 (pl.st + o) 0 (plain_flat hpl.1 hv).1 g3 (by have := hv.1; simp at this ⊢; omega)
      simpa using this
     ·cases h
    ·cases h
   ·cases h
  ·cases h
 ·cases h
end
end Go.Proofs.YtldidldbhngmnaaGreatDoor
namespace Go.Proofs.YtldidldbhngmnaaGreatDoor
open Go
section
variable {P : Program} {E : Env P}
theorem extwo {ρ : Operand → Value} {d : Option Tmp} {bb : Builtin} {args : Array Operand} {ats : Array TypeId} {ty : TypeId} {pos : String} {af : Array Edge} {g : Option (Nat × Bool)} {x y : Operand} {w w' : World} {v' : Value} {f : Array TypeId → TypeId → Array Value → Sem Value}
  (hbb : ∀ ats ty cs vs,builtin bb ats ty cs vs = (do pure (.value (← f ats ty vs)))) (ha : args.toList = [x,y]) (h : (f ats ty #[ρ x,ρ y]).run P w = .ok v' w') : (execOp ρ ⟨d,.call ⟨.builtin bb,args,ats⟩,ty,pos,af,g⟩).run P w = .ok (.value v') w' := by
 obtain rfl : args = #[x,y] := Array.toList_inj.1 ha
 unfold execOp
 simp only [resolve,invoke,Sem.run_bind,Sem.run_pure,Result.andThen_ok,List.map_toArray,List.map_cons,List.map_nil,hbb,h]
def lenOfV (v : V) : Nat := match v with | .slice _ _ n _ _ => n | _ => 0
theorem sliceCells_sound {ι : Nm} {σ : St} {w : World} (R : Rep ι σ w) {v : V} {v' : Value} (hv : VR ι v v') {esz : Nat} {l : List V} (h : sliceCells σ v esz = some l) :
  ∃ a len c l',v' = .slice a len c ∧ VRs ι l l' ∧ l'.length = len * esz ∧ (∀ ad,a = some ad → ∀ j u,l'[j]? = some u → w.cell? (ad.add j) = some u) ∧ (a = none → len = 0 ∧ c = 0) ∧ len = lenOfV v := by
 cases v <;> simp [sliceCells] at h
 case nils =>
  subst h
  have := hv.nils_inv
  subst this
  exact ⟨none,0,0,[],rfl,.nil,by simp,(fun ad h => by cases h),fun _ => ⟨rfl,rfl⟩,rfl⟩
 case slice p o len cap es =>
  obtain ⟨pl,aa,c,k1,k2,k3,k4,k5,k6,k7⟩ := hv.slice_inv
  subst k7
  split at h
  ·rename_i hes
   have hes : es = esz := by simpa using hes
   subst hes
   cases len with
   | zero =>
    cases h
    exact ⟨some aa,0,c,[],rfl,.nil,by simp,(fun ad h j u hu => by simp at hu),(fun h => by cases h),rfl⟩
   | succ len' =>
    simp only at h
    split at h
    ·rename_i l1 kin fz ro hg
     split at h
     ·rename_i hle
      have hle := ble_le hle
      rw [llen_eq] at hle
      have hle : o + (len' + 1) * es ≤ l1.length := hle
      cases h
      obtain ⟨pl0,c0,e0,g1,g2,g3,g4,g5,g6⟩ := R.ob p _ hg
      rw [k1] at g1; cases g1
      have k5 := k5 (by omega)
      subst k5
      refine ⟨_,len' + 1,c,(c0.toList.drop (pl.st + o)).take ((len' + 1) * es),rfl,?_,?_,?_,(fun h => by cases h),rfl⟩
      ·rw [ltake_eq,ldrop_eq]
       refine ⟨by simp; omega,fun i x y hx hy => ?_⟩
       rw [List.getElem?_take] at hx hy
       split at hx
       ·rename_i hlt
        have hlt : i < (len' + 1) * es := hlt
        rw [if_pos hlt] at hy
        rw [List.getElem?_drop] at hx hy
        exact g6 (o + i) x y hx (by rw [← Nat.add_assoc]; simpa using hy)
       ·cases hx
      ·simp; omega
      ·intro ad had j u hu
       cases had
       rw [List.getElem?_take] at hu
       split at hu
       ·rw [List.getElem?_drop] at hu
        rw [addr_add,cell?_blk g3]
        simpa using hu
       ·cases hu
     ·cases h
    ·cases h
  ·cases h
theorem src_sound {ι : Nm} {σ : St} {w : World} (R : Rep ι σ w) {v : V} {v' : Value} (hv : VR ι v v') {esz n : Nat} {str : Bool} {news : List V} (h : srcCells σ v esz str = some (n,news)) (hp : n = 0 ∨ lall plainV news = true) {tx : TypeId}
  (hk : srcB P tx str esz = true) :
  ∃ news',Src P esz tx v' n news' w ∧ VRs ι news news' := by
 unfold srcB at hk
 split at hk
 ·rename_i e hu
  have hs : str = false := by simpa using hk
  subst hs
  simp only [srcCells] at h
  split at h
  ·cases h
  ·rename_i l hl
   obtain ⟨a,len,c,l',e1,e2,e3,e4,e5,e6⟩ := sliceCells_sound R hv hl
   have hn : n = len ∧ news = l := by
    cases v <;> simp [lenOfV] at h e6 <;> (obtain ⟨rfl,rfl⟩ := h; first | exact ⟨e6.symm,rfl⟩ | exact ⟨e6.symm,rfl⟩)
   obtain ⟨rfl,rfl⟩ := hn
   subst e1
   refine ⟨l',?_,e2⟩
   have hone : ∀ u ∈ l',u.oneCell' = true := by
    rcases hp with rfl | hp
    ·have : l' = [] := List.length_eq_zero_iff.1 (by rw [e3]; simp)
     subst this
     intro u hu; cases hu
    ·exact (plain_flat hp e2).2
   cases a with
   | none =>
    obtain ⟨rfl,rfl⟩ := e5 rfl
    have : l' = [] := List.length_eq_zero_iff.1 (by rw [e3]; simp)
    subst this
    exact Src.ofNil w hu 0
   | some ad => exact Src.ofSlice w hu ad n c l' e3 (e4 ad rfl) hone
 ·rename_i hu
  simp only [Bool.and_eq_true,beq_iff_eq] at hk
  obtain ⟨rfl,rfl⟩ := hk
  simp only [srcCells] at h
  split at h
  ·rename_i l
   obtain ⟨s,rfl,hs⟩ := hv.str_inv
   simp only [Option.some.injEq,Prod.mk.injEq] at h
   obtain ⟨rfl,rfl⟩ := h
   have hsz : s.size = llen l := by rw [llen_eq,← hs]; simp
   rw [← hsz]
   refine ⟨byteCells s,Src.ofString w hu s,?_⟩
   rw [lmap_eq,← hs]
   refine ⟨by simp [byteCells],fun i x y hx hy => ?_⟩
   simp only [byteCells,List.getElem?_map] at hx hy
   cases hg : s.data.toList[i]? with
   | none => rw [hg] at hx; cases hx
   | some uu =>
    rw [hg] at hx hy
    simp at hx hy
    subst hx; subst hy
    refine .int _ _ ?_
    have := uu.toNat_lt
    unfold IntKind.has IntKind.min IntKind.max
    simp [IntKind.bits,IntKind.signed]
    omega
  ·cases h
 ·cases hk
theorem app_zero {t tx ty e : TypeId} {i : TypeInfo} (ht : P.underlying t = some (.slice e)) (hi : P.info? e = some i) {base : Option Addr} {sLen sCap : Nat} {x : Value} {news : List Value} {w : World} (hs : Src P i.size tx x 0 news w) (hle : sLen ≤ sCap) :
  (Builtin.append_ #[t,tx] ty #[.slice base sLen sCap,x]).run P w = .ok (.slice base sLen sCap) w := by
 have hnil : news = [] := List.length_eq_zero_iff.1 (by rw [hs.newsLen]; simp)
 subst hnil
 rcases hs.kind with ⟨e',hk⟩ | hk <;> cases base <;> simp [Builtin.append_,run_underlying ht,run_underlying hk,Go.sizeOf,typeInfo,hi,hs.len,hle,hs.cells,storeCells]
theorem grownCap_le (w : World) (need old : Nat) (e : TypeId) : need ≤ grownCap w need old e := by
 unfold grownCap Question.cut
 exact Nat.le_add_right _ _
theorem zeroCells_size (z : Array Value) (n : Nat) : (Builtin.zeroCells z n).size = n * z.size := by simp [Builtin.zeroCells]
structure El (P : Program) (t e : TypeId) (i : TypeInfo) (z : Value) (esz bts : Nat) : Prop where
 ht : P.underlying t = some (.slice e)
 hi : P.info? e = some i
 hz : i.zero = some z
 size : i.size = esz
 bytes : i.bytes = bts
 zsize : z.cells.size = esz
 pos : 0 < esz
theorem bound_le {n bts : Nat} (h : Nat.ble (Nat.mul n (Nat.add bts 1)) 1099511627776 = true) : n * bts ≤ 1099511627776 ∧ n ≤ 1099511627776 := by
 have h : n * (bts + 1) ≤ 1099511627776 := ble_le h
 rw [Nat.mul_add] at h
 omega
theorem grow_sound {ι : Nm} {σ : St} {w : World} (R : Rep ι σ w) {t tx ty e : TypeId} {i : TypeInfo} {z : Value} {esz bts : Nat} (K : El P t e i z esz bts) {base : Option Addr} {sLen sCap n : Nat} {olds news : List Value} {ol nw : List V} {x : Value}
  (hold : (Builtin.firstCells esz sLen (.slice base sLen sCap)).run P w.drew = .ok olds.toArray w.drew) (ho : VRs ι ol olds) (hol : olds.length = sLen * esz) (hs : Src P esz tx x n news w) (hn : VRs ι nw news) (hg : sCap < sLen + n)
  (hb : (sLen + n) * bts ≤ 1099511627776 ∧ sLen + n ≤ 1099511627776) :
  ∃ c cap,(Builtin.append_ #[t,tx] ty #[.slice base sLen sCap,x]).run P w = .ok (.slice (some ⟨w.heap.size,0,none⟩) (sLen + n) cap) (w.drew.alloc (.cells c e)) ∧
   VRs ι (ol ++ nw) (c.toList.take (ol ++ nw).length) ∧ (ol ++ nw).length ≤ c.size ∧ cap * esz ≤ c.size ∧ sLen + n ≤ cap := by
 have hi' := K.hi
 have e1 := K.size
 have e2 := K.bytes
 subst e1
 subst e2
 have hr := run_append_grow_src (P := P) w t tx ty e i z K.ht K.hi K.hz base sLen sCap olds hold x n news hs hg (by omega) (growslice_fits hg (by omega))
 refine ⟨_,_,hr,?_,?_,?_,grownCap_le _ _ _ _⟩
 ·have hl : (olds ++ news).length = (ol ++ nw).length := by simp [ho.1,hn.1]
  have : (((olds ++ news).toArray ++ Builtin.zeroCells z.cells (grownCap w (sLen + n) sCap e - (sLen + n))).toList.take (ol ++ nw).length) = olds ++ news := by
   have e : ((olds ++ news).toArray ++ Builtin.zeroCells z.cells (grownCap w (sLen + n) sCap e - (sLen + n))).toList = (olds ++ news) ++ (Builtin.zeroCells z.cells (grownCap w (sLen + n) sCap e - (sLen + n))).toList := by simp
   rw [e,← hl,List.take_left]
  rw [this]
  exact ho.append hn
 ·have h1 := ho.1
  have h2 := hn.1
  simp; omega
 ·have h3 := grownCap_le w (sLen + n) sCap e
  have h4 := hs.newsLen
  simp only [Array.size_append,List.size_toArray,List.length_append,zeroCells_size,K.zsize,hol,h4]
  have := mul_split (e := i.size) h3
  rw [Nat.add_mul] at this
  omega
end
end Go.Proofs.YtldidldbhngmnaaGreatDoor
namespace Go.Proofs.YtldidldbhngmnaaGreatDoor
open Go
section
variable {P : Program} {E : Env P}
theorem elB {t esz bts : Nat} (h : elemB P t esz bts = true) : ∃ e i z,El P t e i z esz bts := by
 unfold elemB at h
 split at h
 ·rename_i e hu
  simp only [Bool.and_eq_true,decide_eq_true_eq] at h
  obtain ⟨⟨⟨h1,h2⟩,h3⟩,h4⟩ := h
  unfold szB at h1
  unfold bytesB at h2
  unfold zsizeB at h4
  cases hi : P.info? e with
  | none => rw [hi] at h1; cases h1
  | some i =>
   rw [hi] at h1 h2 h4
   cases hz : i.zero with
   | none => simp only [hz] at h4; cases h4
   | some z =>
    simp only [hz] at h4
    exact ⟨e,i,z,hu,hi,hz,by simpa using h1,by simpa using h2,by simpa using h4,h3⟩
 ·cases h
theorem app_unknown {ι : Nm} {σ : St} {w : World} (R : Rep ι σ w) {t tx ty e : TypeId} {i : TypeInfo} {z : Value} {esz bts : Nat} (K : El P t e i z esz bts) {p : Pos} {o len n : Nat} {l : List V} {kin : List Pos}
  (hg : T.get p σ.h = some (.cells l kin false false)) (hle : o + len * esz = l.length) {s' x' : Value} (vs : VR ι (.slice p o len none esz) s') {nw : List V} {news : List Value} (hs : Src P esz tx x' n news w) (hn : VRs ι nw news) (hp : lall plainV nw = true) (hn0 : 0 < n)
  (hb : (len + n) * bts ≤ 1099511627776 ∧ len + n ≤ 1099511627776) :
  ∃ ι' w' v',(Builtin.append_ #[t,tx] ty #[s',x']).run P w = .ok v' w' ∧ VR ι' (.slice σ.nx 0 (len + n) none esz) v' ∧
   Rep ι' ⟨T.set (.cells (l.drop o ++ nw) (p :: kin) false false) σ.nx (T.set (.cells l kin true false) p σ.h),σ.nx.succ⟩ w' ∧
   G σ.nx.nat ι σ w ι' ⟨T.set (.cells (l.drop o ++ nw) (p :: kin) false false) σ.nx (T.set (.cells l kin true false) p σ.h),σ.nx.succ⟩ w' := by
 obtain ⟨pl,a,c,k1,k2,k3,k4,k5,k6,rfl⟩ := vs.slice_inv
 obtain ⟨pl0,c0,e0,g1,g2,g3,g4,g5,g6⟩ := R.ob p _ hg
 rw [k1] at g1; cases g1
 obtain ⟨f1,f2⟩ := R.fresh
 have hsucc := Pos.succ_nat σ.nx
 have hnl := hs.newsLen
 have hnl' := hn.1
 by_cases hroom : len + n ≤ c
 ·-- in place
  have k5 := k5 (by omega)
  subst k5
  have hi' := K.hi
  have e1 := K.size
  subst e1
  have hmul : (len + n) * i.size ≤ c * i.size := Nat.mul_le_mul_right _ hroom
  rw [Nat.add_mul] at hmul
  have hrun := run_append_room_src (P := P) w t tx ty e i K.ht K.hi pl.blk (pl.st + o) len c x' n news hs hroom
   (fun j hj => by
    have : pl.st + o + len * i.size + j < c0.size := by omega
    rw [cell?_blk g3]; simp [this])
   (fun j hj => frozen_blk g3 _)
  have hset := setCells_upd news w pl.blk (pl.st + o + len * i.size) c0 e0 g3 (by omega)
  have heq : pl.st + o + len * i.size = pl.st + l.length := by omega
  obtain ⟨q1,q2⟩ := R.appendIn hg k1 (o := o) (by omega) hn (by omega) (p' := σ.nx) f1 f2 (nx := σ.nx.succ) (by omega) (by omega) (N := σ.nx.nat) (Nat.le_refl _)
  refine ⟨nmSet ι σ.nx ⟨pl.blk,pl.st + o,pl.sz,0⟩,_,_,hrun,?_,?_⟩
  ·have := VR.slice (ι := nmSet ι σ.nx ⟨pl.blk,pl.st + o,pl.sz,0⟩) σ.nx 0 (len + n) none i.size _ ⟨pl.blk,pl.st + o,none⟩ c (nmSet_self _ _ _) rfl (fun _ h => by cases h) hroom (fun _ => rfl) (by simpa using k6)
   exact this
  ·rw [hset,heq]
   exact ⟨q1,q2⟩
 ·-- anew
  have hold : (Builtin.firstCells esz len (.slice (some a) len c)).run P w.drew = .ok ((c0.toList.drop (pl.st + o)).take (len * esz)).toArray w.drew := by
   have hll : ((c0.toList.drop (pl.st + o)).take (len * esz)).length = len * esz := by simp; omega
   refine run_firstCells_some w.drew esz len a len c _ hll ?_
   intro j u hu
   rw [List.getElem?_take] at hu
   split at hu
   ·rename_i hj
    have hlen : len ≠ 0 := fun e => by subst e; simp at hj
    have k5 := k5 (by omega)
    subst k5
    rw [List.getElem?_drop] at hu
    rw [addr_add]
    have : (w.drew).cell? ⟨pl.blk,pl.st + o + j,none⟩ = w.cell? ⟨pl.blk,pl.st + o + j,none⟩ := rfl
    rw [this,cell?_blk g3]
    simpa using hu
   ·cases hu
  have hol : VRs ι (l.drop o) ((c0.toList.drop (pl.st + o)).take (len * esz)) := by
   refine ⟨by simp; omega,fun i x y hx hy => ?_⟩
   rw [List.getElem?_take] at hy
   split at hy
   ·rw [List.getElem?_drop] at hx hy
    exact g6 (o + i) x y hx (by rw [← Nat.add_assoc]; simpa using hy)
   ·cases hy
  obtain ⟨cc,cap,h1,h2,h3,h4,h5⟩ := grow_sound R K (ty := ty) hold hol (by simp; omega) hs hn (by omega) hb
  have R1 := (R.weaken (p := p) (ob := .cells l kin true false) hg rfl (fun _ => rfl) rfl (Nat.le_refl _) ⟨pl,c0,e0,k1,g2,g3,g4,g5,g6⟩).drew
  have hp2 : T.get σ.nx (T.set (Ob.cells l kin true false) p σ.h) = none := by
   rw [T.get_set,if_neg (fun e => by rw [← e] at hg; rw [f2] at hg; cases hg)]; exact f2
  have hpl0 : PlOk (w.drew.alloc (.cells cc e)) ⟨w.drew.heap.size,0,cc.size,0⟩ :=
   ⟨fun _ => ⟨cc,e,by rw [heap_alloc_if,if_pos rfl],rfl⟩,(fun h => by cases h),(fun h => by cases h),(fun h => by cases h),Nat.zero_le _⟩
  obtain ⟨q1,q2⟩ := R1.push (p := σ.nx) (nx := σ.nx.succ) (ob := .cells (l.drop o ++ nw) (p :: kin) false false) (ro := .cells cc e) (sz := cc.size) (kd := 0) f1 hp2 (by show σ.nx.nat ≤ _; omega) (by omega)
   (fun q hq => by
    simp only [Ob.kin,List.mem_cons] at hq
    rcases hq with rfl | hq
    ·exact ⟨_,by rw [T.get_set,if_pos rfl],rfl⟩
    ·obtain ⟨o2,h6⟩ := R.kpres p _ q hg hq
     have h7 := R.kin p _ q o2 hg hq h6
     by_cases hqp : q = p
     ·subst hqp; exact ⟨_,by rw [T.get_set,if_pos rfl],rfl⟩
     ·exact ⟨o2,by rw [T.get_set,if_neg hqp]; exact h6,h7⟩)
   ⟨_,cc,e,nmSet_self _ _ _,rfl,by rw [heap_alloc_if,if_pos rfl],rfl,by simpa using h3,fun i x y hx hy => by
    have hlt : i < (l.drop o ++ nw).length := (List.getElem?_eq_some_iff.1 hx).1
    refine (h2.2 i x y hx ?_).mono (nmSet_ext f1)
    rw [List.getElem?_take,if_pos hlt]
    simpa using hy⟩ hpl0 (N := σ.nx.nat) (Nat.le_refl _)
  refine ⟨nmSet ι σ.nx ⟨w.drew.heap.size,0,cc.size,0⟩,_,_,h1,?_,q1,?_⟩
  ·have := VR.slice (ι := nmSet ι σ.nx ⟨w.drew.heap.size,0,cc.size,0⟩) σ.nx 0 (len + n) none esz _ ⟨w.drew.heap.size,0,none⟩ cap (nmSet_self _ _ _) rfl (fun _ h => by cases h) h5 (fun _ => rfl) (by simpa using h4)
   exact this
  ·-- the frame: from σ to where p is frozen nothing has turned
   have himg : ∀ r,Img ι ⟨T.set (.cells l kin true false) p σ.h,σ.nx⟩ r → Img ι σ r := by
    rintro r ⟨q,o',pq,h8,h9,h10,h11⟩
    simp only at h8
    rw [T.get_set] at h8
    split at h8
    ·cases h8; cases h9
    ·exact ⟨q,o',pq,h8,h9,h10,h11⟩
   exact ⟨q2.ext,q2.old,q2.nx,q2.size,q2.os,q2.tape,q2.out,fun r hr hi => q2.keep r hr (fun hh => hi (himg r hh)),fun r hr hh => himg r (q2.img r hr hh),fun q pq h8 h9 h10 => himg _ (q2.new q pq h8 h9 h10)⟩
set_option maxHeartbeats 1000000 in
theorem e_app (s x : Arg) (esz bts : Nat) (str : Bool) : ESound E (.app s x esz bts str) := by
 intro n ι A b σ σ' w o v F L R hok h
 obtain ⟨d,op,ty,pos,af,g⟩ := o
 cases op <;> simp only [okE,Bool.false_eq_true] at hok
 rename_i cc
 obtain ⟨cal,args,ats⟩ := cc
 split at hok
 ·rename_i c' a1 a2 he
  cases he
  split at hok
  ·rename_i s' x' t tx ha ht
   simp only [Bool.and_eq_true] at hok
   obtain ⟨⟨⟨h1,h2⟩,h3⟩,h4⟩ := hok
   obtain ⟨e,i,z,K⟩ := elB h3
   obtain rfl : ats = #[t,tx] := Array.toList_inj.1 ht
   have hx := ev_sound F L h2
   have hsv := ev_sound F L h1
   have fin : ∀ {ι' w' v'},(Builtin.append_ #[t,tx] ty #[b.eval s',b.eval x']).run P w = .ok v' w' → VR ι' v v' → Rep ι' σ' w' → G σ.nx.nat ι σ w ι' σ' w' →
     ∃ ι' w',((∃ v',(execOp b.eval ⟨d,.call ⟨.builtin .append,args,#[t,tx]⟩,ty,pos,af,g⟩).run P w = .ok (.value v') w' ∧ VR ι' v v') ∨ ((execOp b.eval ⟨d,.call ⟨.builtin .append,args,#[t,tx]⟩,ty,pos,af,g⟩).run P w = .ok .skip w' ∧ v = .u)) ∧ Rep ι' σ' w' ∧ G σ.nx.nat ι σ w ι' σ' w' :=
    fun hr hv q1 q2 => ⟨_,_,Or.inl ⟨_,extwo (f := Builtin.append_) (fun _ _ _ _ => rfl) ha hr,hv⟩,q1,q2⟩
   simp only [eev] at h
   split at h
   ·rename_i n' news hsrc
    split at h
    ·-- nothing
     obtain ⟨nw',hs,hn⟩ := src_sound R hx hsrc (Or.inl rfl) h4
     have e1 := K.size
     split at h
     ·rename_i hnil
      simp only [Option.some.injEq,Prod.mk.injEq] at h
      obtain ⟨rfl,rfl⟩ := h
      rw [hnil] at hsv
      have hz := hsv.nils_inv
      rw [hz] at fin hsv
      exact fin (app_zero K.ht K.hi (by rw [e1]; exact hs) (Nat.le_refl 0)) hsv R (G.refl _ _ _ _)
     ·rename_i p o len cap es hsl
      split at h
      ·simp only [Option.some.injEq,Prod.mk.injEq] at h
       obtain ⟨rfl,rfl⟩ := h
       rw [hsl] at hsv
       obtain ⟨pl,a,c,k1,k2,k3,k4,k5,k6,k7⟩ := hsv.slice_inv
       rw [k7] at fin hsv
       exact fin (app_zero K.ht K.hi (by rw [e1]; exact hs) k4) hsv R (G.refl _ _ _ _)
      ·cases h
     ·cases h
    ·rename_i n''
     split at h
     ·rename_i hpl
      obtain ⟨nw',hs,hn⟩ := src_sound R hx hsrc (Or.inr hpl) h4
      split at h
      ·-- onto nothing
       rename_i hnil
       split at h
       ·rename_i hb
        have hb := bound_le hb
        simp only [Option.some.injEq,Prod.mk.injEq] at h
        obtain ⟨rfl,rfl⟩ := h
        rw [hnil] at hsv
        have hz := hsv.nils_inv
        rw [hz] at fin
        obtain ⟨cc,cap,j1,j2,j3,j4,j5⟩ := grow_sound R K (ty := ty) (olds := []) (ol := []) (run_firstCells_none w.drew esz 0 0 0) .nil (by simp) hs hn (by omega) (by rw [Nat.zero_add]; exact hb)
        rw [List.nil_append] at j2 j3
        obtain ⟨q1,q2⟩ := R.drew.newCells (l := news) (c := cc) e j2 j3
        refine fin j1 ?_ q1 ((G.drew _ ι σ w).trans (Nat.le_refl _) q2)
        have := VR.slice (ι := nmSet ι σ.nx ⟨w.drew.heap.size,0,cc.size,0⟩) σ.nx 0 (n'' + 1) none esz _ ⟨w.drew.heap.size,0,none⟩ cap (nmSet_self _ _ _) rfl (fun _ h => by cases h) (by omega) (fun _ => rfl) (by simpa using j4)
        rw [Nat.zero_add]
        exact this
       ·cases h
      ·rename_i p o len cap es hsl
       split at h
       ·rename_i hb
        simp only [Bool.and_eq_true] at hb
        have hes : es = esz := Nat.eq_of_beq_eq_true hb.1
        subst hes
        have hb := bound_le hb.2
        have hb : (len + (n'' + 1)) * bts ≤ 1099511627776 ∧ len + (n'' + 1) ≤ 1099511627776 := hb
        rw [hsl] at hsv
        split at h
        ·-- it is known how much it may hold
         rename_i c
         split at h
         ·rename_i hroom
          have hroom : len + (n'' + 1) ≤ c := ble_le hroom
          split at h
          ·rename_i l kin fz ro hg
           split at h
           ·rename_i hw
            obtain ⟨rfl,rfl,hle⟩ := wr_inv hw
            have hle := ble_le hle
            rw [llen_eq] at hle
            have hle : o + (len + (n'' + 1)) * es ≤ l.length := hle
            rw [Nat.add_mul] at hle
            simp only [Option.some.injEq,Prod.mk.injEq] at h
            obtain ⟨rfl,rfl⟩ := h
            obtain ⟨pl,a,c1,k1,k2,k3,k4,k5,k6,k7⟩ := hsv.slice_inv
            have := k3 c rfl
            subst this
            have k5 := k5 (by omega)
            subst k5
            rw [k7] at fin
            obtain ⟨pl0,c0,e0,g1,g2,g3,g4,g5,g6⟩ := R.ob p _ hg
            rw [k1] at g1; cases g1
            have e1 := K.size
            subst e1
            have hnl : nw'.length = (n'' + 1) * i.size := hs.newsLen
            have hnl' := hn.1
            have hrun := run_append_room_src (P := P) w t tx ty e i K.ht K.hi pl.blk (pl.st + o) len c1 (b.eval x') (n'' + 1) nw' hs hroom
             (fun j hj => by
              have : pl.st + o + len * i.size + j < c0.size := by omega
              rw [cell?_blk g3]; simp [this])
             (fun j hj => frozen_blk g3 _)
            have hset := setCells_upd nw' w pl.blk (pl.st + o + len * i.size) c0 e0 g3 (by omega)
            obtain ⟨q1,q2⟩ := R.put (N := σ.nx.nat) hg k1 (o := o + len * i.size) hn (by omega)
            have heq : pl.st + o + len * i.size = pl.st + (o + len * i.size) := by omega
            rw [hset,heq] at hrun
            refine fin hrun ?_ q1 q2
            exact .slice p o _ (some c1) i.size pl _ c1 k1 k2 (fun m hm => by cases hm; rfl) hroom (fun _ => rfl) k6
           ·cases h
          ·cases h
         ·rename_i hroom
          have hroom : ¬ len + (n'' + 1) ≤ c := fun hh => by
           have : Nat.ble (len.add (n'' + 1)) c = true := Nat.ble_eq_true_of_le hh
           rw [this] at hroom; cases hroom
          split at h
          ·rename_i olds hold
           simp only [Option.some.injEq,Prod.mk.injEq] at h
           obtain ⟨rfl,rfl⟩ := h
           obtain ⟨a,len2,c2,l',j1,j2,j3,j4,j5,j6⟩ := sliceCells_sound R hsv hold
           simp only [lenOfV] at j6
           subst j6
           obtain ⟨pl,a',c1,k1,k2,k3,k4,k5,k6,k7⟩ := hsv.slice_inv
           have := k3 c rfl
           subst this
           rw [k7] at j1
           simp only [Value.slice.injEq] at j1
           obtain ⟨rfl,_,rfl⟩ := j1
           rw [k7] at fin
           have hf : (Builtin.firstCells es len2 (.slice (some a') len2 c1)).run P w.drew = .ok l'.toArray w.drew := run_firstCells_some w.drew es len2 a' len2 c1 l' j3 (fun j u hu => j4 a' rfl j u hu)
           obtain ⟨cc,cap,m1,m2,m3,m4,m5⟩ := grow_sound R K (ty := ty) hf j2 j3 hs hn (by omega) hb
           obtain ⟨q1,q2⟩ := R.drew.newCells (l := olds ++ news) (c := cc) e m2 m3
           rw [lapp_eq] at *
           refine fin m1 ?_ q1 ((G.drew _ ι σ w).trans (Nat.le_refl _) q2)
           have := VR.slice (ι := nmSet ι σ.nx ⟨w.drew.heap.size,0,cc.size,0⟩) σ.nx 0 (len2 + (n'' + 1)) none es _ ⟨w.drew.heap.size,0,none⟩ cap (nmSet_self _ _ _) rfl (fun _ h => by cases h) m5 (fun _ => rfl) (by simpa using m4)
           exact this
          ·cases h
        ·-- it is not
         split at h
         ·rename_i l kin fz ro hg
          split at h
          ·rename_i hw
           obtain ⟨rfl,rfl,hle⟩ := wr_inv hw
           have hle := ble_le hle
           rw [llen_eq] at hle
           have hle : o + len * es ≤ l.length := hle
           split at h
           ·rename_i hex
            have hex : o + len * es = l.length := by have := Nat.eq_of_beq_eq_true hex; rw [llen_eq] at this; exact this
            simp only [Option.some.injEq,Prod.mk.injEq] at h
            obtain ⟨rfl,rfl⟩ := h
            obtain ⟨ι',w',v',m1,m2,m3,m4⟩ := app_unknown R K (ty := ty) hg hex hsv hs hn hpl (by omega) hb
            rw [lapp_eq,ldrop_eq] at *
            exact fin m1 m2 m3 m4
           ·simp only [Option.some.injEq,Prod.mk.injEq] at h
            obtain ⟨rfl,rfl⟩ := h
            obtain ⟨pl,a',c1,k1,k2,k3,k4,k5,k6,k7⟩ := hsv.slice_inv
            have hlt : (l.take (o + len * es)).length = o + len * es := by simp; omega
            obtain ⟨q1,q2⟩ := R.store (N := σ.nx.nat) hg k1 (l' := l.take (o + len * es)) (f := id) (by omega) (fun _ _ => rfl) (fun c hc hl hcc i x y hix hiy => by
             rw [List.getElem?_take] at hix
             split at hix
             ·exact hcc i x y hix hiy
             ·cases hix)
            rw [upd_id] at q1 q2
            obtain ⟨ι',w',v',m1,m2,m3,m4⟩ := app_unknown q1 K (ty := ty) (p := p) (o := o) (len := len) (l := l.take (o + len * es)) (kin := []) (by rw [T.get_set,if_pos rfl]) hlt.symm hsv hs hn hpl (by omega) hb
            rw [lapp_eq,ldrop_eq,ltake_eq] at *
            simp only [T.set_set] at m3 m4
            exact fin m1 m2 m3 (q2.trans (Nat.le_refl _) m4)
          ·cases h
         ·cases h
       ·cases h
      ·cases h
     ·cases h
   ·cases h
  ·cases hok
 ·cases hok
end
end Go.Proofs.YtldidldbhngmnaaGreatDoor
namespace Go.Proofs.YtldidldbhngmnaaGreatDoor
open Go
section
variable {P : Program} {E : Env P}
theorem Rep.newMap {ι : Nm} {σ : St} {w : World} (R : Rep ι σ w) (ks : KSh) :
  Rep (nmSet ι σ.nx ⟨w.heap.size,0,0,1⟩) ⟨T.set (.map [] 0 ks) σ.nx σ.h,σ.nx.succ⟩ (w.alloc (.map #[] 0)) ∧
  G σ.nx.nat ι σ w (nmSet ι σ.nx ⟨w.heap.size,0,0,1⟩) ⟨T.set (.map [] 0 ks) σ.nx σ.h,σ.nx.succ⟩ (w.alloc (.map #[] 0)) := by
 obtain ⟨h1,h2⟩ := R.fresh
 have hn := Pos.succ_nat σ.nx
 refine R.push (nx := σ.nx.succ) h1 h2 (by omega) (by omega) (fun q hq => by cases hq) ?_ ?_ (Nat.le_refl _)
 ·exact ⟨_,#[],nmSet_self _ _ _,rfl,by rw [heap_alloc_if,if_pos rfl],rfl,(fun i x y h => by simp at h),(fun i x h => by simp at h),(fun i j x y h => by simp at h)⟩
 ·exact ⟨(fun h => by cases h),(fun _ => ⟨#[],0,by rw [heap_alloc_if,if_pos rfl]⟩),(fun h => by cases h),(fun h => by cases h),(by show 1 ≤ 3; omega)⟩
theorem e_mkm (ks : KSh) : ESound E (.mkm ks) := by
 intro n ι A b σ σ' w o v F L R hok h
 obtain ⟨d,op,ty,pos,af,g⟩ := o
 cases op <;> simp only [okE,Bool.false_eq_true,Bool.and_eq_true] at hok
 rename_i t r
 obtain ⟨h1,h2⟩ := hok
 simp only [eev,Option.some.injEq,Prod.mk.injEq] at h
 obtain ⟨rfl,rfl⟩ := h
 obtain ⟨q1,q2⟩ := R.newMap ks
 refine ⟨_,_,Or.inl ⟨.map (some w.heap.size),exv2 (s := Instr.makeMap t (r.map b.eval)) rfl ?_,.map _ _ (nmSet_self _ _ _) rfl⟩,q1,q2⟩
 split at h2
 ·rename_i k e hu
  split at h1
  ·simp only [Option.map_none,Instr.makeMap,newObj,Sem.run_bind,Sem.run,Result.andThen,Sem.run_pure]; rfl
  ·simp only [Option.map_some,Act.eval,Instr.makeMap,Sem.run_bind,run_underlying hu,Result.andThen_ok,asInt,asIntOf,Sem.run_pure,newObj,Sem.run,Result.andThen]; rfl
  ·cases h1
 ·cases h2
theorem lrep_eq (z : List V) (n : Nat) : lrep z n = (List.replicate n z).flatten := by
 induction n with
 | zero => rfl
 | succ n ih => show lapp z (lrep z n) = _; rw [lapp_eq,ih,List.replicate_succ,List.flatten_cons]
theorem zero_row {ι : Nm} {z : List V} {zv : Value} (hz : VRs ι z zv.cells.toList) (c : Nat) (hpos : 0 < z.length) : VRs ι (lrep z c) ((Array.range (c * z.length)).map (zv.cells[· % zv.cells.size]!)).toList := by
 have hsz : zv.cells.size = z.length := by have := hz.1; simp at this; omega
 rw [lrep_eq]
 refine ⟨by simp,fun i x y hx hy => ?_⟩
 simp only [Array.toList_map,List.getElem?_map] at hy
 have hx' : z[i % z.length]? = some x := by
  clear hy
  induction c generalizing i with
  | zero => simp at hx
  | succ c ih =>
   rw [List.replicate_succ,List.flatten_cons] at hx
   by_cases hi : i < z.length
   ·rw [List.getElem?_append_left hi] at hx
    rw [Nat.mod_eq_of_lt hi]; exact hx
   ·rw [List.getElem?_append_right (by omega)] at hx
    have := ih (i - z.length) hx
    rw [Nat.mod_eq_sub_mod (by omega)]
    exact this
 have hlt : i < c * z.length := by
  have := (List.getElem?_eq_some_iff.1 hx).1
  simpa using this
 have hr : (Array.range (c * z.length)).toList[i]? = some i := by simp [hlt]
 rw [hr] at hy
 simp only [Option.map_some,Option.some.injEq] at hy
 subst hy
 rw [hsz]
 have hm := Nat.mod_lt i hpos
 have hlt2 : i % z.length < zv.cells.size := by omega
 refine hz.2 (i % z.length) x _ hx' ?_
 rw [Array.getElem?_toList,Array.getElem?_eq_getElem hlt2]
 congr 1
 exact (getElem!_pos zv.cells _ hlt2).symm
theorem e_mks (len cap : Arg) (z : List V) (esz bts : Nat) : ESound E (.mks len cap z esz bts) := by
 intro n ι A b σ σ' w o v F L R hok h
 obtain ⟨d,op,ty,pos,af,g⟩ := o
 cases op <;> simp only [okE,Bool.false_eq_true,Bool.and_eq_true] at hok
 rename_i t l' c'
 obtain ⟨⟨h1,h2⟩,h3⟩ := hok
 split at h3
 ·rename_i e hu
  simp only [Bool.and_eq_true,beq_iff_eq,decide_eq_true_eq] at h3
  obtain ⟨⟨⟨⟨h4,h5⟩,h6⟩,h7⟩,h8⟩ := h3
  obtain ⟨zv,hz,hzv⟩ := zeroB_inv h6
  simp only [eev] at h
  split at h
  ·rename_i k l hl
   split at h
   ·rename_i k2 c hc
    split at h
    ·rename_i l1 hl1
     split at h
     ·rename_i c1 hc1
      split at h
      ·rename_i hle
       obtain ⟨hle1,hle2⟩ := and_ble hle
       simp only [Option.some.injEq,Prod.mk.injEq] at h
       obtain ⟨rfl,rfl⟩ := h
       have e1 := natOf_inv hl1
       have e2 := natOf_inv hc1
       subst e1; subst e2
       obtain ⟨k3,_⟩ := (ev_as F L h1 hl).int_inv
       obtain ⟨k4,_⟩ := (ev_as F L h2 hc).int_inv
       have hle2 : c1 * (bts + 1) ≤ 1099511627776 := hle2
       rw [Nat.mul_add] at hle2
       subst h7
       have hrow := zero_row (hzv ι) c1 h8
       obtain ⟨q1,q2⟩ := R.newCells (l := lrep z c1) (c := (Array.range (c1 * z.length)).map (zv.cells[· % zv.cells.size]!)) e (by rw [hrow.1,List.take_length]; exact hrow) (by have := hrow.1; simp at this; simp; omega)
       refine ⟨_,_,Or.inl ⟨.slice (some ⟨w.heap.size,0,none⟩) l1 c1,exv2 (s := Instr.makeSlice t (b.eval l') (b.eval c')) rfl ?_,?_⟩,q1,q2⟩
       ·unfold bytesB at h5
        split at h5
        ·rename_i i hi
         have hb : i.bytes = bts := by simpa using h5
         have hw : ∀ m : Nat,m ≤ 1099511627776 → IntKind.i64.wrap (m : Int) = m := fun m hm => wrap_id (by
          unfold IntKind.has IntKind.min IntKind.max
          simp only [IntKind.bits,IntKind.signed,if_true,p63]
          omega)
         have hw1 := hw l1 (by omega)
         have hw2 := hw c1 (by omega)
         have hbc : bts * c1 ≤ 1099511627776 := by rw [Nat.mul_comm]; omega
         have hbci : ((bts : Int) * (c1 : Int)) ≤ 1099511627776 := by rw [← Int.natCast_mul]; omega
         simp only [Instr.makeSlice,Sem.run_bind,run_underlying hu,Result.andThen_ok,k3,k4,asInt,asIntOf,Sem.run_pure,typeInfo,program,Sem.run,hi,hw1,hw2,hb]
         have t1 : decide ((c1 : Int) < 0) = false := decide_eq_false (by omega)
         have p48 : (2 : Int) ^ 48 = 281474976710656 := rfl
         have t2 : decide ((bts : Int) * (c1 : Int) > 2 ^ 48) = false := decide_eq_false (by rw [p48]; omega)
         have t3 : decide ((l1 : Int) < 0) = false := decide_eq_false (by omega)
         have t4 : decide ((l1 : Int) > (c1 : Int)) = false := decide_eq_false (by omega)
         clear p48
         rw [t1,t2,t3,t4]
         rw [if_neg (by decide)]
         have hroom : askRoom ((c1 : Int).toNat * bts) = pure () := by
          unfold askRoom roomBytes
          rw [if_neg (by simp; omega)]
         rw [hroom]
         simp only [Sem.run_pure,Result.andThen_ok,Sem.run_bind,run_szB h4,Int.toNat_natCast]
         by_cases hc0 : c1 = 0
         ·subst hc0
          rw [if_pos (by simp)]
          have e0 : ∀ f : Nat → Value,(Array.range (0 * z.length)).map f = #[] := fun f => by simp
          simp only [Sem.run_bind,Sem.run_pure,Result.andThen_ok,newRow,newObj,Sem.run,Result.andThen,e0]
          rfl
         ·have : ¬ c1 * z.length = 0 := Nat.mul_ne_zero hc0 (by omega)
          rw [if_neg this]
          simp only [Sem.run_bind,hz,Result.andThen_ok,Sem.run_pure,newRow,newObj,Sem.run,Result.andThen]
          rfl
        ·cases h5
       ·have := VR.slice (ι := nmSet ι σ.nx ⟨w.heap.size,0,((Array.range (c1 * z.length)).map (zv.cells[· % zv.cells.size]!)).size,0⟩) σ.nx 0 l1 (some c1) z.length _ ⟨w.heap.size,0,none⟩ c1 (nmSet_self _ _ _) rfl (fun m hm => by cases hm; rfl) hle1 (fun _ => rfl) (by simp)
        exact this
      ·cases h
     ·cases h
    ·cases h
   ·cases h
  ·cases h
 ·cases h3
end
end Go.Proofs.YtldidldbhngmnaaGreatDoor
