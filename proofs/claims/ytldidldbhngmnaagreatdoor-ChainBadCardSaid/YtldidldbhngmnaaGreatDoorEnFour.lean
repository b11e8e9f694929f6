/-
  Part of the proof, joined from several texts.
-/
import Derived.Test.YtldidldbhngmnaaGreatDoorEnThree
import Derived.OrdersIn
import Derived.TacticsIn
import Derived.RangeFuncSeq
import Derived.RangeFuncGives
import Derived.RangeFuncLeaves
import Derived.RangeFuncOwn
import Derived.RangeFuncKeeps
import Derived.RangeFuncFrom
import Derived.ProofKit
import Derived.Test.YtldidldbhngmnaaGreatDoorEnOne
import Derived.Test.YtldidldbhngmnaaGreatDoorProg
import Derived.Maps.AppendAt
import Derived.Shelf.Abstract
import Derived.Shelf.AbstractIn
import Derived.Sort.MapsRangeIn
import Derived.WalkKit
import Derived.TacticsInMore
import Derived.RegionIn
import Derived.LoopNIn
import Derived.LoopIn
import Derived.Maps.RangeRun
import Derived.Below
import Derived.OwnWalkIn
import Derived.Deep.AppendSrc
import Derived.Lib.Bytealg
import Derived.Handy
import Derived.Shelf.SlSortCmp.NoneTotal
import Derived.Deep.RegionWith
set_option linter.unusedVariables false
set_option linter.unusedSimpArgs false
set_option linter.unusedSectionVars false
namespace Go.Proofs.YtldidldbhngmnaaGreatDoor
open Go Go.RowKit
noncomputable def ren (ri : Pos → Option Pos) (v : V) : V := V.rec (motive_1 := fun _ => V) (motive_2 := fun _ => List V) .u (fun b => .bool b) (fun k n => .int k n) (fun l => .str l) .nilp
 (fun p o => match ri p with | some q => .ptr q o | none => .u) .nils (fun p o len cap esz => match ri p with | some q => .slice q o len cap esz | none => .u) .nilm (fun p => match ri p with | some q => .map q | none => .u)
 .nilf (fun f _ _ x y => .fn f x y) .nili (fun t _ x => .iface t x) (fun _ x => .agg x) (fun _ x => .tup x) (fun p => match ri p with | some q => .itr q | none => .u) [] (fun _ _ x xs => x :: xs) v
noncomputable def renL (ri : Pos → Option Pos) (l : List V) : List V := List.rec (motive := fun _ => List V) [] (fun v _ ih => ren ri v :: ih) l
theorem renL_eq (ri : Pos → Option Pos) : ∀ l,renL ri l = l.map (ren ri)
 | [] => rfl
 | v :: l => by show ren ri v :: renL ri l = _; rw [renL_eq ri l]; rfl
theorem ren_list (ri : Pos → Option Pos) : ∀ l : List V,(V.rec_1 (motive_1 := fun _ => V) (motive_2 := fun _ => List V) .u (fun b => .bool b) (fun k n => .int k n) (fun l => .str l) .nilp
 (fun p o => match ri p with | some q => .ptr q o | none => .u) .nils (fun p o len cap esz => match ri p with | some q => .slice q o len cap esz | none => .u) .nilm (fun p => match ri p with | some q => .map q | none => .u)
 .nilf (fun f _ _ x y => .fn f x y) .nili (fun t _ x => .iface t x) (fun _ x => .agg x) (fun _ x => .tup x) (fun p => match ri p with | some q => .itr q | none => .u) [] (fun _ _ x xs => x :: xs) l : List V) = l.map (ren ri)
 | [] => rfl
 | v :: l => by
  show ren ri v :: _ = _
  rw [ren_list ri l]
  rfl
theorem ren_agg (ri : Pos → Option Pos) (l : List V) : ren ri (.agg l) = .agg (l.map (ren ri)) := by
 rw [← ren_list]; rfl
theorem ren_tup (ri : Pos → Option Pos) (l : List V) : ren ri (.tup l) = .tup (l.map (ren ri)) := by
 rw [← ren_list]; rfl
theorem ren_fn (ri : Pos → Option Pos) (f : Nat) (x y : List V) : ren ri (.fn f x y) = .fn f (x.map (ren ri)) (y.map (ren ri)) := by
 rw [← ren_list,← ren_list]; rfl
theorem VR.ren {ri : Pos → Option Pos} {ι ι2 : Nm} (h : ∀ p q,ri p = some q → ι2 q = ι p) {v : V} {y : Value} (hv : VR ι v y) : VR ι2 (ren ri v) y := by
 induction hv with
 | u v => exact .u v
 | bool b => exact .bool b
 | int k n hn => exact .int k n hn
 | str l s hs => exact .str l s hs
 | nilp => exact .nilp
 | ptr p o pl hp hk =>
  show VR ι2 (match ri p with | some q => .ptr q o | none => .u) _
  cases hr : ri p with
  | none => exact .u _
  | some q => exact .ptr q o pl ((h p q hr).trans hp) hk
 | nils => exact .nils
 | slice p o len cap esz pl a c hp hk hc hl ha hs =>
  show VR ι2 (match ri p with | some q => .slice q o len cap esz | none => .u) _
  cases hr : ri p with
  | none => exact .u _
  | some q => exact .slice q o len cap esz pl a c ((h p q hr).trans hp) hk hc hl ha hs
 | nilm => exact .nilm
 | map p pl hp hk =>
  show VR ι2 (match ri p with | some q => .map q | none => .u) _
  cases hr : ri p with
  | none => exact .u _
  | some q => exact .map q pl ((h p q hr).trans hp) hk
 | nilf => exact .nilf
 | fn f x y x' y' hx hy h1 h2 ih1 ih2 =>
  rw [ren_fn]
  refine .fn f _ _ x' y' (by simpa using hx) (by simpa using hy) (fun i a b ha hb => ?_) (fun i a b ha hb => ?_)
  ·rw [List.getElem?_map] at ha
   cases hx : x[i]? with
   | none => rw [hx] at ha; cases ha
   | some z => rw [hx] at ha; cases ha; exact ih1 i z b hx hb
  ·rw [List.getElem?_map] at ha
   cases hx : y[i]? with
   | none => rw [hx] at ha; cases ha
   | some z => rw [hx] at ha; cases ha; exact ih2 i z b hx hb
 | nili => exact .nili
 | iface t v v' hv ih => exact .iface t _ v' ih
 | agg l c hl hh ih =>
  rw [ren_agg]
  refine .agg _ c (by simpa using hl) (fun i a b ha hb => ?_)
  rw [List.getElem?_map] at ha
  cases hx : l[i]? with
  | none => rw [hx] at ha; cases ha
  | some z => rw [hx] at ha; cases ha; exact ih i z b hx hb
 | itr p pl hp hk =>
  show VR ι2 (match ri p with | some q => .itr q | none => .u) _
  cases hr : ri p with
  | none => exact .u _
  | some q => exact .itr q pl ((h p q hr).trans hp) hk
 | tup l c hl hh ih =>
  rw [ren_tup]
  refine .tup _ c (by simpa using hl) (fun i a b ha hb => ?_)
  rw [List.getElem?_map] at ha
  cases hx : l[i]? with
  | none => rw [hx] at ha; cases ha
  | some z => rw [hx] at ha; cases ha; exact ih i z b hx hb
abbrev Vw := List (Pos × Pos)
noncomputable def bwd (l : Vw) (p : Pos) : Option Pos := List.rec (motive := fun _ => Option Pos) none (fun x _ ih => match x.2.beq p with | true => some x.1 | false => ih) l
noncomputable def fwd (l : Vw) (q : Pos) : Option Pos := List.rec (motive := fun _ => Option Pos) none (fun x _ ih => match x.1.beq q with | true => some x.2 | false => ih) l
theorem bwd_mem {p q : Pos} : ∀ {l : Vw},bwd l p = some q → (q,p) ∈ l
 | [],h => by cases h
 | x :: l,h => by
  have h : (match x.2.beq p with | true => some x.1 | false => bwd l p) = some q := h
  split at h
  ·rename_i hx
   rw [Pos.beq_eq] at hx
   have hx : x.2 = p := by simpa using hx
   cases h
   subst hx
   simp
  ·exact List.mem_cons_of_mem _ (bwd_mem h)
theorem fwd_mem {p q : Pos} : ∀ {l : Vw},fwd l q = some p → (q,p) ∈ l
 | [],h => by cases h
 | x :: l,h => by
  have h : (match x.1.beq q with | true => some x.2 | false => fwd l q) = some p := h
  split at h
  ·rename_i hx
   rw [Pos.beq_eq] at hx
   have hx : x.1 = q := by simpa using hx
   cases h
   subst hx
   simp
  ·exact List.mem_cons_of_mem _ (fwd_mem h)
noncomputable def isP (x : Option Pos) (p : Pos) : Bool := match x with | some q => q.beq p | none => false
theorem isP_eq {x : Option Pos} {p : Pos} (h : isP x p = true) : x = some p := by
 cases x with
 | none => cases h
 | some q =>
  have h : q.beq p = true := h
  rw [Pos.beq_eq] at h
  have : q = p := by simpa using h
  rw [this]
noncomputable def vwOk (N : Nat) (nx : Pos) (l : Vw) : Bool := lall (fun x => isP (fwd l x.1) x.2 && isP (bwd l x.2) x.1 && Nat.ble N x.1.nat && Nat.blt x.1.nat nx.nat) l
noncomputable def meR (ri : Pos → Option Pos) (e : ME) : ME := ⟨ren ri e.k,ren ri e.v,e.b⟩
noncomputable def renO (ri : Pos → Option Pos) (o : Ob) : Ob := match o with
 | .cells l _ fz ro => .cells (renL ri l) [] fz ro
 | .map es ck ks => .map (lmap (meR ri) es) ck ks
 | .mit _ _ _ _ => .dead
 | .sit l n => .sit l n
 | .dead => .dead
noncomputable def obVw (l : Vw) (o : Ob) : Bool := match o with
 | .cells _ kin _ _ => lall (fun p => match bwd l p with | none => true | some _ => false) kin
 | .map es _ _ => false
 | .mit _ _ _ _ => false
 | .sit _ _ => true
 | .dead => true
noncomputable def hView (l0 : Vw) (h : T Ob) (l : Vw) : T Ob := List.rec (motive := fun _ => T Ob) .nil (fun x _ ih => match T.get x.2 h with | some o => T.set (renO (bwd l0) o) x.1 ih | none => ih) l
noncomputable def hVwOk (l0 : Vw) (h : T Ob) (l : Vw) : Bool := lall (fun x => match T.get x.2 h with | some o => obVw l0 o | none => true) l
theorem hView_get {l0 : Vw} {h : T Ob} {q : Pos} {o : Ob} : ∀ {l : Vw},T.get q (hView l0 h l) = some o → ∃ p o',(q,p) ∈ l ∧ T.get p h = some o' ∧ o = renO (bwd l0) o'
 | [],hq => by have hq : T.get q (.nil : T Ob) = some o := hq; rw [T.get_nil] at hq; cases hq
 | x :: l,hq => by
  have hq : T.get q (match T.get x.2 h with | some o => T.set (renO (bwd l0) o) x.1 (hView l0 h l) | none => hView l0 h l) = some o := hq
  split at hq
  ·rename_i o1 ho
   rw [T.get_set] at hq
   split at hq
   ·rename_i e
    cases hq
    exact ⟨x.2,o1,by rw [e]; simp,ho,rfl⟩
   ·obtain ⟨p,o',h1,h2⟩ := hView_get hq
    exact ⟨p,o',List.mem_cons_of_mem _ h1,h2⟩
  ·obtain ⟨p,o',h1,h2⟩ := hView_get hq
   exact ⟨p,o',List.mem_cons_of_mem _ h1,h2⟩
noncomputable def nmView (N : Nat) (l : Vw) (ι : Nm) : Nm := fun q => match fwd l q with | some p => ι p | none => if q.nat < N then ι q else none
theorem renO_wr {ri : Pos → Option Pos} {o : Ob} (h : (renO ri o).wr = true) : o.wr = true := by cases o <;> first | exact h | (cases h)
theorem renO_live {ri : Pos → Option Pos} {o : Ob} (h : (renO ri o).live = true) : o.live = true := by cases o <;> first | rfl | exact h | (cases h)
theorem renO_kin (ri : Pos → Option Pos) (o : Ob) : (renO ri o).kin = [] := by cases o <;> rfl
theorem renO_len {ri : Pos → Option Pos} {o : Ob} : (renO ri o).len = o.len := by
 cases o with
 | cells l kin fz ro => simp [renO,Ob.len,renL_eq]
 | _ => rfl
theorem renO_wr' {l0 : Vw} {ri : Pos → Option Pos} {o : Ob} (hb : obVw l0 o = true) (h : o.wr = false) : (renO ri o).wr = false := by
 cases o <;> first | exact h | rfl | (cases hb)
section
variable {P : Program}
theorem Rep.view {ι : Nm} {σ : St} {w : World} (R : Rep ι σ w) {N : Nat} {l : Vw} {nx : Pos} (hl : vwOk N nx l = true) (hN : N ≤ nx.nat) (hh : hVwOk l σ.h l = true) : Rep (nmView N l ι) ⟨hView l σ.h l,nx⟩ w := by
 have hok : ∀ q p,(q,p) ∈ l → fwd l q = some p ∧ bwd l p = some q ∧ N ≤ q.nat ∧ q.nat < nx.nat := fun q p h => by
  unfold vwOk at hl
  rw [lall_eq] at hl
  have := List.all_eq_true.1 hl (q,p) h
  simp only [Bool.and_eq_true] at this
  have h3 := this.1.2
  have h4 := this.2
  rw [blt_eq] at h4
  exact ⟨isP_eq this.1.1.1,isP_eq this.1.1.2,ble_le h3,by simpa using h4⟩
 have hob : ∀ q p o,(q,p) ∈ l → T.get p σ.h = some o → obVw l o = true := fun q p o h ho => by
  unfold hVwOk at hh
  rw [lall_eq] at hh
  have := List.all_eq_true.1 hh (q,p) h
  simp only [ho] at this
  exact this
 have hri : ∀ p q,bwd l p = some q → nmView N l ι q = ι p := fun p q h => by
  unfold nmView
  rw [(hok q p (bwd_mem h)).1]
 have hnm : ∀ q p,(q,p) ∈ l → nmView N l ι q = ι p := fun q p h => hri p q (hok q p h).2.1
 constructor
 ·intro q o hq
  obtain ⟨p,o',h1,h2,rfl⟩ := hView_get hq
  have hr := R.ob p o' h2
  have hb := hob q p o' h1 h2
  cases o' with
  | cells c kin fz ro =>
   obtain ⟨pl,cc,e,k1,k2,k3,k4,k5,k6⟩ := hr
   refine ⟨pl,cc,e,(hnm q p h1).trans k1,k2,k3,k4,by rw [renL_eq]; simpa using k5,fun i x y hx hy => ?_⟩
   rw [renL_eq,List.getElem?_map] at hx
   cases hc : c[i]? with
   | none => rw [hc] at hx; cases hx
   | some z => rw [hc] at hx; cases hx; exact (k6 i z y hc hy).ren hri
  | map es ck ks => cases hb
  | mit m a b c => cases hb
  | sit s n =>
   obtain ⟨pl,ss,k1,k2,k3,k4⟩ := hr
   exact ⟨pl,ss,(hnm q p h1).trans k1,k2,k3,k4⟩
  | dead => trivial
 ·intro q pl hq
  unfold nmView at hq
  split at hq
  ·exact R.pl _ pl hq
  ·split at hq
   ·exact R.pl _ pl hq
   ·cases hq
 ·intro q pl hq
  unfold nmView at hq
  split at hq
  ·rename_i p hp; exact (hok q p (fwd_mem hp)).2.2.2
  ·split at hq
   ·show q.nat < nx.nat; omega
   ·cases hq
 ·intro q o hq
  obtain ⟨p,o',h1,h2,rfl⟩ := hView_get hq
  exact (hok q p h1).2.2.2
 ·intro q1 o1 q2 o2 a b g1 l1 g2 l2 i1 i2 hab hne
  obtain ⟨p1,o1',m1,t1,rfl⟩ := hView_get g1
  obtain ⟨p2,o2',m2,t2,rfl⟩ := hView_get g2
  rw [hnm q1 p1 m1] at i1
  rw [hnm q2 p2 m2] at i2
  have hpne : p2 ≠ p1 := fun e => by
   subst e
   have h1 := (hok q1 p2 m1).2.1
   have h2 := (hok q2 p2 m2).2.1
   rw [h1] at h2; cases h2
   exact hne rfl
  have nokin : ∀ q p o k,(q,p) ∈ l → T.get p σ.h = some o → k ∈ o.kin → bwd l k = none := fun q p o k h ho hk => by
   have hb := hob q p o h ho
   cases o with
   | cells c kin fz ro =>
    have hb : lall (fun p => match bwd l p with | none => true | some _ => false) kin = true := hb
    rw [lall_eq] at hb
    have := List.all_eq_true.1 hb k hk
    cases hbk : bwd l k with
    | none => rfl
    | some z => rw [hbk] at this; cases this
   | _ => cases hk
  rcases R.sep2 p1 o1' p2 o2' a b t1 (renO_live l1) t2 (renO_live l2) i1 i2 hab hpne with h | h | h
  ·have := nokin q1 p1 o1' p2 m1 t1 h
   rw [(hok q2 p2 m2).2.1] at this; cases this
  ·have := nokin q2 p2 o2' p1 m2 t2 h
   rw [(hok q1 p1 m1).2.1] at this; cases this
  ·refine .inr (.inr ⟨renO_wr' (hob q1 p1 o1' m1 t1) h.1,renO_wr' (hob q2 p2 o2' m2 t2) h.2.1,?_⟩)
   rw [renO_len,renO_len]
   exact h.2.2
 ·intro q o q2 o2 hq hk
  obtain ⟨p,o',h1,h2,rfl⟩ := hView_get hq
  rw [renO_kin] at hk; cases hk
 ·intro q o q2 hq hk
  obtain ⟨p,o',h1,h2,rfl⟩ := hView_get hq
  rw [renO_kin] at hk; cases hk
 ·intro q o q2 o2 a b hq hw hk
  obtain ⟨p,o',h1,h2,rfl⟩ := hView_get hq
  rw [renO_kin] at hk; cases hk
noncomputable def fView (ri : Pos → Option Pos) (A : T V) (l : List Pos) : T V := List.rec (motive := fun _ => T V) .nil (fun p _ ih => match T.get p A with | some v => T.set (ren ri v) p ih | none => ih) l
theorem fView_get {ri : Pos → Option Pos} {A : T V} {p : Pos} {v : V} : ∀ {l : List Pos},T.get p (fView ri A l) = some v → ∃ v',T.get p A = some v' ∧ v = ren ri v'
 | [],h => by have h : T.get p (.nil : T V) = some v := h; rw [T.get_nil] at h; cases h
 | x :: l,h => by
  have h : T.get p (match T.get x A with | some v => T.set (ren ri v) x (fView ri A l) | none => fView ri A l) = some v := h
  split at h
  ·rename_i v1 h1
   rw [T.get_set] at h
   split at h
   ·rename_i e; cases h; subst e; exact ⟨v1,h1,rfl⟩
   ·exact fView_get h
  ·exact fView_get h
theorem FR.view {n : Nat} {ds : List Deferred} {ι ι2 : Nm} {A : T V} {a : Act} (F : FR n ds ι A a) {ri : Pos → Option Pos} (h : ∀ p q,ri p = some q → ι2 q = ι p) (l : List Pos) : FR n ds ι2 (fView ri A l) a :=
 ⟨F.size,F.defers,fun p v t hp ht => by
  obtain ⟨v',h1,rfl⟩ := fView_get hp
  exact (F.at_ p v' t h1 ht).ren h⟩
def At (ng : GS) (n : Nat) (w0 : World) (A : T V) (σ : St) (a : Act) (w : World) : Prop :=
 ∃ ι,FR n [] ι A a ∧ Gl ng ι ∧ Rep ι σ w ∧ (∀ p o pl,T.get p σ.h = some o → o.wr = true → ι p = some pl → w0.heap.size ≤ pl.blk) ∧ Below w0.heap.size w0 w
theorem At.view {ng : GS} {n : Nat} {w0 : World} {A : T V} {σ : St} {a : Act} {w : World} (h : At ng n w0 A σ a w) {N : Nat} (hng : ∀ g ∈ ng,g + 1 < N) (l : Vw) (ks : List Pos) (nx : Pos) (hl : vwOk N nx l = true) (hN : N ≤ nx.nat) (hh : hVwOk l σ.h l = true)
  {B : T V} {τ : T Ob} (hB : fView (bwd l) A ks = B) (hτ : hView l σ.h l = τ) : At ng n w0 B ⟨τ,nx⟩ a w := by
 subst hB; subst hτ
 obtain ⟨ι,F,G,R,O,B⟩ := h
 have hok : ∀ q p,(q,p) ∈ l → fwd l q = some p ∧ bwd l p = some q ∧ N ≤ q.nat := fun q p h => by
  unfold vwOk at hl
  rw [lall_eq] at hl
  have := List.all_eq_true.1 hl (q,p) h
  simp only [Bool.and_eq_true] at this
  exact ⟨isP_eq this.1.1.1,isP_eq this.1.1.2,ble_le this.1.2⟩
 have hri : ∀ p q,bwd l p = some q → nmView N l ι q = ι p := fun p q h => by
  unfold nmView
  rw [(hok q p (bwd_mem h)).1]
 refine ⟨nmView N l ι,F.view hri ks,fun g p hg hp => ?_,R.view hl hN hh,?_,B⟩
 ·obtain ⟨pl,h1,h2⟩ := G g p hg hp
  refine ⟨pl,?_,h2⟩
  unfold nmView
  have hlt := hng g hg
  cases hf : fwd l p with
  | some z => have := (hok p z (fwd_mem hf)).2.2; omega
  | none => simp only; rw [if_pos (by omega)]; exact h1
 ·intro q o pl hq hw hi
  obtain ⟨p,o',h1,h2,rfl⟩ := hView_get hq
  rw [hri p q (hok q p h1).2.1] at hi
  exact O p o' pl h2 (renO_wr hw) hi
theorem At.less {ng : GS} {n : Nat} {w0 : World} {A B : T V} {σ : St} {a : Act} {w : World} (h : At ng n w0 A σ a w) (hs : ∀ p v,T.get p B = some v → T.get p A = some v) : At ng n w0 B σ a w :=
 let ⟨ι,F,h⟩ := h; ⟨ι,F.less hs,h⟩
def XE.to : XE → Exit | .nrm => .normal | .ext i => .exit i | .ret => .ret
theorem xq_to {e : XE} {Q : Exit → Act → World → Prop} {a : Act} {w : World} : XQ e Q a w = Q e.to a w := by cases e <;> rfl
def Tri (P : Program) (E : Env P) (n : Nat) (c : IR) (I : Act → World → Prop) (Q : Exit → Act → World → Prop) : Prop := ∀ x,okC E n (okD E n) c x = true → ∀ a w,I a w → x.wp P Q a w
variable {E : Env P} {M : Mach} {n : Nat}
theorem Tri.pre {c : IR} {I J : Act → World → Prop} {Q : Exit → Act → World → Prop} (h : Tri P E n c J Q) (hi : ∀ a w,I a w → J a w) : Tri P E n c I Q := fun x hx a w h1 => h x hx a w (hi a w h1)
theorem Tri.run (K : MOk P E M (okD E)) {k fuel : Nat} {w0 : World} {A A' : T V} {σ σ' : St} {e : XE} {c : IR} (h : exec M (runFn M k) fuel c A σ = some (e,A',σ')) {Q : Exit → Act → World → Prop}
  (hq : ∀ a w,At E.ng n w0 A' σ' a w → Q e.to a w) : Tri P E n c (At E.ng n w0 A σ) Q := by
 intro x hx a w ⟨ι,F,L,R,O,B⟩
 refine exec_sound K.pt K.mt (run_sound K k) (K.rgd n) fuel c x hx h F L R ?_
 intro ι' a' w' F' R' G'
 rw [xq_to]
 refine hq a' w' ⟨ι',F',L.mono G'.ext,R',?_,B.trans ⟨G'.os,G'.tape,G'.out,G'.size,fun r hr => G'.keep r (by have := B.size; omega) ?_⟩⟩
 ·intro p o pl hp hw hi
  by_cases hlt : pl.blk < w.heap.size
  ·obtain ⟨p2,o2,pl2,i1,i2,i3,i4⟩ := G'.img pl.blk hlt ⟨p,o,pl,hp,hw,hi,rfl⟩
   have := O p2 o2 pl2 i1 i2 i3
   omega
  ·have := B.size; omega
 ·rintro ⟨p2,o2,pl2,i1,i2,i3,i4⟩
  have := O p2 o2 pl2 i1 i2 i3
  omega
theorem Tri.seq {c1 c2 : IR} {I J : Act → World → Prop} {Q : Exit → Act → World → Prop} (h1 : Tri P E n c1 I (Exit.then J Q)) (h2 : Tri P E n c2 J Q) : Tri P E n (.seq c1 c2) I Q := by
 intro x hx a w hi
 cases x <;> simp only [okC,Bool.false_eq_true,Bool.and_eq_true] at hx
 refine wp_seq ?_
 have := h1 _ hx.1 a w hi
 refine wp_mono this ?_
 intro e a' w' hq
 cases e <;> first | exact h2 _ hx.2 a' w' hq | exact hq
theorem Tri.blk {i : Nat} {c : IR} {I : Act → World → Prop} {Q : Exit → Act → World → Prop} (h : Tri P E n c I (Exit.inBlock i Q)) : Tri P E n (.blk i c) I Q := by
 intro x hx a w hi
 cases x <;> simp only [okC,Bool.false_eq_true,Bool.and_eq_true,beq_iff_eq] at hx
 obtain ⟨rfl,hx⟩ := hx
 exact wp_block (h _ hx a w hi)
theorem Tri.cnd {z : Arg} {c1 c2 : IR} {w0 : World} {A : T V} {σ : St} {b : Bool} {Q : Exit → Act → World → Prop} (hb : ev A z = .bool b) (h1 : b = true → Tri P E n c1 (At E.ng n w0 A σ) Q) (h2 : b = false → Tri P E n c2 (At E.ng n w0 A σ) Q) : Tri P E n (.cnd z c1 c2) (At E.ng n w0 A σ) Q := by
 intro x hx a w hi
 cases x <;> simp only [okC,Bool.false_eq_true,Bool.and_eq_true] at hx
 obtain ⟨ι,F,L,R,O,B⟩ := hi
 have hv := (ev_as F L hx.1.1 hb).bool_inv
 cases b with
 | true => exact wp_cond_true hv (h1 rfl _ hx.1.2 a w ⟨ι,F,L,R,O,B⟩)
 | false => exact wp_cond_false hv (h2 rfl _ hx.2 a w ⟨ι,F,L,R,O,B⟩)
theorem Tri.loop {c : IR} {I : Nat → Act → World → Prop} {Q : Exit → Act → World → Prop} (N : Nat) (hstep : ∀ i,i < N → Tri P E n c (I i) (Exit.then (I (i + 1)) Q)) (hlast : Tri P E n c (I N) (Exit.then (fun _ _ => False) Q)) : Tri P E n (.loop c) (I 0) Q := by
 intro x hx a w hi
 cases x <;> simp only [okC,Bool.false_eq_true] at hx
 rename_i body
 refine LoopAt.wp ?_
 have key : ∀ (d i : Nat) (a : Act) (w : World),i + d = N → I i a w → LoopAt P body Q a w := by
  intro d
  induction d with
  | zero =>
   intro i a w hd hi
   have : i = N := by omega
   subst this
   refine LoopAt.round (wp_mono (hlast _ hx a w hi) ?_)
   intro e a' w' hq
   cases e <;> first | exact hq.elim | exact hq
  | succ d ih =>
   intro i a w hd hi
   refine LoopAt.round (wp_mono (hstep i (by omega) _ hx a w hi) ?_)
   intro e a' w' hq
   cases e <;> first | exact ih (i + 1) a' w' (by omega) hq | exact hq
 exact key N 0 a w (by omega) hi
theorem fn_pure (K : MOk P E M (okD E)) {f : Pos} {nt : Nat} {body : IR} {res : List RV} (hget : T.get f M.tab = some (.code nt body res)) {vs2 : List V} (hle : vs2.length ≤ nt) {s2 : St} {out : V} (hout : Bare out)
  {ι ι2 : Nm} {w : World} {args : Array Value} {σ : St} (R : Rep ι σ w) (hG : Gl E.ng ι2) (R2 : Rep ι2 s2 w) (hro : ∀ p o,T.get p s2.h = some o → o.wr = false) (hv : VRs ι2 vs2 args.toList)
  (h : Tri P E nt body (At E.ng nt w (frameOf vs2 .H .nil) s2) (fun e a' w' => e = .ret ∧ ∃ A' σ',At E.ng nt w A' σ' a' w' ∧ resF res A' σ' = some [out])) : Calls P (f.nat - 1) args w (Post ι σ w out σ) := by
 obtain ⟨fn,c,h1,h2,h3,h4,h5,h6⟩ := K.code f nt body res hget
 refine calls_of_wp h1 h2 ?_
 rw [h3]
 refine wp_mono (h c h5 _ w ⟨ι2,FR.enter hv hle,hG,R2,fun p o pl hp hw => (by rw [hro p o hp] at hw; cases hw),Below.refl _ _⟩) ?_
 rintro e a' w' ⟨rfl,A',σ',⟨ι',F,L,R',O,B⟩,hr⟩
 obtain ⟨v',r1,r2⟩ := results_sound F L R' h6 hr
 refine ⟨F.defers,v',r1,ι,v',rfl,hout _ _ _ r2,R.stays B.block,⟨.refl ι,fun _ _ => rfl,Nat.le_refl _,B.size,B.os,B.tape,B.output,fun r hr _ => B.block r hr,fun _ _ h => h,fun x y h1 h2 => by rw [h2] at h1; cases h1⟩⟩
abbrev RP := Option (XE × T V × St × PS)
noncomputable def xr (M : Mach) (k fuel : Nat) (c : IR) (A : T V) (σ : St) : RP := execP M (runFnP M k) fuel c A σ
noncomputable def rA (r : RP) : T V := match r with | some (_,A,_) => A | none => .nil
noncomputable def rS (r : RP) : St := match r with | some (_,_,σ,_) => σ | none => ⟨.nil,.H⟩
noncomputable def rC (r : RP) : PS := match r with | some (_,_,_,cs) => cs | none => []
noncomputable def isE (e x : XE) : Bool := match e with | .nrm => (match x with | .nrm => true | _ => false) | .ret => (match x with | .ret => true | _ => false) | .ext i => (match x with | .ext j => Nat.beq i j | _ => false)
theorem isE_eq {e x : XE} (h : isE e x = true) : x = e := by
 cases e <;> cases x <;> first | rfl | (cases h; done) | skip
 rename_i i j
 have h : Nat.beq i j = true := h
 rw [Nat.eq_of_beq_eq_true h]
noncomputable def isX (e : XE) (r : RP) : Bool := match r with | some (x,_) => isE e x | none => false
def Alike (cs : PS) : Prop := lmap (fun p => p.1) cs = lmap (fun p => p.2) cs
theorem isX_run {M : Mach} {k fuel : Nat} {c : IR} {A : T V} {σ : St} {e : XE} (h : isX e (xr M k fuel c A σ) = true) (hC : Alike (rC (xr M k fuel c A σ))) : exec M (runFn M k) fuel c A σ = some (e,rA (xr M k fuel c A σ),rS (xr M k fuel c A σ)) := by
 unfold xr at h hC ⊢
 cases hr : execP M (runFnP M k) fuel c A σ with
 | none => rw [hr] at h; cases h
 | some x =>
  obtain ⟨e1,A1,σ1,cs⟩ := x
  rw [hr] at h hC
  have h : isE e e1 = true := h
  rw [isE_eq h] at hr
  exact execP_ok (runFnP_ok M k) fuel c _ _ _ _ _ _ hr (good_of hC)
noncomputable def vOk (r : RP) (l : Vw) (N : Nat) (nx : Pos) : Bool := match r with
 | some (_,_,σ,_) => vwOk N nx l && hVwOk l σ.h l && Nat.ble N nx.nat
 | none => false
theorem vOk_run {r : RP} {l : Vw} {N : Nat} {nx : Pos} (h : vOk r l N nx = true) : vwOk N nx l = true ∧ hVwOk l (rS r).h l = true ∧ N ≤ nx.nat := by
 unfold vOk at h
 split at h
 ·simp only [Bool.and_eq_true] at h
  exact ⟨h.1.1,h.1.2,ble_le h.2⟩
 ·cases h
theorem Tri.runX (K : MOk P E M (okD E)) {k fuel : Nat} {w0 : World} {A : T V} {σ : St} {c : IR} {e : XE} (h : isX e (xr M k fuel c A σ) = true) (hC : Alike (rC (xr M k fuel c A σ))) {Q : Exit → Act → World → Prop}
  (hq : ∀ a w,At E.ng n w0 (rA (xr M k fuel c A σ)) (rS (xr M k fuel c A σ)) a w → Q e.to a w) : Tri P E n c (At E.ng n w0 A σ) Q := Tri.run K (isX_run h hC) hq
theorem Tri.stepV (K : MOk P E M (okD E)) {k fuel : Nat} {w0 : World} {A B : T V} {σ : St} {τ : T Ob} {c : IR} {l : Vw} {ks : List Pos} {N : Nat} {nx : Pos} (hng : ∀ g ∈ E.ng,g + 1 < N) (h : isX .nrm (xr M k fuel c A σ) = true) (hC : Alike (rC (xr M k fuel c A σ))) (hv : vOk (xr M k fuel c A σ) l N nx = true)
  (hB : fView (bwd l) (rA (xr M k fuel c A σ)) ks = B) (hτ : hView l (rS (xr M k fuel c A σ)).h l = τ) {Q : Exit → Act → World → Prop} : Tri P E n c (At E.ng n w0 A σ) (Exit.then (At E.ng n w0 B ⟨τ,nx⟩) Q) := by
 obtain ⟨h2,h3,h4⟩ := vOk_run hv
 exact Tri.runX K h hC (fun a w ha => ha.view hng l ks nx h2 h4 h3 hB hτ)
theorem Tri.endV (K : MOk P E M (okD E)) {k fuel : Nat} {w0 : World} {A B : T V} {σ : St} {τ : T Ob} {c : IR} {l : Vw} {ks : List Pos} {N : Nat} {nx : Pos} (hng : ∀ g ∈ E.ng,g + 1 < N) (h : isX .nrm (xr M k fuel c A σ) = true) (hC : Alike (rC (xr M k fuel c A σ))) (hv : vOk (xr M k fuel c A σ) l N nx = true)
  (hB : fView (bwd l) (rA (xr M k fuel c A σ)) ks = B) (hτ : hView l (rS (xr M k fuel c A σ)).h l = τ) {Q : Exit → Act → World → Prop} (hq : ∀ a w,At E.ng n w0 B ⟨τ,nx⟩ a w → Q .normal a w) : Tri P E n c (At E.ng n w0 A σ) Q := by
 obtain ⟨h2,h3,h4⟩ := vOk_run hv
 exact Tri.runX K h hC (fun a w ha => hq a w (ha.view hng l ks nx h2 h4 h3 hB hτ))
noncomputable def seqL (l : List IR) (c : IR) : IR := List.rec (motive := fun _ => IR) c (fun a _ ih => .seq a ih) l
theorem exec_seq_nrm {M : Mach} {call : Pos → List V → St → Option (V × St)} {f : Nat} {a b : IR} {A A' : T V} {σ σ' : St} (h : exec M call f (.seq a b) A σ = some (.nrm,A',σ')) : ∃ A1 σ1,exec M call f a A σ = some (.nrm,A1,σ1) ∧ exec M call f b A1 σ1 = some (.nrm,A',σ') := by
 have h : (match exec M call f a A σ with | none => none | some (x,A',σ') => (match x with | .nrm => exec M call f b A' σ' | x => some (x,A',σ'))) = some (.nrm,A',σ') := h
 split at h
 ·cases h
 ·rename_i x A1 σ1 h1
  cases x with
  | nrm => exact ⟨A1,σ1,h1,h⟩
  | ext i => cases h
  | ret => cases h
theorem Tri.runs0 (K : MOk P E M (okD E)) {k fuel : Nat} {w0 : World} {c : IR} {Q : Exit → Act → World → Prop} {A' : T V} {σ' : St} (hc : Tri P E n c (At E.ng n w0 A' σ') Q) : ∀ (l : List IR) {A : T V} {σ : St},exec M (runFn M k) fuel (seqL l .skip) A σ = some (.nrm,A',σ') → Tri P E n (seqL l c) (At E.ng n w0 A σ) Q
 | [],A,σ,h => by
  have h : some (XE.nrm,A,σ) = some (.nrm,A',σ') := h
  cases h
  exact hc
 | a :: l,A,σ,h => by
  obtain ⟨A1,σ1,h1,h2⟩ := exec_seq_nrm (a := a) (b := seqL l .skip) h
  exact Tri.seq (Tri.run K h1 (fun a w h => h)) (Tri.runs0 K hc l h2)
theorem Tri.runs (K : MOk P E M (okD E)) {k fuel : Nat} {w0 : World} {c : IR} {Q : Exit → Act → World → Prop} {l : List IR} {A B : T V} {σ : St} {τ : T Ob} {v : Vw} {ks : List Pos} {N : Nat} {nx : Pos} (hng : ∀ g ∈ E.ng,g + 1 < N)
  (h : isX .nrm (xr M k fuel (seqL l .skip) A σ) = true) (hC : Alike (rC (xr M k fuel (seqL l .skip) A σ))) (hv : vOk (xr M k fuel (seqL l .skip) A σ) v N nx = true)
  (hB : fView (bwd v) (rA (xr M k fuel (seqL l .skip) A σ)) ks = B) (hτ : hView v (rS (xr M k fuel (seqL l .skip) A σ)).h v = τ) (hc : Tri P E n c (At E.ng n w0 B ⟨τ,nx⟩) Q) : Tri P E n (seqL l c) (At E.ng n w0 A σ) Q := by
 obtain ⟨h2,h3,h4⟩ := vOk_run hv
 exact Tri.runs0 K (hc.pre (fun a w ha => ha.view hng v ks nx h2 h4 h3 hB hτ)) l (isX_run h hC)
theorem Tri.lastV (K : MOk P E M (okD E)) {k fuel i : Nat} {w0 : World} {A B : T V} {σ : St} {τ : T Ob} {c : IR} {l : Vw} {ks : List Pos} {N : Nat} {nx : Pos} (hng : ∀ g ∈ E.ng,g + 1 < N) (h : isX (.ext i) (xr M k fuel c A σ) = true) (hC : Alike (rC (xr M k fuel c A σ))) (hv : vOk (xr M k fuel c A σ) l N nx = true)
  (hB : fView (bwd l) (rA (xr M k fuel c A σ)) ks = B) (hτ : hView l (rS (xr M k fuel c A σ)).h l = τ) {J F : Act → World → Prop} {Q : Exit → Act → World → Prop} (hJ : ∀ a w,At E.ng n w0 B ⟨τ,nx⟩ a w → J a w) :
  Tri P E n c (At E.ng n w0 A σ) (Exit.then F (Exit.inBlock i (Exit.then J Q))) := by
 obtain ⟨h2,h3,h4⟩ := vOk_run hv
 refine Tri.runX K h hC (fun a w ha => ?_)
 show (if i = i then Exit.then J Q .normal a w else _)
 rw [if_pos rfl]
 exact hJ a w (ha.view hng l ks nx h2 h4 h3 hB hτ)
theorem Tri.retV (K : MOk P E M (okD E)) {k fuel : Nat} {w0 : World} {A : T V} {σ : St} {c : IR} (h : isX .ret (xr M k fuel c A σ) = true) (hC : Alike (rC (xr M k fuel c A σ))) {res : List RV} {out : V} (hr : resF res (rA (xr M k fuel c A σ)) (rS (xr M k fuel c A σ)) = some [out]) :
  Tri P E n c (At E.ng n w0 A σ) (fun e a' w' => e = .ret ∧ ∃ A' σ',At E.ng n w0 A' σ' a' w' ∧ resF res A' σ' = some [out]) :=
 Tri.runX K h hC (fun a w ha => ⟨rfl,_,_,ha,hr⟩)
theorem win_view {ng : GS} {ι : Nm} {w : World} {σ : St} (hG : Gl ng ι) (R : Rep ι σ w) {p q : Pos} {o n : Nat} {cap : Option Nat} {L l : List V} {kin : List Pos} {fz ro : Bool} (hq : ∀ g ∈ ng,g + 1 < q.nat) (h0 : 0 < n) (hn : l.length = n) (hl : ∀ x ∈ l,Bare x)
  (hp : T.get p σ.h = some (.cells L kin fz ro)) (hL : (L.drop o).take n = l) {y : Value} (hv : VR ι (.slice p o n cap 1) y) :
  ∃ ι2,Gl ng ι2 ∧ Rep ι2 ⟨T.set (Ob.cells l [] false true) q .nil,q.succ⟩ w ∧ VR ι2 (.slice q 0 n none 1) y := by
 obtain ⟨pl,a,c,s1,s2,s3,s4,s5,s6,s7⟩ := hv.slice_inv
 obtain ⟨pl',cc,e,j1,j2,j3,j4,j5,j6⟩ := R.ob p _ hp
 rw [s1] at j1; cases j1
 have hon : o + n ≤ L.length := by
  have : ((L.drop o).take n).length = n := by rw [hL,hn]
  simp at this
  omega
 let ι2 : Nm := fun x => if x = q then some ⟨pl.blk,pl.st + o,pl.sz,0⟩ else if x.nat < q.nat then ι x else none
 have hι2q : ι2 q = some ⟨pl.blk,pl.st + o,pl.sz,0⟩ := by simp [ι2]
 have hι2 : ∀ x y,ι2 x = some y → x = q ∧ y = ⟨pl.blk,pl.st + o,pl.sz,0⟩ ∨ x ≠ q ∧ x.nat < q.nat ∧ ι x = some y := fun x y h => by
  simp only [ι2] at h
  split at h
  ·rename_i hx; cases h; exact .inl ⟨hx,rfl⟩
  ·rename_i hx
   split at h
   ·rename_i hle; exact .inr ⟨hx,hle,h⟩
   ·cases h
 have hget : ∀ x ob,T.get x (T.set (Ob.cells l [] false true) q .nil) = some ob → x = q ∧ ob = Ob.cells l [] false true := fun x ob h => by
  rw [T.get_set] at h
  split at h
  ·rename_i hx; cases h; exact ⟨hx,rfl⟩
  ·rw [T.get_nil] at h; cases h
 refine ⟨ι2,fun g x hg hx => ?_,?_,?_⟩
 ·have hgq := hq g hg
  have hne : x ≠ q := fun h => by subst h; omega
  have : ι2 x = ι x := by simp only [ι2,if_neg hne]; rw [if_pos (by omega)]
  rw [this]; exact hG g x hg hx
 ·constructor
  ·intro x ob h
   obtain ⟨rfl,rfl⟩ := hget x ob h
   refine ⟨_,cc,e,hι2q,rfl,j3,j4,by show pl.st + o + l.length ≤ cc.size; omega,fun i y z hy hz => ?_⟩
   have hy' : L[o + i]? = some y := by
    rw [← hL,List.getElem?_take] at hy
    split at hy
    ·rw [List.getElem?_drop] at hy; exact hy
    ·cases hy
   exact hl y (List.mem_of_getElem? hy) ι _ z (j6 (o + i) y z hy' (by rw [← Nat.add_assoc]; exact hz))
  ·intro x y h
   rcases hι2 x y h with ⟨rfl,rfl⟩ | ⟨_,_,h⟩
   ·exact ⟨fun _ => ⟨cc,e,j3,j4⟩,(fun h => by cases h),(fun h => by cases h),(fun h => by cases h),Nat.zero_le _⟩
   ·exact R.pl x y h
  ·intro x y h
   show x.nat < q.succ.nat
   rw [Pos.succ_nat]
   rcases hι2 x y h with ⟨rfl,_⟩ | ⟨_,h,_⟩ <;> omega
  ·intro x ob h
   obtain ⟨rfl,_⟩ := hget x ob h
   show x.nat < x.succ.nat
   rw [Pos.succ_nat]; omega
  ·intro x ob y ob' a1 b1 h1 _ h2 _ _ _ _ hne
   obtain ⟨rfl,_⟩ := hget x ob h1
   obtain ⟨rfl,_⟩ := hget y ob' h2
   exact absurd rfl hne
  ·intro x ob y ob' h1 h2
   obtain ⟨rfl,rfl⟩ := hget x ob h1
   cases h2
  ·intro x ob y h1 h2
   obtain ⟨rfl,rfl⟩ := hget x ob h1
   cases h2
  ·intro x ob y ob' a1 b1 h1 h2
   obtain ⟨rfl,rfl⟩ := hget x ob h1
   cases h2
 ·rw [s7]
  exact .slice q 0 n none 1 ⟨pl.blk,pl.st + o,pl.sz,0⟩ a c hι2q rfl (fun _ h => by cases h) s4 (fun h => by rw [s5 h]; rfl) (by show pl.st + o + 0 + c * 1 ≤ pl.sz; omega)
noncomputable def bodyI (e : FnE) : IR := match e with | .code _ b _ => b | .spec _ => .skip
noncomputable def resI (e : FnE) : List RV := match e with | .code _ _ r => r | .spec _ => []
noncomputable def fstI (c : IR) : IR := match c with | .seq a _ => a | c => c
noncomputable def sndI (c : IR) : IR := match c with | .seq _ b => b | c => c
noncomputable def blkI (c : IR) : IR := match c with | .blk _ b => b | c => c
noncomputable def lopI (c : IR) : IR := match c with | .loop b => b | c => c
def TabIs (E : Env P) (t : T FnE) : Prop := ∀ p e,T.get p t = some e → fnOk E (p.nat - 1) e = true
theorem tabIs_of {E : Env P} {t : T FnE} (h : tabOk E t id = true) : TabIs E t := fun p e hp => tabOk_spec E t id h p e hp
theorem TabIs.set {E : Env P} {t : T FnE} (h : TabIs E t) {e : FnE} {p : Pos} (he : fnOk E (p.nat - 1) e = true) : TabIs E (T.set e p t) := by
 intro q x hq
 rw [T.get_set] at hq
 split at hq
 ·rename_i e1; cases hq; subst e1; exact he
 ·exact h q x hq
theorem mok_of2 {E : Env P} {M : Mach} (hpt : M.pt = E.pt) (hmt : MtOk P M.mt) (hm : P.follows .mixedOrders = true) (ht : TabIs E M.tab)
  (hs : ∀ f s,T.get f M.tab = some (.spec s) → ∀ vs σ v σ',M.spec s vs σ = some (v,σ') → ∀ (ι : Nm) (w : World) (args : Array Value),Gl E.ng ι → Rep ι σ w → VRs ι vs args.toList → Calls P (f.nat - 1) args w (Post ι σ w v σ')) :
  MOk P E M (okD E) where
 pt := hpt
 mt := hmt
 rgd n := rgd_sound hpt hmt hm n
 code f n b res hf := by
  obtain ⟨fn,c,h1,h2,h3,h4⟩ := fnOk_is (ht f _ hf)
  obtain ⟨h5,h6,h7⟩ := h4 n b res rfl
  exact ⟨fn,c,h1,h2,h5,h3,h6,h7⟩
 spec f s hf := by
  obtain ⟨fn,c,h1,h2,h3,h4⟩ := fnOk_is (ht f _ hf)
  exact ⟨⟨fn,h1,by rw [h2]; rfl,h3⟩,hs f s hf⟩
end
end Go.Proofs.YtldidldbhngmnaaGreatDoor
namespace Go.Proofs.YtldidldbhngmnaaGreatDoor
open Go Go.RowKit
section
variable {P : Program}
def FW (r : Option Nat) : Fence := { Fence.wide with round := r }
theorem callsIn_FW {r : Option Nat} {n : Nat} {f : FuncId} {args : Array Value} {w : World} {R : Ending → World → Prop} (h : Calls P f args w R) : CallsIn (FW r) n P f args w R := by
 have h1 : CallsIn Fence.wide n P f args w R := callsIn_wide.2 h
 exact h1
theorem rowsIn_FW {r : Option Nat} {n : Nat} {row : String} {args : Array Value} {w : World} {R : Value → World → Prop} (h : Rows P row args w R) : RowsIn (FW r) n P row args w R :=
 fun c cs _ => let ⟨v,w',h1,h2⟩ := h c cs; ⟨v,w',h1,stepsIn_wide.2 h2⟩
def ndOp (o : Oper) : Bool := match o.op with | .defer _ => false | _ => true
theorem ndOp_ne {o : Oper} (h : ndOp o = true) : ∀ c,o.op ≠ .defer c := fun c e => by unfold ndOp at h; rw [e] at h; cases h
def NQ (N : Act → World → Prop) : Exit → Act → World → Prop | .normal,a,w => N a w | _,_,_ => False
theorem NQ_out {N : Act → World → Prop} : ¬ LetsOut (NQ N) := fun ⟨_,_,h⟩ => h
theorem op_in {r : Option Nat} {m : Nat} {o : Oper} (hd : ndOp o = true) {a : Act} {w : World} {K : Act → World → Prop} {N : Act → World → Prop} {Q : Exit → Act → World → Prop} (h : o.wp P a w K (NQ N)) : o.wpIn (FW r) m P a w K Q := by
 refine ⟨fun f _ => trivial,?_⟩
 rw [Oper.semAt_eq _ _ _ (ndOp_ne hd)]
 unfold Oper.wp at h
 generalize (execOp a.eval o).run P w = x at h
 match x,h with
 | .ok (.value v) w',h => exact h
 | .ok .skip w',h => exact h
 | .ok (.defer d) w',h => exact h
 | .ok (.enter f args) w',h =>
  refine ⟨(fun h => by cases h),callsIn_FW (Calls.mono h ?_)⟩
  intro e w'' hq
  cases e with
  | returned v => exact hq
  | panicked ch => exact hq.elim
  | outgrown => exact (NQ_out hq).elim
 | .ok (.row row args) w',h => exact ⟨(fun h => by cases h),rowsIn_FW h⟩
 | .halt (.panic v) w',h => exact h.elim
theorem list_in {r : Option Nat} {m : Nat} {ops : Array Oper} {N : Act → World → Prop} {Q : Exit → Act → World → Prop} (hN : ∀ a w,N a w → Q .normal a w) :
  ∀ (os : List Oper) (a : Act) (w : World),(os.all ndOp) = true → wpList P ops (NQ N) os a w → wpListIn (FW r) m P ops Q os a w
 | [],a,w,_,h => hN a w h
 | o :: os,a,w,hd,h => by
  simp only [List.all_cons,Bool.and_eq_true] at hd
  simp only [wpList] at h
  simp only [wpListIn]
  split
  ·rename_i hw
   rw [if_pos hw] at h
   rcases h with h | ⟨_,h⟩
   ·exact op_in hd.1 (Oper.wp_mono (fun a w => list_in hN os a w hd.2) h)
   ·exact (NQ_out h).elim
  ·rename_i hw
   rw [if_neg hw] at h
   exact ⟨fun f _ => trivial,list_in hN os _ w hd.2 h⟩
theorem any_in {r : Option Nat} {m : Nat} {md : Region.Mode} {ops : Array Oper} {N : Act → World → Prop} {Q : Exit → Act → World → Prop} (hN : ∀ a w,N a w → Q .normal a w) (hd : ops.all ndOp = true) :
  ∀ (fuel : Nat) (listed : Array Bool) (a : Act) (w : World),wpAny P md ops (NQ N) fuel listed a w → wpAnyIn (FW r) m P md ops Q fuel listed a w
 | 0,listed,a,w,h => ⟨h.1,hN a w h.2⟩
 | fuel + 1,listed,a,w,h => by
  refine ⟨fun hr => hN a w (h.1 hr),fun i hi => ?_⟩
  have hh := h.2 i hi
  unfold Go.wpOp at hh
  unfold wpOpIn
  split
  ·rename_i ho
   simp only [ho] at hh
   exact any_in hN hd fuel _ a w hh
  ·rename_i o ho
   simp only [ho] at hh
   have hdo : ndOp o = true := by
    rw [Array.all_eq_true] at hd
    obtain ⟨hlt,he⟩ := Array.getElem?_eq_some_iff.1 ho
    rw [← he]
    exact hd i hlt
   split
   ·rename_i hw
    rw [if_pos hw] at hh
    rcases hh with hh | ⟨_,hh⟩
    ·exact op_in hdo (Oper.wp_mono (fun a w => any_in hN hd fuel _ a w) hh)
    ·exact (NQ_out hh).elim
   ·rename_i hw
    rw [if_neg hw] at hh
    exact ⟨fun f _ => trivial,any_in hN hd fuel _ _ w hh⟩
def LoopIn (r : Option Nat) (m : Nat) (P : Program) (c : Code) (Q : Exit → Act → World → Prop) (a : Act) (w : World) : Prop := ∀ (b : Frame) (k : List Item) (cs : List Frame),b.roundOf = (FW r).round → (FW r).fn b.fn → (FW r).room (cs.length + 1 + m) →
 ∃ e a' w',Q e a' w' ∧ ArrivesIn (Machine.fenced P (FW r)) P (lone (b.atR a (.code c :: .inLoop c :: k)) cs w) b k cs e a' w'
theorem LoopIn.wp {r : Option Nat} {m : Nat} {c : Code} {Q : Exit → Act → World → Prop} {a : Act} {w : World} (h : LoopIn r m P c Q a w) : (Code.loop c).wpIn (FW r) m P Q a w := by
 intro b k cs hro hb hr
 obtain ⟨e,a',w',hq,harr⟩ := h b k cs hro hb hr
 exact ⟨e,a',w',hq,.of_steps (.one (fenced_calm hb hr rfl) stepR_loop) harr⟩
theorem LoopIn.round {r : Option Nat} {m : Nat} {c : Code} {Q : Exit → Act → World → Prop} {a : Act} {w : World} (h : c.wpIn (FW r) m P (Exit.then (LoopIn r m P c Q) Q) a w) : LoopIn r m P c Q a w := by
 intro b k cs hro hb hr
 obtain ⟨e,a1,w1,hq,harr⟩ := h b (.inLoop c :: k) cs hro hb hr
 cases e with
 | normal =>
  obtain ⟨e2,a2,w2,hq2,harr2⟩ := hq b k cs hro hb hr
  exact ⟨e2,a2,w2,hq2,.of_steps (StepsIn.trans harr (.one (fenced_calm hb hr rfl) stepR_inLoop)) harr2⟩
 | exit id => exact ⟨_,a1,w1,hq,.pass (x := .inLoop c) rfl (fun _ _ => .inl (by simp)) harr⟩
 | goto l => exact ⟨_,a1,w1,hq,.pass (x := .inLoop c) rfl (fun _ _ => .inl (by simp)) harr⟩
 | ret => exact ⟨_,a1,w1,hq,.pass (x := .inLoop c) rfl (fun _ _ => .inl (by simp)) harr⟩
 | panic ch => exact ⟨_,a1,w1,hq,.pass (x := .inLoop c) rfl (fun _ _ => .inl (by simp)) harr⟩
 | outgrown => exact ⟨_,a1,w1,hq,.pass (x := .inLoop c) rfl (fun _ _ => .inl (by simp)) harr⟩
def ndC : Code → Bool
 | .region _ ops _ => ops.all ndOp
 | .seq a b => ndC a && ndC b
 | .cond _ a b => ndC a && ndC b
 | .block _ b => ndC b
 | .loop b => ndC b
 | .rangeFunc _ _ _ _ => false
 | _ => true
theorem exec_soundIn {E : Env P} {M : Mach} (hpt : M.pt = E.pt) (hmt : MtOk P M.mt) (hm : P.follows .mixedOrders = true) {call : Pos → List V → St → Option (V × St)} (hc : CallOK P E.ng call) {n : Nat} {ds : List Deferred} (fuel : Nat) {r : Option Nat} {m : Nat} :
  ∀ (c : IR) (x : Code) {ι : Nm} {A A' : T V} {a : Act} {σ σ' : St} {w : World} {e : XE} {Q : Exit → Act → World → Prop},okC E n (okD E n) c x = true → ndC x = true → exec M call fuel c A σ = some (e,A',σ') → FR n ds ι A a → Gl E.ng ι → Rep ι σ w →
   (∀ ι' a' w',FR n ds ι' A' a' → Rep ι' σ' w' → G σ.nx.nat ι σ w ι' σ' w' → XQ e Q a' w') → x.wpIn (FW r) m P Q a w := by
 intro c
 induction c with
 | skip =>
  intro x ι A A' a σ σ' w e Q hok hnd h F L R hQ
  cases x <;> simp only [okC,Bool.false_eq_true] at hok
  have : some (XE.nrm,A,σ) = some (e,A',σ') := h
  cases this
  exact wpIn_skip (hQ ι a w F R (G.refl _ _ _ _))
 | reg l =>
  intro x ι A A' a σ σ' w e Q hok hnd h F L R hQ
  cases x <;> try simp only [okC,Bool.false_eq_true] at hok
  rename_i id ops dr
  have hok : (match dr with | false => okROs E n ops l ops.toList | true => false) = true := by cases dr <;> exact hok
  cases dr <;> simp only [Bool.false_eq_true] at hok
  have h : (match runR M call [] l A σ with | none => none | some (A',σ') => some (XE.nrm,A',σ')) = some (e,A',σ') := h
  have hnd : ops.all ndOp = true := hnd
  split at h
  ·cases h
  ·rename_i A1 σ1 hr
   cases h
   refine wpIn_region_list (list_in (N := fun a w => XQ .nrm Q a w) (fun a w h => h) _ a w (by simpa using hnd) (seq_sound hpt hmt hc l _ hok hr F L R hQ))
 | rgd k l =>
  intro x ι A A' a σ σ' w e Q hok hnd h F L R hQ
  cases x <;> try simp only [okC,Bool.false_eq_true] at hok
  rename_i id ops dr
  have hok : (match dr with | true => okD E n k l ops | false => false) = true := by cases dr <;> exact hok
  cases dr <;> simp only [Bool.false_eq_true] at hok
  have h : (match runR M call (namesOf k σ.nx).1 l A ⟨σ.h,(namesOf k σ.nx).2⟩ with | none => none | some (A',σ') => some (XE.nrm,A',σ')) = some (e,A',σ') := h
  have hnd : ops.all ndOp = true := hnd
  split at h
  ·cases h
  ·rename_i A1 σ1 hr
   cases h
   exact wpIn_region_any hm (any_in (N := fun a w => XQ .nrm Q a w) (fun a w h => h) hnd _ _ a _ (rgd_any hpt hmt n call hc id k l ops hok hr F L R hQ))
 | seq c1 c2 ih1 ih2 =>
  intro x ι A A' a σ σ' w e Q hok hnd h F L R hQ
  cases x <;> simp only [okC,Bool.false_eq_true,Bool.and_eq_true] at hok
  simp only [ndC,Bool.and_eq_true] at hnd
  have h : (match exec M call fuel c1 A σ with | none => none | some (x,A',σ') => (match x with | .nrm => exec M call fuel c2 A' σ' | x => some (x,A',σ'))) = some (e,A',σ') := h
  split at h
  ·cases h
  ·rename_i e1 A1 σ1 hr
   refine wpIn_seq (ih1 _ hok.1 hnd.1 hr F L R ?_)
   intro ι1 a1 w1 F1 R1 G1
   cases e1 with
   | nrm => exact ih2 _ hok.2 hnd.2 h F1 (L.mono G1.ext) R1 (fun ι2 a2 w2 F2 R2 G2 => hQ ι2 a2 w2 F2 R2 (G1.trans G1.nx G2))
   | ext i => cases h; exact hQ ι1 a1 w1 F1 R1 G1
   | ret => cases h; exact hQ ι1 a1 w1 F1 R1 G1
 | cnd c c1 c2 ih1 ih2 =>
  intro x ι A A' a σ σ' w e Q hok hnd h F L R hQ
  cases x <;> simp only [okC,Bool.false_eq_true,Bool.and_eq_true] at hok
  simp only [ndC,Bool.and_eq_true] at hnd
  have h : (match ev A c with | .bool t => (match t with | true => exec M call fuel c1 A σ | false => exec M call fuel c2 A σ) | _ => none) = some (e,A',σ') := h
  split at h
  ·rename_i t hv
   have hb := (ev_as F L hok.1.1 hv).bool_inv
   cases t with
   | true => exact wpIn_cond_true hb (ih1 _ hok.1.2 hnd.1 h F L R hQ)
   | false => exact wpIn_cond_false hb (ih2 _ hok.2 hnd.2 h F L R hQ)
  ·cases h
 | blk i c ih =>
  intro x ι A A' a σ σ' w e Q hok hnd h F L R hQ
  cases x <;> simp only [okC,Bool.false_eq_true,Bool.and_eq_true,beq_iff_eq] at hok
  obtain ⟨rfl,hok⟩ := hok
  have h : (match exec M call fuel c A σ with | none => none | some (x,A',σ') => (match x with | .ext j => (match Nat.beq j i with | true => some (XE.nrm,A',σ') | false => some (.ext j,A',σ')) | x => some (x,A',σ'))) = some (e,A',σ') := h
  split at h
  ·cases h
  ·rename_i e1 A1 σ1 hr
   refine wpIn_block (ih _ hok hnd hr F L R ?_)
   intro ι1 a1 w1 F1 R1 G1
   cases e1 with
   | nrm => cases h; exact hQ ι1 a1 w1 F1 R1 G1
   | ext j =>
    simp only [XQ,Exit.inBlock]
    have h : (match Nat.beq j i with | true => some (XE.nrm,A1,σ1) | false => some (.ext j,A1,σ1)) = some (e,A',σ') := h
    split at h
    ·rename_i hj
     have := Nat.eq_of_beq_eq_true hj
     cases h
     rw [if_pos this]
     exact hQ ι1 a1 w1 F1 R1 G1
    ·rename_i hj
     have : ¬ j = i := fun h => by rw [h] at hj; simp at hj
     cases h
     rw [if_neg this]
     exact hQ ι1 a1 w1 F1 R1 G1
   | ret => cases h; exact hQ ι1 a1 w1 F1 R1 G1
 | loop c ih =>
  intro x ι A A' a σ σ' w e Q hok hnd h F L R hQ
  cases x <;> simp only [okC,Bool.false_eq_true] at hok
  rename_i body
  have h : loopF (exec M call fuel c) fuel A σ = some (e,A',σ') := h
  refine LoopIn.wp ?_
  have key : ∀ (f : Nat) {ι : Nm} {A : T V} {a : Act} {σ : St} {w : World},loopF (exec M call fuel c) f A σ = some (e,A',σ') → FR n ds ι A a → Gl E.ng ι → Rep ι σ w →
    (∀ ι' a' w',FR n ds ι' A' a' → Rep ι' σ' w' → G σ.nx.nat ι σ w ι' σ' w' → XQ e Q a' w') → LoopIn r m P body Q a w := by
   intro f
   induction f with
   | zero => intro ι A a σ w h; cases h
   | succ f ihf =>
    intro ι A a σ w h F L R hQ
    have h : (match exec M call fuel c A σ with | none => none | some (x,A',σ') => (match x with | .nrm => loopF (exec M call fuel c) f A' σ' | x => some (x,A',σ'))) = some (e,A',σ') := h
    split at h
    ·cases h
    ·rename_i e1 A1 σ1 hr
     refine LoopIn.round (ih _ hok hnd hr F L R ?_)
     intro ι1 a1 w1 F1 R1 G1
     cases e1 with
     | nrm => exact ihf h F1 (L.mono G1.ext) R1 (fun ι2 a2 w2 F2 R2 G2 => hQ ι2 a2 w2 F2 R2 (G1.trans G1.nx G2))
     | ext i => cases h; exact hQ ι1 a1 w1 F1 R1 G1
     | ret => cases h; exact hQ ι1 a1 w1 F1 R1 G1
  exact key fuel h F L R hQ
 | exit i =>
  intro x ι A A' a σ σ' w e Q hok hnd h F L R hQ
  cases x <;> simp only [okC,Bool.false_eq_true,beq_iff_eq] at hok
  subst hok
  have : some (XE.ext i,A,σ) = some (e,A',σ') := h
  cases this
  exact wpIn_exit (hQ ι a w F R (G.refl _ _ _ _))
 | ret =>
  intro x ι A A' a σ σ' w e Q hok hnd h F L R hQ
  cases x <;> simp only [okC,Bool.false_eq_true] at hok
  have : some (XE.ret,A,σ) = some (e,A',σ') := h
  cases this
  exact wpIn_ret (hQ ι a w F R (G.refl _ _ _ _))
 | bad =>
  intro x ι A A' a σ σ' w e Q hok hnd h F L R hQ
  cases h
end
end Go.Proofs.YtldidldbhngmnaaGreatDoor
namespace Go.Proofs.YtldidldbhngmnaaGreatDoor
open Go Go.RowKit
inductive IG
 | c (x : IR) | sq (a b : IG) | bk (i : Nat) (b : IG) | rg (g : Arg) | r1 (g : Arg) (t : Pos) (asg body : IR)
noncomputable def itIn (l : List (Nat × List IntKind)) (f : Nat) (k : V) : Bool := List.rec (motive := fun _ => Bool) false (fun x _ ih => match Nat.beq x.1 f && keyShaped (.cells x.2) k with | true => true | false => ih) l
theorem itIn_mem {f : Nat} {k : V} : ∀ {l : List (Nat × List IntKind)},itIn l f k = true → ∃ sh,(f,sh) ∈ l ∧ keyShaped (.cells sh) k = true
 | [],h => by cases h
 | x :: l,h => by
  have h : (match Nat.beq x.1 f && keyShaped (.cells x.2) k with | true => true | false => itIn l f k) = true := h
  split at h
  ·rename_i hx
   simp only [Bool.and_eq_true] at hx
   have := Nat.eq_of_beq_eq_true hx.1
   subst this
   exact ⟨x.2,by simp,hx.2⟩
  ·obtain ⟨sh,h1,h2⟩ := itIn_mem h
   exact ⟨sh,List.mem_cons_of_mem _ h1,h2⟩
noncomputable def rgN (call : Pos → List V → St → Option (V × St)) (g : Arg) (A : T V) (σ : St) : Option (XE × T V × St) := match ev A g with
  | .fn f [] y => (match call (natPos f) (.u :: y) σ with | some (_,σ') => some (.nrm,A,σ') | none => none)
  | _ => none
noncomputable def r1N (its : List (Nat × List IntKind)) (ea eb : T V → St → Option (XE × T V × St)) (f : Nat) (p t : Pos) (x : ME) (ck : Nat) (A : T V) (σ : St) : Option (XE × T V × St) := match itIn its f x.k && Nat.blt x.b ck with
 | true => (match ea (T.set x.k t A) σ with
  | some (.nrm,A1,σ1) => (match eb A1 σ1 with
   | some (.nrm,_,σ2) => (match T.get p σ2.h with
    | some (.map [x'] ck' _) => (match Nat.beq x'.b x.b && Nat.beq ck' ck with | true => some (.nrm,A,σ2) | false => none)
    | _ => none)
   | _ => none)
  | _ => none)
 | false => none
noncomputable def execG (its : List (Nat × List IntKind)) (M : Mach) (call : Pos → List V → St → Option (V × St)) (n : Nat) (c : IG) : T V → St → Option (XE × T V × St) := IG.rec (motive := fun _ => T V → St → Option (XE × T V × St))
 (fun x => exec M call n x)
 (fun _ _ iha ihb A σ => match iha A σ with | none => none | some (x,A',σ') => (match x with | .nrm => ihb A' σ' | x => some (x,A',σ')))
 (fun i _ ih A σ => match ih A σ with | none => none | some (x,A',σ') => (match x with | .ext j => (match Nat.beq j i with | true => some (.nrm,A',σ') | false => some (.ext j,A',σ')) | x => some (x,A',σ')))
 (fun g A σ => rgN call g A σ)
 (fun g t asg body A σ => match ev A g with
  | .fn f [] [.ptr q 0] => (match T.get q σ.h with
   | some (.cells (.map p :: _) _ _ _) => (match T.get p σ.h with
    | some (.map es ck ks) => (match es with
     | [] => rgN call g A σ
     | [x] => r1N its (exec M call n asg) (exec M call n body) f p t x ck A σ
     | _ => none)
    | _ => none)
   | _ => none)
  | _ => none) c
section
variable {P : Program}
noncomputable def okG (E : Env P) (n : Nat) : IG → Code → Bool
 | .c a,x => okC E n (okD E n) a x
 | .sq a b,.seq x y => okG E n a x && okG E n b y
 | .bk i b,.block j x => i == j && okG E n b x
 | .rg g,.rangeFunc z _ _ _ => okA E.ng g z
 | .r1 g t asg body,.rangeFunc z ps a b => okA E.ng g z && (match ps.toList with | [u] => t.nat == u + 1 && decide (u < n) | _ => false) && okC E n (okD E n) asg a && okC E n (okD E n) body b && ndC a && ndC b
 | _,_ => false
def Mk (N : Nat) (ds : List Deferred) (ι : Nm) (w : World) : Prop :=
 (∀ d ∈ ds,∃ D,d = { target := .collected D,args := #[] } ∧ N ≤ D ∧ w.heap[D]? = some (.deferred (some [])) ∧ ∀ p pl,ι p = some pl → pl.blk ≠ D) ∧ ds.Nodup
theorem Mk.step {N K : Nat} {ds : List Deferred} {ι ι' : Nm} {σ σ' : St} {w w' : World} (h : Mk N ds ι w) (g : G K ι σ w ι' σ' w') : Mk N ds ι' w' := by
 refine ⟨fun d hd => ?_,h.2⟩
 obtain ⟨D,h1,h2,h3,h4⟩ := h.1 d hd
 have hlt : D < w.heap.size := (Array.getElem?_eq_some_iff.1 h3).1
 have hno : ¬ Img ι σ D := fun ⟨p,o,pl,_,_,k1,k2⟩ => h4 p pl k1 k2
 refine ⟨D,h1,h2,(g.keep D hlt hno).trans h3,fun p pl hp e => ?_⟩
 cases hq : ι p with
 | some pl' =>
  have := g.ext p pl' hq
  rw [hp] at this; cases this
  exact h4 p pl hq e
 | none =>
  have := g.new p pl hp hq (by rw [e]; exact hlt)
  rw [e] at this
  exact hno this
theorem Rep.other {ι : Nm} {σ : St} {w w' : World} (R : Rep ι σ w) {D : Nat} (hD : ∀ p pl,ι p = some pl → pl.blk ≠ D) (h : ∀ r,r ≠ D → w'.heap[r]? = w.heap[r]?) : Rep ι σ w' where
 ob p o hp := (R.ob p o hp).keep (.refl ι) (fun pl hpl _ => h _ (hD p pl hpl))
 pl p pl hp := by
  have h1 := R.pl p pl hp
  have h2 := h _ (hD p pl hp)
  unfold PlOk at h1 ⊢
  rw [h2]
  exact h1
 dom := R.dom
 hdom := R.hdom
 sep2 := R.sep2
 kin := R.kin
 kpres := R.kpres
 fin := R.fin
theorem wpIn_outer_rg {F : Fence} {n : Nat} {g : Operand} {ps : Array Tmp} {assign body : Code} {Q : Exit → Act → World → Prop} {a : Act} {w : World} (hro : F.round = none)
  (h : ∀ fn,F.fn fn → ∀ (W1 : World) (r : Loop),W1 = (w.alloc (.deferred (some []))).alloc (.loop r) → r = { state := .ready,pending := none,fn := fn,tmps := a.tmps,params := ps,assign := assign,body := body,defers := w.heap.size } → ∃ (d : Deferred) (f : FuncId) (args : Array Value),
   (resolve a.eval (rangeCall g (w.heap.size + 1)) 0).run P W1 = .ok d W1 ∧
   (∀ f',Target.leads P W1 d.target d.args = some f' → F.fn f') ∧
   (invoke d.target d.args).run P W1 = .ok (.enter f args) W1 ∧
   (F.depth.isSome = true → 1 ≤ n) ∧
   CallsIn F (n - 1) P f args W1 (rangePost F n P (w.heap.size + 1) Q { a with defers := { target := .collected w.heap.size,args := #[] } :: a.defers })) :
  (Code.rangeFunc g ps assign body).wpIn F n P Q a w := by
 refine wpIn_rangeFunc ?_
 intro fn hfn
 obtain ⟨d,f,args,h1,h2,h3,h4,h5⟩ := h fn hfn _ _ rfl rfl
 rw [hro]
 exact ⟨_,_,_,d,_,f,args,_,run_enterLoop_outer _ _ _ _ _,h1,h2,h3,h4,h5⟩
theorem G.un {N X : Nat} {ι ι' : Nm} {σ σ' : St} {w w' : World} (g : G N ι σ w ι' σ' w') (h : ∀ p pl,ι p = some pl → pl.blk ≠ X) (hX : X < w.heap.size) : (∀ p pl,ι' p = some pl → pl.blk ≠ X) ∧ w'.heap[X]? = w.heap[X]? := by
 have hno : ¬ Img ι σ X := fun ⟨p,o,pl,_,_,k1,k2⟩ => h p pl k1 k2
 refine ⟨fun p pl hp e => ?_,g.keep X hX hno⟩
 cases hq : ι p with
 | some pl' =>
  have := g.ext p pl' hq
  rw [hp] at this; cases this
  exact h p pl hq e
 | none =>
  have := g.new p pl hp hq (by rw [e]; exact hX)
  rw [e] at this
  exact hno this
theorem G.put {N D : Nat} {ι ι' : Nm} {σ σ' : St} {w w' : World} (g : G N ι σ w ι' σ' w') (hD : w.heap.size ≤ D) (o : Obj) : G N ι σ w ι' σ' (w'.putObj D o) :=
 ⟨g.ext,g.old,g.nx,by simpa [World.putObj] using g.size,g.os,g.tape,g.out,fun r hr hi => (World.putObj_heap_other (by omega)).trans (g.keep r hr hi),g.img,g.new⟩
theorem below_gg {ι : Nm} {σ : St} {w w' : World} (b : Below w.heap.size w w') : G σ.nx.nat ι σ w ι σ w' :=
 ⟨.refl ι,fun _ _ => rfl,Nat.le_refl _,b.size,b.os,b.tape,b.output,fun r hr _ => b.block r hr,fun _ _ h => h,fun x y h1 h2 => by rw [h2] at h1; cases h1⟩
def KeysOne (P : Program) (f : Nat) (sh : List IntKind) : Prop := (∃ fn,P.funcs[f]? = some fn ∧ fn.body.isSome = true ∧ (fn.name == "runtime.NumGoroutine") = false) ∧ ∀ (l b ck : Nat) (a : Addr) (e : MapEntry) (W : World) (Rf : World → Prop),W.cell? a = some (.map (some b)) → W.heap[b]? = some (.map #[e] ck) → e.born < ck →
 (∃ (c : Array Value),e.key = .agg c ∧ c.size = sh.length ∧ ∀ (i : Nat) k x,sh[i]? = some k → c[i]? = some x → ∃ n,x = .int k n) →
 (∀ Wy,Below W.heap.size W Wy → Wy.heap[W.heap.size]? = some (.mapIter (some b) ck #[e.born] ck) → YieldAt Fence.wide 4 P l #[e.key] Wy fun x W' => x = .returned (.bool true) ∧ W'.heap[W.heap.size]? = some (.mapIter (some b) ck #[e.born] ck) ∧ (∃ e',W'.heap[b]? = some (.map #[e'] ck) ∧ e'.born = e.born) ∧ Rf W') →
 CallsIn Fence.wide 5 P f #[.func (.yield l) #[] #[],.pointer (some a)] W fun x W' => (∃ v,x = .returned v) ∧ Rf W'
theorem rgN_sound {E : Env P} {call : Pos → List V → St → Option (V × St)} (hc : CallOK P E.ng call) {n N : Nat} {g : Arg} {z : Operand} {ps : Array Tmp} {asg body : Code} {ds : List Deferred} {ι : Nm} {A A' : T V} {a : Act} {σ σ' : St} {w : World} {e : XE} {Q : Exit → Act → World → Prop}
  (hok : okA E.ng g z = true) (h : rgN call g A σ = some (e,A',σ')) (F : FR n ds ι A a) (L : Gl E.ng ι) (R : Rep ι σ w) (K : Mk N ds ι w) (hN : N ≤ w.heap.size)
  (hQ : ∀ ds' ι' a' w',FR n ds' ι' A' a' → Rep ι' σ' w' → G σ.nx.nat ι σ w ι' σ' w' → Mk N ds' ι' w' → XQ e Q a' w') : (Code.rangeFunc z ps asg body).wp P Q a w := by
 unfold rgN at h
 split at h
 ·rename_i f y hv
  split at h
  ·rename_i v1 σ1 hcall
   cases h
   obtain ⟨a1,b1,e1,e2,e3⟩ := (ev_as F L hok hv).fn_inv
   have ha1 : a1 = #[] := by
    have := e2.1
    simp at this
    exact Array.eq_empty_of_size_eq_zero this.symm
   subst ha1
   obtain ⟨⟨fn0,k1,k2,k3⟩,k4⟩ := hc _ _ _ _ _ hcall
   rw [natPos_nat] at k1 k4
   simp only [Nat.add_sub_cancel] at k1 k4
   refine (wpIn_wide (n := 1)).1 (wpIn_outer_rg rfl ?_)
   intro fn hfn W1 r hW1 hrc
   have hr1 : r.state = .ready := by rw [hrc]
   have hr2 : r.pending = none := by rw [hrc]
   clear hrc
   have hb1 : Below w.heap.size w W1 := by rw [hW1]; exact ((Below.refl _ w).alloc (Nat.le_refl _) _).alloc (by simp) _
   have hl1 : W1.heap[w.heap.size + 1]? = some (.loop r) := by
    rw [hW1]
    have := World.alloc_heap_new (w.alloc (.deferred (some []))) (.loop r)
    rw [World.size_alloc] at this
    exact this
   have hk1 : W1.heap[w.heap.size]? = some (.deferred (some [])) := by rw [hW1]; exact (Below.heap_alloc _ _ _ (by simp)).trans (World.alloc_heap_new w _)
   have hz1 : W1.heap.size = w.heap.size + 2 := by rw [hW1]; simp
   clear hW1
   have R1 : Rep ι σ W1 := R.stays hb1.block
   have G1 : G σ.nx.nat ι σ w ι σ W1 := ⟨.refl ι,fun _ _ => rfl,Nat.le_refl _,hb1.size,hb1.os,hb1.tape,hb1.output,fun r hr _ => hb1.block r hr,fun _ _ h => h,fun x y h1 h2 => by rw [h2] at h1; cases h1⟩
   have hun : ∀ p pl,ι p = some pl → pl.blk < w.heap.size := fun p pl hp => (R.pl p pl hp).lt
   refine ⟨{ target := .fn (.func f) b1,args := #[.func (.yield (w.heap.size + 1)) #[] #[]] },f,#[.func (.yield (w.heap.size + 1)) #[] #[]] ++ b1,?_,?_,?_,fun _ => Nat.le_refl _,?_⟩
   ·simp only [resolve,e1]
    simp [go_sem]
   ·intro f' hf'; trivial
   ·simp [invoke,go_sem,run_callFunc k1 k2 k3]
   ·refine callsIn_wide.2 ?_
    refine (k4 ι W1 _ L R1 ?_).mono ?_
    ·simpa using VRs.cons (.u (Value.func (.yield (w.heap.size + 1)) #[] #[])) e3
    ·rintro e2 W2 ⟨ι2,v2,rfl,q1,q2,q3⟩
     have hnl : ¬ Img ι σ (w.heap.size + 1) := fun ⟨p,o,pl,_,_,m1,m2⟩ => by have := hun p pl m1; omega
     have hnk : ¬ Img ι σ w.heap.size := fun ⟨p,o,pl,_,_,m1,m2⟩ => by have := hun p pl m1; omega
     have hl2 := (q3.keep _ (by omega) hnl).trans hl1
     have hk2 := (q3.keep _ (by omega) hnk).trans hk1
     have hu2 : ∀ D,w.heap.size ≤ D → D < w.heap.size + 2 → ∀ p pl,ι2 p = some pl → pl.blk ≠ D := fun D h1 h2 p pl hp e => by
      cases hq : ι p with
      | some pl' =>
       have := q3.ext p pl' hq
       rw [hp] at this; cases this
       have := hun p pl hq; omega
      | none =>
       obtain ⟨p',o,pl',_,_,m1,m2⟩ := q3.new p pl hp hq (by omega)
       have := hun p' pl' m1; omega
     have hend := run_endLoop (P := P) hl2 (by rw [hr1]; simp)
     obtain ⟨W3,hW3⟩ : ∃ W3,W2.putObj (w.heap.size + 1) (.loop { r with state := .exhausted }) = W3 := ⟨_,rfl⟩
     rw [hW3,hr2] at hend
     refine ⟨none,W3,hend,?_⟩
     have hoth : ∀ r,r ≠ w.heap.size + 1 → W3.heap[r]? = W2.heap[r]? := fun r hr => by rw [← hW3]; exact World.putObj_heap_other hr
     have R3 : Rep ι2 σ' W3 := q2.other (hu2 _ (by omega) (by omega)) hoth
     have hs3 : W3.heap.size = W2.heap.size := by rw [← hW3]; simp [World.putObj]
     have G3 : G σ.nx.nat ι σ w ι2 σ' W3 := by
      have g := G1.trans (Nat.le_refl _) q3
      refine ⟨g.ext,g.old,g.nx,by rw [hs3]; exact g.size,?_,?_,?_,fun r hr hi => (hoth r (by omega)).trans (g.keep r hr hi),g.img,g.new⟩
      ·rw [← hW3]; exact g.os
      ·rw [← hW3]; exact g.tape
      ·rw [← hW3]; exact g.out
     refine hQ _ ι2 _ W3 ⟨F.size,rfl,fun p v t h1 h2 => (F.at_ p v t h1 h2).mono q3.ext⟩ R3 G3 ⟨fun d hd => ?_,?_⟩
     ·rcases List.mem_cons.1 hd with rfl | hd
      ·exact ⟨w.heap.size,rfl,hN,(hoth _ (by omega)).trans hk2,hu2 _ (Nat.le_refl _) (by omega)⟩
      ·rw [F.defers] at hd
       exact (K.step G3).1 d hd
     ·rw [F.defers]
      refine List.nodup_cons.2 ⟨fun hm => ?_,K.2⟩
      obtain ⟨D,m1,m2,m3,m4⟩ := K.1 _ hm
      have hlt : D < w.heap.size := (Array.getElem?_eq_some_iff.1 m3).1
      cases m1
      omega
  ·cases h
 ·cases h
theorem r1N_sound {E : Env P} {M : Mach} (hpt : M.pt = E.pt) (hmt : MtOk P M.mt) (hm : P.follows .mixedOrders = true) {its : List (Nat × List IntKind)} (hits : ∀ x ∈ its,KeysOne P x.1 x.2) {call : Pos → List V → St → Option (V × St)} (hc : CallOK P E.ng call) {n N fuel : Nat}
  {g : Arg} {z : Operand} {ps : Array Tmp} {asg body : IR} {asg' body' : Code} {t q p : Pos} {f : Nat} {x : ME} {ck : Nat} {ks : KSh} {rest : List V} {kin : List Pos} {fz ro : Bool} {ds : List Deferred} {ι : Nm} {A A' : T V} {a : Act} {σ σ' : St} {w : World} {e : XE} {Q : Exit → Act → World → Prop}
  (hok : okA E.ng g z = true) (hps : (match ps.toList with | [u] => t.nat == u + 1 && decide (u < n) | _ => false) = true) (hoa : okC E n (okD E n) asg asg' = true) (hob : okC E n (okD E n) body body' = true) (hda : ndC asg' = true) (hdb : ndC body' = true)
  (hv : ev A g = .fn f [] [.ptr q 0]) (hq : T.get q σ.h = some (.cells (.map p :: rest) kin fz ro)) (hp : T.get p σ.h = some (.map [x] ck ks)) (h : r1N its (exec M call fuel asg) (exec M call fuel body) f p t x ck A σ = some (e,A',σ'))
  (F : FR n ds ι A a) (L : Gl E.ng ι) (R : Rep ι σ w) (K : Mk N ds ι w) (hN : N ≤ w.heap.size)
  (hQ : ∀ ds' ι' a' w',FR n ds' ι' A' a' → Rep ι' σ' w' → G σ.nx.nat ι σ w ι' σ' w' → Mk N ds' ι' w' → XQ e Q a' w') : (Code.rangeFunc z ps asg' body').wp P Q a w := by
 unfold r1N at h
 split at h
 ·rename_i hit
  simp only [Bool.and_eq_true,blt_eq,decide_eq_true_eq] at hit
  obtain ⟨hit,hborn⟩ := hit
  obtain ⟨sh,hmem,hks⟩ := itIn_mem hit
  have hK1 := hits _ hmem
  split at h
  ·rename_i A1 σ1 hea
   split at h
   ·rename_i A2 σ2 heb
    split at h
    ·rename_i x2 ck2 ks2 hp2
     split at h
     ·rename_i hxx
      simp only [Bool.and_eq_true] at hxx
      have hb2 := Nat.eq_of_beq_eq_true hxx.1
      have hc2 := Nat.eq_of_beq_eq_true hxx.2
      subst hc2
      cases h
      obtain ⟨a1,b1,e1,e2,e3⟩ := (ev_as F L hok hv).fn_inv
      have ha1 : a1 = #[] := by
       have := e2.1
       simp at this
       exact Array.eq_empty_of_size_eq_zero this.symm
      subst ha1
      obtain ⟨pl,c,ty,j1,j2,j3,j4,j5,j6⟩ := R.ob q _ hq
      obtain ⟨plp,es',k1,k2,k3,k4,k5,k6,k7⟩ := R.ob p _ hp
      have hb1 : b1 = #[.pointer (some ⟨pl.blk,pl.st,none⟩)] := by
       obtain ⟨lb⟩ := b1
       have hl : 1 = lb.length := e3.1
       match lb,hl,e3 with
       | [y],_,e3 =>
        have := e3.head
        cases this with
        | ptr _ _ pl2 m1 m2 => rw [j1] at m1; cases m1; rfl
      subst hb1
      obtain ⟨y,rfl⟩ : ∃ y,es' = #[y] := by
       have : es'.size = 1 := k4.symm
       exact Array.size_eq_one_iff.1 this
      have hlt : pl.st < c.size := by
       have : pl.st + (V.map p :: rest).length ≤ c.size := j5
       simp at this
       omega
      have hval : c[pl.st] = .map (some plp.blk) := by
       have hv2 := j6 0 (.map p) c[pl.st] rfl (by rw [Nat.add_zero]; exact Array.getElem?_eq_getElem hlt)
       generalize c[pl.st] = v2 at hv2 ⊢
       cases hv2 with
       | map _ pl2 m1 m2 => rw [k1] at m1; cases m1; rfl
      have hcell : w.cell? ⟨pl.blk,pl.st,none⟩ = some (.map (some plp.blk)) := by
       simp only [World.cell?,j3]
       rw [Array.getElem?_eq_getElem hlt,hval]
       simp
      obtain ⟨hkv,hvv,hbb⟩ := k5 0 x y rfl rfl
      have hkey : ∃ (c : Array Value),y.key = .agg c ∧ c.size = sh.length ∧ ∀ (i : Nat) k z,sh[i]? = some k → c[i]? = some z → ∃ n,z = .int k n := by
       cases hxk : x.k <;> rw [hxk] at hks hkv <;> first | (cases hks; done) | skip
       rename_i l
       have hsh : shaped sh l = true := hks
       cases hyk : y.key <;> rw [hyk] at hkv <;> first | (cases hkv; done) | skip
       rename_i c2
       cases hkv with
       | agg _ _ m1 m2 =>
        have hvs : VRs ι l c2.toList := ⟨by simpa using m1,fun i a b ha hb => m2 i a b ha (by rw [← Array.getElem?_toList]; exact hb)⟩
        obtain ⟨m3,m4⟩ := shaped_sound sh l c2.toList hsh hvs
        refine ⟨c2,rfl,by simpa using m3,fun i k z h1 h2 => ?_⟩
        obtain ⟨nn,h3,_,_⟩ := m4 i k z h1 (by rw [Array.getElem?_toList]; exact h2)
        exact ⟨nn,h3⟩
      obtain ⟨u,hpu,htu,hun⟩ : ∃ u,ps = #[u] ∧ t.nat = u + 1 ∧ u < n := by
       obtain ⟨pls⟩ := ps
       match pls,hps with
       | [u],hps =>
        simp only [Bool.and_eq_true,beq_iff_eq,decide_eq_true_eq] at hps
        exact ⟨u,rfl,hps.1,hps.2⟩
      refine (wpIn_wide (n := 6)).1 (wpIn_outer_rg rfl ?_)
      intro fn hfn W1 r hW1 hrc
      have hbl : Below w.heap.size w W1 := by rw [hW1]; exact ((Below.refl _ w).alloc (Nat.le_refl _) _).alloc (by simp) _
      have hl1 : W1.heap[w.heap.size + 1]? = some (.loop r) := by
       rw [hW1]
       have := World.alloc_heap_new (w.alloc (.deferred (some []))) (.loop r)
       rw [World.size_alloc] at this
       exact this
      have hk1 : W1.heap[w.heap.size]? = some (.deferred (some [])) := by rw [hW1]; exact (Below.heap_alloc _ _ _ (by simp)).trans (World.alloc_heap_new w _)
      have hz1 : W1.heap.size = w.heap.size + 2 := by rw [hW1]; simp
      clear hW1
      have R1 : Rep ι σ W1 := R.stays hbl.block
      have G1 : G σ.nx.nat ι σ w ι σ W1 := below_gg hbl
      have hun1 : ∀ p pl,ι p = some pl → pl.blk < w.heap.size := fun p pl hp => (R.pl p pl hp).lt
      have hplt : plp.blk < w.heap.size := hun1 p plp k1
      have hqlt : pl.blk < w.heap.size := hun1 q pl j1
      refine ⟨{ target := .fn (.func f) #[.pointer (some ⟨pl.blk,pl.st,none⟩)],args := #[.func (.yield (w.heap.size + 1)) #[] #[]] },f,#[.func (.yield (w.heap.size + 1)) #[] #[]] ++ #[.pointer (some ⟨pl.blk,pl.st,none⟩)],?_,?_,?_,fun _ => by omega,?_⟩
      ·simp only [resolve,e1]
       simp [go_sem]
      ·intro f' hf'; trivial
      ·obtain ⟨fn0,m1,m2,m3⟩ := hK1.1
       simp [invoke,go_sem,run_callFunc m1 m2 m3]
      ·refine (hK1.2 (w.heap.size + 1) plp.blk ck2 ⟨pl.blk,pl.st,none⟩ y W1 (fun W' => ∃ ι3 rc,Rep ι3 σ' W' ∧ G σ.nx.nat ι σ w ι3 σ' W' ∧ W'.heap[w.heap.size + 1]? = some (.loop rc) ∧ rc.state = .ready ∧ rc.pending = none ∧ W'.heap[w.heap.size]? = some (.deferred (some [])) ∧ ∀ p pl,ι3 p = some pl → pl.blk ≠ w.heap.size ∧ pl.blk ≠ w.heap.size + 1)
        ((hbl.cell (p := ⟨pl.blk,pl.st,none⟩) hqlt).trans hcell) ((hbl.block _ hplt).trans k3) (by rw [← hbb]; exact hborn) hkey ?_).mono ?_
       ·intro Wy hBy hiy
        have hly : Wy.heap[w.heap.size + 1]? = some (.loop r) := (hBy.block _ (by omega)).trans hl1
        have hky : Wy.heap[w.heap.size]? = some (.deferred (some [])) := (hBy.block _ (by omega)).trans hk1
        have hzy : W1.heap.size < Wy.heap.size := (Array.getElem?_eq_some_iff.1 hiy).1
        have Ry : Rep ι σ Wy := R1.stays hBy.block
        have Gy : G σ.nx.nat ι σ w ι σ Wy := G1.trans (Nat.le_refl _) (below_gg hBy)
        have hyl := run_yield (P := P) (args := #[y.key]) hly (by rw [hrc,hpu]; rfl)
        refine ⟨_,_,_,_,hyl,roundIn_of_wpIn trivial ?_⟩
        have htm : ((r.params.zip #[y.key]).foldl (fun tmps (x : Tmp × Value) => tmps.setIfInBounds x.1 x.2) r.tmps) = a.tmps.setIfInBounds u y.key := by rw [hrc,hpu]; simp
        have hra : r.assign = asg' := by rw [hrc]
        have hrb : r.body = body' := by rw [hrc]
        rw [hra,hrb]
        have Fy : FR n [] ι (T.set x.k t A) { tmps := (r.params.zip #[y.key]).foldl (fun tmps (x : Tmp × Value) => tmps.setIfInBounds x.1 x.2) r.tmps,defers := [] } := by
         have F1 := F.put1 (t := u) htu hun hkv
         rw [htm]
         exact ⟨F1.size,rfl,F1.at_⟩
        have unX : ∀ X,w.heap.size ≤ X → ∀ p pl,ι p = some pl → pl.blk ≠ X := fun X hX p pl hp e => by have := hun1 p pl hp; omega
        refine exec_soundIn hpt hmt hm hc fuel (r := some (w.heap.size + 1)) asg asg' hoa hda hea Fy L Ry ?_
        intro ι2 a2 w2 F2 R2 G2
        obtain ⟨u2l,h2l⟩ := G2.un (X := w.heap.size + 1) (unX _ (by omega)) (by omega)
        obtain ⟨u2d,h2d⟩ := G2.un (X := w.heap.size) (unX _ (by omega)) (by omega)
        obtain ⟨u2i,h2i⟩ := G2.un (X := W1.heap.size) (unX _ (by omega)) (by omega)
        have hz2 := G2.size
        refine ⟨_,run_beginRound (h2l.trans hly) (by rw [hrc]),?_⟩
        obtain ⟨W3,hW3⟩ : ∃ W3,w2.putObj (w.heap.size + 1) (.loop { r with state := .busy }) = W3 := ⟨_,rfl⟩
        rw [hW3]
        have o3 : ∀ r,r ≠ w.heap.size + 1 → W3.heap[r]? = w2.heap[r]? := fun r hr => by rw [← hW3]; exact World.putObj_heap_other hr
        have l3 : W3.heap[w.heap.size + 1]? = some (.loop { r with state := .busy }) := by rw [← hW3]; exact World.putObj_heap_same (by omega)
        have z3 : W3.heap.size = w2.heap.size := by rw [← hW3]; simp [World.putObj]
        have R3 : Rep ι2 σ1 W3 := R2.other u2l o3
        have G3 : G σ.nx.nat ι σ w ι2 σ1 W3 := by rw [← hW3]; exact (Gy.trans (Nat.le_refl _) G2).put (by omega) _
        refine exec_soundIn hpt hmt hm hc fuel (r := some (w.heap.size + 1)) body body' hob hdb heb F2 (L.mono G2.ext) R3 ?_
        intro ι3 a3 w4 F3 R4 G4
        obtain ⟨u4l,h4l⟩ := G4.un u2l (by omega)
        obtain ⟨u4d,h4d⟩ := G4.un u2d (by omega)
        obtain ⟨u4i,h4i⟩ := G4.un u2i (by omega)
        have hz4 := G4.size
        refine ⟨_,_,run_endRound none (h4l.trans l3),rfl,?_,?_,ι3,_,R4.other u4l (fun r hr => World.putObj_heap_other hr),((G3.trans G3.nx G4).put (by omega) _),World.putObj_heap_same (by omega),rfl,rfl,?_,fun p pl hp => ⟨u4d p pl hp,u4l p pl hp⟩⟩
        ·exact (World.putObj_heap_other (by omega)).trans (h4i.trans ((o3 _ (by omega)).trans (h2i.trans hiy)))
        ·obtain ⟨pl5,es5,n1,n2,n3,n4,n5,n6,n7⟩ := R4.ob p _ hp2
         have e5 : pl5 = plp := by
          have := (G3.trans G3.nx G4).ext p plp k1
          rw [n1] at this; exact Option.some.inj this
         subst e5
         obtain ⟨y5,rfl⟩ : ∃ y,es5 = #[y] := Array.size_eq_one_iff.1 n4.symm
         obtain ⟨_,_,hb5⟩ := n5 0 x2 y5 rfl rfl
         exact ⟨y5,(World.putObj_heap_other (by omega)).trans n3,by rw [← hb5,hb2,hbb]⟩
        ·exact (World.putObj_heap_other (by omega)).trans (h4d.trans ((o3 _ (by omega)).trans (h2d.trans hky)))
       ·rintro e9 W9 ⟨⟨v9,rfl⟩,ι3,rc,R9,G9,l9,s9,p9,d9,u9⟩
        have hend := run_endLoop (P := P) l9 (by rw [s9]; simp)
        obtain ⟨W10,hW10⟩ : ∃ W10,W9.putObj (w.heap.size + 1) (.loop { rc with state := .exhausted }) = W10 := ⟨_,rfl⟩
        rw [hW10,p9] at hend
        have o10 : ∀ r,r ≠ w.heap.size + 1 → W10.heap[r]? = W9.heap[r]? := fun r hr => by rw [← hW10]; exact World.putObj_heap_other hr
        have G10 : G σ.nx.nat ι σ w ι3 σ' W10 := by rw [← hW10]; exact G9.put (D := w.heap.size + 1) (by omega) _
        refine ⟨none,W10,hend,?_⟩
        refine hQ _ ι3 _ W10 ⟨F.size,rfl,fun p v t h1 h2 => (F.at_ p v t h1 h2).mono G9.ext⟩ (R9.other (fun p pl hp => (u9 p pl hp).2) o10) G10 ⟨fun d hd => ?_,?_⟩
        ·rcases List.mem_cons.1 hd with rfl | hd
         ·exact ⟨w.heap.size,rfl,hN,(o10 _ (by omega)).trans d9,fun p pl hp => (u9 p pl hp).1⟩
         ·rw [F.defers] at hd
          exact (K.step G10).1 d hd
        ·rw [F.defers]
         refine List.nodup_cons.2 ⟨fun hm => ?_,K.2⟩
         obtain ⟨D,m1,m2,m3,m4⟩ := K.1 _ hm
         have hlt : D < w.heap.size := (Array.getElem?_eq_some_iff.1 m3).1
         cases m1
         omega
     ·cases h
    ·cases h
   ·cases h
  ·cases h
 ·cases h
theorem execG_sound {E : Env P} {M : Mach} (hpt : M.pt = E.pt) (hmt : MtOk P M.mt) (hm : P.follows .mixedOrders = true) {its : List (Nat × List IntKind)} (hits : ∀ x ∈ its,KeysOne P x.1 x.2) {call : Pos → List V → St → Option (V × St)} (hc : CallOK P E.ng call) {n : Nat} (fuel N : Nat) :
  ∀ (c : IG) (x : Code) {ds : List Deferred} {ι : Nm} {A A' : T V} {a : Act} {σ σ' : St} {w : World} {e : XE} {Q : Exit → Act → World → Prop},okG E n c x = true → execG its M call fuel c A σ = some (e,A',σ') → FR n ds ι A a → Gl E.ng ι → Rep ι σ w → Mk N ds ι w → N ≤ w.heap.size →
   (∀ ds' ι' a' w',FR n ds' ι' A' a' → Rep ι' σ' w' → G σ.nx.nat ι σ w ι' σ' w' → Mk N ds' ι' w' → XQ e Q a' w') → x.wp P Q a w := by
 intro c
 induction c with
 | c y =>
  intro x ds ι A A' a σ σ' w e Q hok h F L R K hN hQ
  have hok : okC E n (okD E n) y x = true := by cases x <;> exact hok
  exact exec_sound hpt hmt hc (rgd_sound hpt hmt hm n) fuel y x hok h F L R (fun ι' a' w' F' R' G' => hQ ds ι' a' w' F' R' G' (K.step G'))
 | sq c1 c2 ih1 ih2 =>
  intro x ds ι A A' a σ σ' w e Q hok h F L R K hN hQ
  cases x <;> simp only [okG,Bool.false_eq_true,Bool.and_eq_true] at hok
  have h : (match execG its M call fuel c1 A σ with | none => none | some (x,A',σ') => (match x with | .nrm => execG its M call fuel c2 A' σ' | x => some (x,A',σ'))) = some (e,A',σ') := h
  split at h
  ·cases h
  ·rename_i e1 A1 σ1 hr
   refine wp_seq (ih1 _ hok.1 hr F L R K hN ?_)
   intro ds1 ι1 a1 w1 F1 R1 G1 K1
   cases e1 with
   | nrm => exact ih2 _ hok.2 h F1 (L.mono G1.ext) R1 K1 (Nat.le_trans hN G1.size) (fun ds2 ι2 a2 w2 F2 R2 G2 K2 => hQ ds2 ι2 a2 w2 F2 R2 (G1.trans G1.nx G2) K2)
   | ext i => cases h; exact hQ ds1 ι1 a1 w1 F1 R1 G1 K1
   | ret => cases h; exact hQ ds1 ι1 a1 w1 F1 R1 G1 K1
 | bk i c ih =>
  intro x ds ι A A' a σ σ' w e Q hok h F L R K hN hQ
  cases x <;> simp only [okG,Bool.false_eq_true,Bool.and_eq_true,beq_iff_eq] at hok
  obtain ⟨rfl,hok⟩ := hok
  have h : (match execG its M call fuel c A σ with | none => none | some (x,A',σ') => (match x with | .ext j => (match Nat.beq j i with | true => some (XE.nrm,A',σ') | false => some (.ext j,A',σ')) | x => some (x,A',σ'))) = some (e,A',σ') := h
  split at h
  ·cases h
  ·rename_i e1 A1 σ1 hr
   refine wp_block (ih _ hok hr F L R K hN ?_)
   intro ds1 ι1 a1 w1 F1 R1 G1 K1
   cases e1 with
   | nrm => cases h; exact hQ ds1 ι1 a1 w1 F1 R1 G1 K1
   | ext j =>
    simp only [XQ,Exit.inBlock]
    have h : (match Nat.beq j i with | true => some (XE.nrm,A1,σ1) | false => some (.ext j,A1,σ1)) = some (e,A',σ') := h
    split at h
    ·rename_i hj
     have := Nat.eq_of_beq_eq_true hj
     cases h
     rw [if_pos this]
     exact hQ ds1 ι1 a1 w1 F1 R1 G1 K1
    ·rename_i hj
     have : ¬ j = i := fun h => by rw [h] at hj; simp at hj
     cases h
     rw [if_neg this]
     exact hQ ds1 ι1 a1 w1 F1 R1 G1 K1
   | ret => cases h; exact hQ ds1 ι1 a1 w1 F1 R1 G1 K1
 | rg g =>
  intro x ds ι A A' a σ σ' w e Q hok h F L R K hN hQ
  cases x <;> simp only [okG,Bool.false_eq_true] at hok
  exact rgN_sound hc hok h F L R K hN hQ
 | r1 g t asg body =>
  intro x ds ι A A' a σ σ' w e Q hok h F L R K hN hQ
  cases x <;> simp only [okG,Bool.false_eq_true,Bool.and_eq_true] at hok
  rename_i z ps asg' body'
  obtain ⟨⟨⟨⟨⟨hok,hps⟩,hoa⟩,hob⟩,hda⟩,hdb⟩ := hok
  have h : (match ev A g with
  | .fn f [] [.ptr q 0] => (match T.get q σ.h with
   | some (.cells (.map p :: _) _ _ _) => (match T.get p σ.h with
    | some (.map es ck ks) => (match es with
     | [] => rgN call g A σ
     | [x] => r1N its (exec M call fuel asg) (exec M call fuel body) f p t x ck A σ
     | _ => none)
    | _ => none)
   | _ => none)
  | _ => none) = some (e,A',σ') := h
  split at h
  ·rename_i f q hv
   split at h
   ·rename_i p rest kin fz ro hq
    split at h
    ·rename_i es ck ks hp
     split at h
     ·exact rgN_sound hc hok h F L R K hN hQ
     ·rename_i x
      exact r1N_sound hpt hmt hm hits hc hok hps hoa hob hda hdb hv hq hp h F L R K hN hQ
     ·cases h
    ·cases h
   ·cases h
  ·cases h
theorem leaves_marks {fn : Func} {tmps : Array Value} {R : Ending → World → Prop} {N n : Nat} {ι : Nm} {σ : St} {ι0 : Nm} {σ0 : St} {w0 : World} {K : Nat} (hNw : w0.heap.size ≤ N)
  (hfin : ∀ w,Rep ι σ w → G K ι0 σ0 w0 ι σ w → ∃ v,(results fn tmps).run P w = .ok v w ∧ R (.returned v) w) :
  ∀ (ds : List Deferred) (w : World),Mk N ds ι w → Rep ι σ w → G K ι0 σ0 w0 ι σ w → LeavesInM Fence.wide n P fn tmps R ds .returning w
 | [],w,_,hR,hG => hfin w hR hG
 | d :: ds,w,h,hR,hG => by
  obtain ⟨D,h1,h2,h3,h4⟩ := h.1 d (by simp)
  have hlt : D < w.heap.size := (Array.getElem?_eq_some_iff.1 h3).1
  refine ⟨by simp,.inl ⟨D,_,by rw [h1],run_takeDeferred h3,?_⟩⟩
  have hoth : ∀ r,r ≠ D → (w.putObj D (.deferred none)).heap[r]? = w.heap[r]? := fun r hr => World.putObj_heap_other hr
  refine leaves_marks hNw hfin ds _ ⟨fun d' hd' => ?_,(List.nodup_cons.1 h.2).2⟩ (hR.other h4 hoth) ⟨hG.ext,hG.old,hG.nx,by simpa [World.putObj] using hG.size,hG.os,hG.tape,hG.out,fun r hr hi => (hoth r (by omega)).trans (hG.keep r hr hi),hG.img,hG.new⟩
  obtain ⟨D',k1,k2,k3,k4⟩ := h.1 d' (List.mem_cons_of_mem _ hd')
  refine ⟨D',k1,k2,(hoth D' (fun e => ?_)).trans k3,k4⟩
  subst e
  rw [← h1] at k1
  exact (List.nodup_cons.1 h.2).1 (k1 ▸ hd')
noncomputable def runG (its : List (Nat × List IntKind)) (M : Mach) (call : Pos → List V → St → Option (V × St)) (fuel nt : Nat) (b : IG) (res : List RV) (vs : List V) (σ : St) : Option (V × St) := match Nat.ble (llen vs) nt with
 | false => none
 | true => (match execG its M call fuel b (frameOf vs .H .nil) σ with
  | none => none
  | some (x,A,σ') => (match x with
   | .ext _ => none
   | _ => (match resF res A σ' with | some l => some (one l,σ') | none => none)))
theorem runG_sound {E : Env P} {M : Mach} (hpt : M.pt = E.pt) (hmt : MtOk P M.mt) (hm : P.follows .mixedOrders = true) {its : List (Nat × List IntKind)} (hits : ∀ x ∈ its,KeysOne P x.1 x.2) {call : Pos → List V → St → Option (V × St)} (hc : CallOK P E.ng call) {f : FuncId} {fn : Func} {c : Code} {b : IG} {res : List RV}
  (h1 : P.funcs[f]? = some fn) (h2 : fn.body = some c) (h5 : okG E fn.ntmps b c = true) (h6 : okRVs E res fn.results.toList = true) {fuel : Nat} {vs : List V} {σ : St} {v : V} {σ' : St} (h : runG its M call fuel fn.ntmps b res vs σ = some (v,σ'))
  {ι : Nm} {w : World} {args : Array Value} (L : Gl E.ng ι) (R : Rep ι σ w) (hv : VRs ι vs args.toList) : Calls P f args w (Post ι σ w v σ') := by
 unfold runG at h
 split at h
 ·cases h
 ·rename_i hle
  have hle := ble_le hle
  rw [llen_eq] at hle
  split at h
  ·cases h
  ·rename_i x A σ1 hx
   refine (callsIn_wide (n := 1)).1 (callsIn_of_wp_marks h1 h2 trivial (wpIn_wide.2 ?_))
   refine execG_sound hpt hmt hm hits hc fuel w.heap.size b c h5 hx (FR.enter hv hle) L R ⟨fun d hd => by simp at hd,List.nodup_nil⟩ (Nat.le_refl _) ?_
   intro ds1 ι1 a1 w1 F1 R1 G1 K1
   have fin : ∀ l,resF res A σ1 = some l → some (one l,σ1) = some (v,σ') → LeavesInM Fence.wide 1 P fn a1.tmps (Post ι σ w v σ') a1.defers .returning w1 := by
    intro l hl he
    cases he
    rw [F1.defers]
    refine leaves_marks (ι := ι1) (σ := σ') (Nat.le_refl _) (fun w2 R2 G2 => ?_) ds1 w1 K1 R1 G1
    obtain ⟨v',r1,r2⟩ := results_sound F1 (L.mono G2.ext) R2 h6 hl
    exact ⟨v',r1,ι1,v',rfl,r2,R2,G2⟩
   cases x with
   | ext i => cases h
   | nrm =>
    simp only at h
    split at h
    ·rename_i l hl; exact fin l hl h
    ·cases h
   | ret =>
    simp only at h
    split at h
    ·rename_i l hl; exact fin l hl h
    ·cases h
end
end Go.Proofs.YtldidldbhngmnaaGreatDoor
namespace Go.Proofs.YtldidldbhngmnaaGreatDoor.Ir
set_option maxRecDepth 100000
open Go Go.Proofs.YtldidldbhngmnaaGreatDoor
noncomputable def g86 : IG := (.sq (.c (.reg [o 0 d1 (.e (.box s0 1)),o 1 d2 (.q (.mv (.v .nils))),o 2 d3 (.q (.mv (.v .nils)))]))
 (.sq (.c (.reg [o 0 d11 (.e (.mkm (.cells (kk .u8 32)))),o 1 d4 (.e (.alo [.nilm])),o 2 none (.e (.st s4 s11 1))]))
 (.sq (.sq (.c (.reg [o 0 d12 (.q (.ld1 s1)),o 1 d13 (.q (.nck s12)),o 2 d14 (.q (.fadr s13 1)),o 3 d15 (.q (.ld1 s14)),o 4 d16 (.call p130 [s15])]))
 (.bk 0 (.r1 s16 p17 (.reg [o 0 d5 (.e (.alo (zz (.int .u8 (.ofNat 0)) 32))),o 1 none (.e (.st s5 s17 32))])
 (.blk 1 (.seq (.rgd 0 [o 0 d18 (.q (.ld1 s1)),o 1 d19 (.q (.nck s18)),o 2 d20 (.q (.fadr s19 0)),o 3 d21 (.q (.ld1 s20)),o 4 d22 (.q (.ldn s5 32)),o 7 d25 (.q (.mv (.v (.int .i64 (.ofNat 0))))),o 5 d23 (.call p131 [s21,s22]),o 6 d24 (.q (.lenv s23))])
 (.blk 2 (.loop (.seq (.reg [o 0 d26 (.q (.bin .lss s25 s24))])
 (.seq (.cnd s26 .skip (.exit 2))
 (.seq (.blk 3 (.seq (.reg [o 0 d27 (.q (.iadr s23 s25 32)),o 1 d28 (.q (.ldn s27 32)),o 2 d7 (.e (.alo (zz (.int .u8 (.ofNat 0)) 32))),o 3 none (.e (.st s7 s28 32))])
 (.reg [o 0 d29 (.q (.ld1 s4)),o 1 d30 (.q (.ldn s7 32)),o 2 none (.e (.mup s29 s30 (.v (.bool true)) (.cells (kk .u8 32))))])))
 (.reg [o 0 d31 (.q (.bin .add s25 (.v (.int .i64 (.ofNat 1))))),o 1 d25 (.q (.mv s31))])))))))))))
 (.c (.seq (.reg [o 0 d8 (.q (.mv (.v .nils)))])
 (.seq (.seq (.rgd 0 [o 0 d32 (.q (.ld1 s1)),o 1 d33 (.q (.nck s32)),o 2 d34 (.q (.fadr s33 0)),o 3 d35 (.q (.ld1 s34)),o 4 d36 (.q (.ld1 s1)),o 5 d37 (.q (.nck s36)),o 6 d38 (.q (.fadr s37 0)),o 7 d39 (.q (.ld1 s38)),o 11 d43 (.q (.mv (.v (.int .i64 (.ofNat 0))))),⟨8,d40,(.call p32 [s39]),none,[(p32,.ld1 s1,none),(p35,.ld1 s34,none)]⟩,o 9 d41 (.call p131 [s35,s40]),o 10 d42 (.q (.lenv s41))])
 (.blk 4 (.loop (.seq (.reg [o 0 d44 (.q (.bin .lss s43 s42))])
 (.seq (.cnd s44 .skip (.exit 4))
 (.seq (.blk 5 (.seq (.reg [o 0 d45 (.q (.iadr s41 s43 32)),o 1 d46 (.q (.ldn s45 32)),o 2 d10 (.e (.alo (zz (.int .u8 (.ofNat 0)) 32))),o 3 none (.e (.st s10 s46 32))])
 (.seq (.reg [o 0 d47 (.q (.ld1 s4)),o 1 d48 (.q (.ldn s10 32)),o 2 d49 (.q (.lkp s47 s48 (.cells (kk .u8 32)) (.bool false) false)),o 3 d50 (.q (.not s49))])
 (.cnd s50 (.reg [o 0 d51 (.q (.mv s8)),o 1 d52 (.q (.ldn s10 32)),o 2 d53 (.e (.bsl (zz (.int .u8 (.ofNat 0)) 32) [(0,32,s52)] 1 32)),o 3 d54 (.e (.app s51 s53 32 32 false)),o 4 d8 (.q (.mv s54))]) .skip))))
 (.reg [o 0 d55 (.q (.bin .add s43 (.v (.int .i64 (.ofNat 1))))),o 1 d43 (.q (.mv s55))])))))))
 (.seq (.reg [o 0 d56 (.q (.ld1 s4)),o 1 d57 (.call p130 [s56]),o 2 d58 (.call p132 [s57,(.f 133)]),o 3 d59 (.q (.mv s8)),o 4 d2 (.q (.mv s58)),o 5 d3 (.q (.mv s59))])
 .ret)))))))
noncomputable def g86r : List RV := [.t p2,.t p3]
noncomputable def g200 : IG := (.sq (.c (.reg [o 0 d2 (.e (.box s0 1)),o 1 d4 (.q (.mv (.v .nils)))]))
 (.sq (.sq (.c (.reg [o 0 d6 (.q (.mv s1))]))
 (.bk 0 (.rg s6)))
 (.c (.seq (.reg [o 0 d12 (.q (.ld1 s2)),o 1 d4 (.q (.mv s12))])
 .ret))))
noncomputable def g200r : List RV := [.t p4]
end Go.Proofs.YtldidldbhngmnaaGreatDoor.Ir
namespace Go.Proofs.YtldidldbhngmnaaGreatDoor
open Go Go.RowKit
theorem grown_put (W : World) (l : Nat) (o : Obj) : W.grownBy (W.putObj l o) (some l) :=
 ⟨rfl,rfl,rfl,by simp,fun k _ hk => World.putObj_heap_other (fun e => hk (by rw [e]))⟩
def GivesB {α : Type} (F : Fence) (n : Nat) (P : Program) (g : Nat) (lb : Array Value) (enc : α → Value) (S : List α → Prop) (N : Nat) (w : World) : Prop :=
 ∀ (l : Nat) (J : List α → World → Prop) (W : World),Below w.heap.size w W → AbidesFrom W.heap.size J →
  (∀ pre x W1,J pre W1 → pre.length < N → YieldAt F (n - 1) P l #[enc x] W1 fun e W' => e = .returned (.bool true) ∧ J (pre ++ [x]) W' ∧ KeepsWalks W1 W') →
  (∀ pre W1,J pre W1 → Below w.heap.size w W1) → J [] W → CallsIn F n P g (#[.func (.yield l) #[] #[]] ++ lb) W fun e W' => (∃ v,e = .returned v) ∧ ∃ xs,S xs ∧ J xs W'
theorem gives_of {α : Type} {F : Fence} {n : Nat} {P : Program} {g : Nat} {lb : Array Value} {enc : α → Value} {S : List α → Prop} {N : Nat} {w : World} (h : SeqGives F n P g lb enc S N w) : GivesB F n P g lb enc S N w :=
 fun l J W hW hJ hY _ h0 => h l J W hW hJ hY h0
theorem wpIn_over_seq {P : Program} {α : Type} {n : Nat} {g : Operand} {t : Tmp} {assign body : Code} {Q : Exit → Act → World → Prop} {a : Act} {w : World}
  (h1 : 1 ≤ n) {gf : Nat} {lb : Array Value} (hg : a.eval g = .func (.func gf) #[] lb) (eg : ∀ args w,(callFunc gf args).run P w = .ok (.enter gf args) w)
  {enc : α → Value} {S : List α → Prop} {N : Nat} {w0 : World} (hseq : GivesB Fence.wide (n - 1) P gf lb enc S N w0) (hb0 : Below w0.heap.size w0 w)
  (I : List α → World → Prop) (hIb : ∀ pre W,I pre W → Below w0.heap.size w0 W) (hI : OwnFrom w.heap.size I) (h0 : I [] w) (oA : α → Obj) (a₁ : α → Nat → Act)
  (hassign : ∀ (l : Nat) (x : α) (W : World) (K : Act → World → Prop),K (a₁ x W.heap.size) (W.alloc (oA x)) →
   assign.wpIn (Fence.wide.inRound l) (n - 1 - 1) P (Exit.then K (fun _ _ _ => False)) { tmps := a.tmps.setIfInBounds t (enc x),defers := [] } W)
  (hbody : ∀ (l : Nat) (pre : List α) (x : α) (b : Nat) (W : World),I pre W → w.heap.size ≤ b → W.heap[b]? = some (oA x) → pre.length < N →
   body.wpIn (Fence.wide.inRound l) (n - 1 - 1) P (fun e _ W' => e = .normal ∧ KeepsOthers W W' ∧ I (pre ++ [x]) W') (a₁ x b) W)
  (hdone : ∀ (D : Nat) (xs : List α) (W : World),w.heap.size ≤ D → S xs → I xs W → W.heap[D]? = some (.deferred (some [])) → Q .normal { a with defers := { target := .collected D,args := #[] } :: a.defers } W) :
  (Code.rangeFunc g #[t] assign body).wpIn Fence.wide n P Q a w := by
 refine wpIn_rangeFunc ?_
 intro fn hfn
 obtain ⟨rc,hrc⟩ : ∃ rc : LoopState → Option Code → Loop,rc = fun st pe => { state := st,pending := pe,fn,tmps := a.tmps,params := #[t],assign,body,defers := w.heap.size } := ⟨_,rfl⟩
 obtain ⟨W1,hW1⟩ : ∃ W1,(w.alloc (.deferred (some []))).alloc (.loop (rc .ready none)) = W1 := ⟨_,rfl⟩
 have hL1 : W1.heap[w.heap.size + 1]? = some (.loop (rc .ready none)) := by
  have := World.alloc_heap_new (w.alloc (.deferred (some []))) (.loop (rc .ready none))
  rw [World.size_alloc] at this
  rw [← hW1]; exact this
 have hK1 : W1.heap[w.heap.size]? = some (.deferred (some [])) := by rw [← hW1]; exact (Below.heap_alloc _ _ _ (by simp)).trans (World.alloc_heap_new w _)
 have hI1 : I [] W1 := by rw [← hW1]; exact hI.alloc _ (hI.alloc _ h0)
 have hb1 : Below w0.heap.size w0 W1 := by
  have h2 : Below w.heap.size w W1 := by rw [← hW1]; exact ((Below.refl _ w).alloc (Nat.le_refl _) _).alloc (by simp) _
  exact hb0.trans (h2.mono hb0.size)
 have hz1 : W1.heap.size = w.heap.size + 2 := by rw [← hW1]; simp
 refine ⟨w.heap.size + 1,[{ target := .collected w.heap.size,args := #[] }],W1,{ target := .fn (.func gf) lb,args := #[.func (.yield (w.heap.size + 1)) #[] #[]] },W1,gf,#[.func (.yield (w.heap.size + 1)) #[] #[]] ++ lb,W1,?_,?_,?_,?_,fun _ => h1,?_⟩
 ·rw [← hW1,hrc]; exact run_enterLoop_outer _ _ _ _ _
 ·simp only [resolve,hg]
  simp [go_sem]
 ·intro f' hf'; trivial
 ·simp [invoke,go_sem,eg]
 ·have hcell : ∀ {A B : World} {row : Option Nat},(∀ r,row = some r → W1.heap.size ≤ r ∧ ∃ o : Obj,A.heap[r]? = some o ∧ o.isWalk = true) → ∀ r,row = some r → w.heap.size ≤ r ∧ ∃ o : Obj,A.heap[r]? = some o ∧ o.isCells = false := by
   intro A B row hr r e
   obtain ⟨h2,o,h3,h4⟩ := hr r e
   exact ⟨by omega,o,h3,Obj.not_cells_of_walk h4⟩
  refine (hseq (w.heap.size + 1) (fun pre W => I pre W ∧ W.heap[w.heap.size + 1]? = some (.loop (rc .ready none)) ∧ W.heap[w.heap.size]? = some (.deferred (some []))) W1 hb1 ?_ ?_ (fun pre W h => hIb pre W h.1) ⟨hI1,hL1,hK1⟩).mono ?_
  ·rintro s A B row ⟨k1,k2,k3⟩ hgr hr
   exact ⟨hI s A B row k1 hgr (hcell (B := B) hr),(grownBy_keeps hgr (fun r e => (hr r e).2) k2 rfl).trans k2,(grownBy_keeps hgr (fun r e => (hr r e).2) k3 rfl).trans k3⟩
  ·rintro pre x W ⟨k1,k2,k3⟩ hlen
   have hlt : w.heap.size + 1 < W.heap.size := (Array.getElem?_eq_some_iff.1 k2).1
   have hy := run_yield (P := P) (args := #[enc x]) k2 (by rw [hrc]; rfl)
   have hy' : (Instr.yield (w.heap.size + 1) #[enc x]).run P W = .ok (.round (w.heap.size + 1) fn (a.tmps.setIfInBounds t (enc x)) assign body) W := by
    rw [hy,hrc]; simp
   obtain ⟨W2,hW2⟩ : ∃ W2,W.alloc (oA x) = W2 := ⟨_,rfl⟩
   have hg2 : W.grownBy W2 none := by rw [← hW2]; exact World.grownBy_alloc W _ none
   have j1 : I pre W2 := hI pre W W2 none k1 hg2 (fun r e => by cases e)
   have j2 : W2.heap[w.heap.size + 1]? = some (.loop (rc .ready none)) := by rw [← hW2]; exact (Below.heap_alloc _ _ _ hlt).trans k2
   have j3 : W2.heap[w.heap.size]? = some (.deferred (some [])) := by rw [← hW2]; exact (Below.heap_alloc _ _ _ (by omega)).trans k3
   have j4 : W2.heap[W.heap.size]? = some (oA x) := by rw [← hW2]; exact World.alloc_heap_new W _
   have j5 : KeepsWalks W W2 := by rw [← hW2]; exact KeepsWalks.alloc W _
   refine ⟨fn,_,assign,body,hy',roundIn_of_wpIn hfn ?_⟩
   refine hassign _ x W _ ?_
   rw [hW2]
   clear hW2
   refine ⟨_,run_beginRound j2 (by rw [hrc]),?_⟩
   have hlt2 : w.heap.size + 1 < W2.heap.size := (Array.getElem?_eq_some_iff.1 j2).1
   obtain ⟨W3,hW3⟩ : ∃ W3,W2.putObj (w.heap.size + 1) (.loop { rc .ready none with state := .busy }) = W3 := ⟨_,rfl⟩
   have i1 : I pre W3 := by rw [← hW3]; exact hI.putObj _ j1 (by omega) j2 rfl
   have i2 : W3.heap[w.heap.size + 1]? = some (.loop { rc .ready none with state := .busy }) := by rw [← hW3]; exact World.putObj_heap_same hlt2
   have i3 : W3.heap[w.heap.size]? = some (.deferred (some [])) := by rw [← hW3]; exact (World.putObj_heap_other (by omega)).trans j3
   have i4 : W3.heap[W.heap.size]? = some (oA x) := by rw [← hW3]; exact (World.putObj_heap_other (by omega)).trans j4
   have i5 : KeepsWalks W W3 := by rw [← hW3]; exact j5.trans (KeepsWalks.putObj _ j2 rfl)
   rw [hrc] at hW3
   rw [hrc,hW3]
   refine wpIn_mono (hbody _ pre x W.heap.size W3 i1 (by omega) i4 hlen) ?_
   rintro e a3 W4 ⟨rfl,hk,hi⟩
   have l2 := hk.same _ _ i2 rfl
   have l3 := hk.same _ _ i3 rfl
   have hend := run_endRound (P := P) none l2
   refine ⟨_,_,hend,rfl,⟨hI.putObj _ hi (by omega) l2 rfl,?_,(World.putObj_heap_other (by omega)).trans l3⟩,(i5.trans hk.walks).trans (KeepsWalks.putObj _ l2 rfl)⟩
   rw [World.putObj_heap_same (Array.getElem?_eq_some_iff.1 l2).1,hrc]
   rfl
  ·rintro e W2 ⟨⟨v,rfl⟩,xs,hS,hi,hl,hk⟩
   have hend := run_endLoop (P := P) hl (by rw [hrc]; simp)
   refine ⟨none,_,by rw [hrc] at hend; exact hend,?_⟩
   exact hdone _ xs _ (Nat.le_refl _) hS (hI.putObj _ hi (by omega) hl rfl) ((World.putObj_heap_other (by omega)).trans hk)
end Go.Proofs.YtldidldbhngmnaaGreatDoor
namespace Go.Proofs.YtldidldbhngmnaaGreatDoor
open Go Go.RowKit Go.Maps Go.Shelf
structure Row (k : Nat) where
 c : Array Value
 sz : c.size = k
 one : ∀ u ∈ c.toList,u.oneCell' = true
def Row.enc {k : Nat} (x : Row k) : Value := .agg x.c
def Row.all {k : Nat} (l : List (Row k)) : List Value := l.flatMap fun x => x.c.toList
theorem Row.all_snoc {k : Nat} (l : List (Row k)) (x : Row k) : Row.all (l ++ [x]) = Row.all l ++ x.c.toList := by simp [Row.all]
theorem Row.flat {k : Nat} (x : Row k) : Flat x.c := fun v hv => by
 have := x.one v (by simpa using hv)
 constructor <;> intro y e <;> subst e <;> simp [Value.oneCell'] at this
section
variable {P : Program} {n : Nat} {F : Fence} {ops : Array Oper} {rest : List Oper} {a : Act} {Q : Exit → Act → World → Prop} {w w' : World} {t ty : TypeId} {d : Option Tmp} {pos : String} {af : Array Edge}
theorem in_val {o : Oper} {v : Value} (hF : ∀ f,F.fn f) (hg : o.guard = none) (hd : ∀ c,o.op ≠ .defer c) (h : (execOp a.eval o).run P w = .ok (.value v) w') (k : wpListIn F n P ops Q rest (a.put o.dst v) w') : wpListIn F n P ops Q (o :: rest) a w := by
 refine wpListIn_plain hg fun K hK => ⟨fun f _ => hF f,?_⟩
 rw [Oper.semAt_plain F _ _ hd,h]
 exact hK _ _ k
theorem in_skip {o : Oper} (hF : ∀ f,F.fn f) (hg : o.guard = none) (hd : ∀ c,o.op ≠ .defer c) (h : (execOp a.eval o).run P w = .ok .skip w') (k : wpListIn F n P ops Q rest (a.put o.dst undef) w') : wpListIn F n P ops Q (o :: rest) a w := by
 refine wpListIn_plain hg fun K hK => ⟨fun f _ => hF f,?_⟩
 rw [Oper.semAt_plain F _ _ hd,h]
 exact hK _ _ k
theorem in_load {x : Operand} {v : Value} (hF : ∀ f,F.fn f) (h : (Instr.loadAt t (a.eval x)).run P w = .ok v w) (k : wpListIn F n P ops Q rest (a.put d v) w) : wpListIn F n P ops Q (⟨d,.load t x,ty,pos,af,none⟩ :: rest) a w :=
 in_val hF rfl (fun c h => by cases h) (by rw [ex_load]; simp only [LD,Sem.run_bind,h,Result.andThen,Sem.run_pure]) k
theorem in_store {x y : Operand} (hF : ∀ f,F.fn f) (h : (Instr.storeAt t (a.eval x) (a.eval y)).run P w = .ok () w') (k : wpListIn F n P ops Q rest (a.put d undef) w') : wpListIn F n P ops Q (⟨d,.store t x y,ty,pos,af,none⟩ :: rest) a w :=
 in_skip hF rfl (fun c h => by cases h) (by rw [ex_store]; simp only [ST,Sem.run_bind,h,Result.andThen,Sem.run_pure]) k
theorem in_alloc {v : Value} (hF : ∀ f,F.fn f) (h : (Instr.alloc t true (.tuple #[])).run P w = .ok v w') (k : wpListIn F n P ops Q rest (a.put d v) w') : wpListIn F n P ops Q (⟨d,.alloc t,ty,pos,af,none⟩ :: rest) a w :=
 in_val hF rfl (fun c h => by cases h) (by rw [ex_alloc]; simp only [AL,Sem.run_bind,h,Result.andThen,Sem.run_pure]) k
theorem in_bslice {m : Nat} {x : Operand} {v : Value} (hF : ∀ f,F.fn f) (h : (Instr.buildSlice t m #[(0,a.eval x)]).run P w = .ok v w') (k : wpListIn F n P ops Q rest (a.put d v) w') : wpListIn F n P ops Q (⟨d,.buildSlice t m #[(0,x)],ty,pos,af,none⟩ :: rest) a w :=
 in_val hF rfl (fun c h => by cases h) (by
  show (do pure (Next.value (← Instr.buildSlice t m (#[(0,x)].map fun (i,x) => (i,a.eval x)))) : Sem Next).run P w = _
  simp only [List.map_toArray,List.map_cons,List.map_nil,Sem.run_bind,h,Result.andThen,Sem.run_pure]) k
end
theorem tE_agg (w : World) : (isAgg 34).run Tryz.prog w = .ok true w := by kernel_rfl
theorem tE_size (w : World) : (Go.sizeOf 34).run Tryz.prog w = .ok 32 w := by kernel_rfl
theorem tE_zero (w : World) : (zeroValue 34).run Tryz.prog w = .ok (.agg (Array.replicate 32 (.int .u8 0))) w := by kernel_rfl
theorem tS_agg (w : World) : (isAgg 50).run Tryz.prog w = .ok false w := by kernel_rfl
theorem tS_size (w : World) : (Go.sizeOf 50).run Tryz.prog w = .ok 1 w := by kernel_rfl
theorem tS_und : Tryz.prog.underlying 50 = some (.slice 34) := by kernel_rfl
theorem tE_info : ∃ i,Tryz.prog.info? 34 = some i ∧ i.zero = some (.agg (Array.replicate 32 (.int .u8 0))) ∧ i.size = 32 ∧ i.bytes = 32 := ⟨(Tryz.prog.info? 34).get!,by kernel_rfl,by kernel_rfl,by kernel_rfl,by kernel_rfl⟩
theorem overlay_r : ∀ (cs : List Value) (n : Nat) (acc : Array Value),n + cs.length ≤ acc.size → (cs.zipIdx n).foldl (fun a (p : Value × Nat) => a.setIfInBounds (0 + p.2) p.1) acc = splice acc n cs.toArray
 | [],n,acc,h => by
  have : n ≤ acc.size := by simpa using h
  show acc = _
  symm
  simp [splice]
  right; omega
 | c :: cs,n,acc,h => by
  have h' : n + cs.length + 1 ≤ acc.size := by simp at h; omega
  rw [List.zipIdx_cons,List.foldl_cons,overlay_r cs (n + 1) _ (by simp; omega)]
  have s1 : n + 1 + cs.toArray.size ≤ (acc.setIfInBounds (0 + n) c).size := by simp; omega
  have s2 : n + (c :: cs).toArray.size ≤ acc.size := by simp; omega
  apply Array.ext_getElem?
  intro k
  rw [splice_get _ _ _ s1,splice_get _ _ _ s2]
  simp only [List.size_toArray,List.length_cons]
  have hlt : n < acc.size := by omega
  by_cases a : k = n
  ·subst a
   rw [if_neg (by omega),if_pos (by omega)]
   simp [hlt]
  ·by_cases b1 : n + 1 ≤ k ∧ k < n + 1 + cs.length
   ·rw [if_pos b1,if_pos (by omega)]
    have : k - n = (k - (n + 1)) + 1 := by omega
    rw [this]
    simp
   ·rw [if_neg b1,if_neg (by omega)]
    rw [Array.getElem?_setIfInBounds_ne (by omega)]
theorem fill_row (c z : Array Value) (n : Nat) (hc : c.size = n) (hz : z.size = n) : Instr.fill (fun i => some (i * n,n)) z [(0,.agg c)] = some c := by
 have h := overlay_r c.toList 0 z (by simp [hc,hz])
 have e : (c.zipIdx.foldl (fun cs (p : Value × Nat) => cs.setIfInBounds (0 + p.2) p.1) z) = c := by
  rw [← Array.foldl_toList,Array.toList_zipIdx,h]
  exact splice_all _ _ (by simp [hc,hz])
 simp only [Instr.fill,Value.cells,Nat.zero_mul,hc,hz]
 rw [if_neg (by simp [hc])]
 exact congrArg some e
theorem bsl_row (x : Row 32) (w : World) : (Instr.buildSlice 50 1 #[(0,.agg x.c)]).run Tryz.prog w = .ok (.slice (some ⟨w.heap.size,0,none⟩) 1 1) (w.alloc (.cells x.c 34)) := by
 have h4 : ∀ z : Array Value,z.size = 32 → Instr.fill (fun i => some (i * 32,32)) z [(0,.agg x.c)] = some x.c := fun z hz => fill_row _ _ _ x.sz hz
 unfold Instr.buildSlice
 simp only [Sem.run_bind,run_underlying tS_und,Result.andThen,tE_size,tE_zero]
 rw [if_neg (by decide),if_neg (by decide)]
 simp only [Sem.run_bind,Sem.run_pure,Result.andThen,tE_zero]
 rw [h4 _ (by simp)]
 simp only [newRow,newObj,Sem.run_bind,Sem.run,Result.andThen,Sem.run_pure]
 rfl
def ApI (w : World) (ss : List (Row 32)) (W : World) : Prop :=
 ∃ v,W.heap[w.heap.size]? = some (.cells #[v] 50 (0,0)) ∧ W.ownsRow w.heap.size 34 32 v ss.length (Row.all ss) ∧ (v = .slice none 0 0 ↔ ss = []) ∧ Below w.heap.size w W
theorem apI_from (w : World) (B : Nat) (hB : w.heap.size ≤ B) : OwnFrom B (ApI w) := by
 rintro ss W W' row ⟨v,h1,h2,h3,h4⟩ hg hr
 have hne : ∀ r,row = some r → w.heap.size ≤ r := fun r e => Nat.le_trans hB (hr r e).1
 refine ⟨v,?_,?_,h3,h4.grown hg h4.size hne⟩
 ·refine (hg.block _ (Array.getElem?_eq_some_iff.1 h1).1 ?_).trans h1
  intro e
  obtain ⟨_,o,ho,hc⟩ := hr _ e.symm
  rw [h1] at ho; cases ho; cases hc
 ·refine h2.kept hg ?_
  rcases h2.2 with ⟨rfl,_⟩ | ⟨g,cap,cur,rfl,_,hgb,_⟩
  ·exact .inl rfl
  ·refine .inr fun e => ?_
   obtain ⟨_,o,ho,hc⟩ := hr g (by simpa [Value.ownBlock] using e.symm)
   rw [hgb] at ho; cases ho; cases hc
set_option maxRecDepth 100000 in
set_option maxHeartbeats 2000000 in
theorem append_seq (g : Nat) (lb : Array Value) (eg : ∀ args w,(callFunc g args).run Tryz.prog w = .ok (.enter g args) w) (S : List (Row 32) → Prop) (N : Nat) (hN : N ≤ maxLen) (hNb : N * 32 ≤ 140737488355328) (w : World)
  (hseq : GivesB Fence.wide 5 Tryz.prog g lb (Row.enc (k := 32)) S N w) :
  Calls Tryz.prog 200 #[.slice none 0 0,.func (.func g) #[] lb] w fun e w' => ∃ (v : Value) (ss : List (Row 32)),e = .returned v ∧ S ss ∧ w'.ownsRow w.heap.size 34 32 v ss.length (Row.all ss) ∧ (v = .slice none 0 0 ↔ ss = []) ∧ Below w.heap.size w w' := by
 refine (callsIn_wide (n := 6)).1 ?_
 refine callsIn_of_wp_marks Tryz.func200 rfl trivial ?_ rfl
 simp only [Tryz.ntmps200,List.size_toArray,List.length_cons,List.length_nil,Nat.reduceAdd,Nat.reduceSub,Array.replicate_succ,Array.replicate_zero,List.push_toArray,List.append_toArray,List.nil_append,List.cons_append]
 gi_wp2
 obtain ⟨W0,hW0⟩ : ∃ W0,w.alloc (.cells #[.slice none 0 0] 50) = W0 := ⟨_,rfl⟩
 have hs0 : W0.heap.size = w.heap.size + 1 := by rw [← hW0]; simp
 have hv0 : W0.heap[w.heap.size]? = some (.cells #[.slice none 0 0] 50 (0,0)) := by rw [← hW0]; exact World.alloc_heap_new w _
 have hb0 : Below w.heap.size w W0 := by rw [← hW0]; exact (Below.refl _ w).alloc (Nat.le_refl _) _
 rw [hW0]
 refine wpIn_over_seq (by omega) rfl eg hseq hb0 (ApI w) (fun pre W h => by obtain ⟨_,_,_,_,h4⟩ := h; exact h4) (apI_from w _ (by omega)) ⟨_,hv0,⟨rfl,.inl ⟨rfl,rfl⟩⟩,by simp,hb0⟩ (fun x => .cells x.c 34 (0,0))
  (fun x b => { tmps := #[.slice none 0 0,.func (.func g) #[] lb,.pointer (some ⟨w.heap.size,0,none⟩),undef,.slice none 0 0,.pointer (some ⟨b,0,none⟩),.func (.func g) #[] lb,.agg x.c,undef,undef,undef,undef,undef],defers := [] }) ?_ ?_ ?_
 ·intro l x W K hK
  have hal : (Instr.alloc 34 true (.tuple #[])).run Tryz.prog W = .ok (.pointer (some ⟨W.heap.size,0,none⟩)) (W.alloc (.cells (Array.replicate 32 (.int .u8 0)) 34)) := AL_agg tE_zero W
  have hst := store_blk (P := Tryz.prog) (t := 34) tE_size (b := W.heap.size) (o := 0) (w := W.alloc (.cells (Array.replicate 32 (.int .u8 0)) 34)) (World.alloc_heap_new W _) x.c x.flat x.sz (by simp)
  rw [upd_alloc_new,splice_all _ _ (by simp [x.sz])] at hst
  refine wpIn_region_lit ?_
  refine in_alloc (fun _ => trivial) hal ?_
  refine in_store (fun _ => trivial) hst ?_
  refine wpListIn_nil ?_
  exact hK
 ·intro l pre x b W hI hb hx hlen
  obtain ⟨v,h1,h2,h3,h4⟩ := hI
  have hBl : w.heap.size < W.heap.size := (Array.getElem?_eq_some_iff.1 h1).1
  have hbl : b < W.heap.size := (Array.getElem?_eq_some_iff.1 hx).1
  have l1 : (Instr.loadAt 50 (.pointer (some ⟨w.heap.size,0,none⟩))).run Tryz.prog W = .ok v W := by
   have := LD_cell (P := Tryz.prog) (t := 50) w.heap.size 0 W tS_agg
   rw [show blk W w.heap.size = _ from h1,loadCell_cells] at this
   exact this
  have l2 : (Instr.loadAt 34 (.pointer (some ⟨b,0,none⟩))).run Tryz.prog W = .ok (.agg x.c) W := by
   have := LD_agg (P := Tryz.prog) (t := 34) tE_agg tE_size b 0 W
   rw [show blk W b = _ from hx,loadBlk_cells,if_pos (by simp [x.sz])] at this
   have e : x.c.extract 0 (0 + 32) = x.c := by simp [x.sz]
   rw [e] at this
   exact this
  obtain ⟨i0,hi,hz0,hz1,hz2⟩ := tE_info
  have hwb : w.heap.size ≤ (W.alloc (.cells x.c 34)).heap.size := by simp; omega
  refine wpIn_block ?_
  refine wpIn_region_lit ?_
  refine in_load (fun _ => trivial) l1 ?_
  refine in_load (fun _ => trivial) l2 ?_
  refine in_bslice (fun _ => trivial) (bsl_row x W) ?_
  refine wpListIn_append_own _ rfl _ _ 50 rfl w.heap.size 34 i0 (.agg (Array.replicate 32 (.int .u8 0))) 32 32 tS_und hi hz0 hz1 hz2 (by simp [Value.cells]) (by decide) v pre.length (Row.all pre) rfl (h2.alloc _) ⟨W.heap.size,0,none⟩ 1 1 x.c.toList rfl (by simp [x.sz]) ?_ x.one (by omega) (by omega) hwb ?_
  ·intro j u hj
   have hh := World.alloc_heap_new W (.cells x.c 34)
   have he : (⟨W.heap.size,0,none⟩ : Addr).add j = ⟨W.heap.size,j,none⟩ := by
    by_cases h0 : j = 0
    ·subst h0; rfl
    ·simp [Addr.add,h0]
   rw [he,cell?_blk hh]
   simpa using hj
  ·intro v' w3 hown hg hnil
   have hne : v.ownBlock = none ∨ v.ownBlock ≠ some w.heap.size := by
    rcases h2.2 with ⟨rfl,_⟩ | ⟨g',cap,cur,rfl,_,hgb,_⟩
    ·exact .inl rfl
    ·refine .inr fun e => ?_
     have : g' = w.heap.size := by simpa [Value.ownBlock] using e
     subst this; rw [h1] at hgb; cases hgb
   have hB3 : w3.heap[w.heap.size]? = some (.cells #[v] 50 (0,0)) := by
    refine (hg.block _ (by simp; omega) ?_).trans ((Below.heap_alloc _ _ _ hBl).trans h1)
    rcases hne with e | e
    ·rw [e]; simp
    ·exact fun e' => e e'.symm
   have hs1 : v'.oneCell' = true := by
    rcases hown.2 with ⟨rfl,_⟩ | ⟨g',cap,cur,rfl,_⟩ <;> rfl
   have hs2 : Flat #[v'] := fun u hu => by
    obtain rfl : u = v' := by simpa using hu
    constructor <;> intro y e <;> subst e <;> simp [Value.oneCell'] at hs1
   have hst : (Instr.storeAt 50 (.pointer (some ⟨w.heap.size,0,none⟩)) v').run Tryz.prog w3 = .ok () (upd w3 w.heap.size (fun c => c.setIfInBounds 0 v')) := by
    have := ST_cell (P := Tryz.prog) (t := 50) w.heap.size 0 v' w3 tS_agg tS_size
    rw [show blk w3 w.heap.size = _ from hB3,storeCell_cells _ _ _ _ _ _ _ _ ⟨by simp,(hs2 v' (by simp)).1,(hs2 v' (by simp)).2⟩] at this
    exact this
   refine in_store (fun _ => trivial) hst ?_
   refine wpListIn_nil ?_
   have hg4 : w3.grownBy (upd w3 w.heap.size (fun c => c.setIfInBounds 0 v')) (some w.heap.size) := ⟨rfl,rfl,rfl,by rw [size_upd]; exact Nat.le_refl _,fun k _ hk => heap_upd_other _ (fun e => hk (by rw [e])) _⟩
   have hne' : v'.ownBlock = none ∨ v'.ownBlock ≠ some w.heap.size := by
    rcases hown.2 with ⟨rfl,_⟩ | ⟨g',cap,cur,rfl,_,hgb,_⟩
    ·exact .inl rfl
    ·refine .inr fun e => ?_
     have : g' = w.heap.size := by simpa [Value.ownBlock] using e
     subst this; rw [hB3] at hgb; cases hgb
   have hrow := hown.kept hg4 hne'
   have hvw : ∀ (j : Nat) (o : Obj),v.ownBlock = some j → (W.alloc (.cells x.c 34)).heap[j]? = some o → o.isCells = true := by
    intro j o hj ho
    rcases (h2.alloc (.cells x.c 34)).2 with ⟨rfl,_⟩ | ⟨g',cap,cur,rfl,_,hgb,_⟩
    ·simp [Value.ownBlock] at hj
    ·have : g' = j := by simpa [Value.ownBlock] using hj
     subst this; rw [hgb] at ho; cases ho; rfl
   have hk : KeepsOthers W (upd w3 w.heap.size (fun c => c.setIfInBounds 0 v')) := by
    refine ((KeepsOthers.alloc W _).trans (KeepsOthers.of_grownBy hg hvw)).trans (KeepsOthers.of_grownBy hg4 ?_)
    rintro j o e ho
    cases e
    rw [hB3] at ho; cases ho; rfl
   have hb5 : Below w.heap.size w (upd w3 w.heap.size (fun c => c.setIfInBounds 0 v')) := by
    have b1 : Below w.heap.size w w3 := (h4.alloc h4.size _).grown hg hwb (fun k e => (h2.lt k e).1)
    exact b1.grown hg4 b1.size (fun k e => by cases e; exact Nat.le_refl _)
   refine ⟨rfl,hk,v',?_,?_,?_,hb5⟩
   ·rw [heap_upd_same hB3]; rfl
   ·rw [Row.all_snoc,List.length_append,List.length_singleton]; exact hrow
   ·rw [hnil]; simp
 ·intro D xs W hD hS hI hK
  obtain ⟨v,h1,h2,h3,h4⟩ := hI
  have l1 : (Instr.loadAt 50 (.pointer (some ⟨w.heap.size,0,none⟩))).run Tryz.prog W = .ok v W := by
   have := LD_cell (P := Tryz.prog) (t := 50) w.heap.size 0 W tS_agg
   rw [show blk W w.heap.size = _ from h1,loadCell_cells] at this
   exact this
  have hc3 : W.cell? ⟨w.heap.size,0,none⟩ = some v := by rw [cell?_blk h1]; rfl
  gi_wp2
  refine ⟨by simp,.inl ⟨_,_,rfl,run_takeDeferred hK,?_⟩⟩
  refine ⟨_,results_tmp rfl _ _ _,v,xs,rfl,hS,?_,h3,?_⟩
  ·refine h2.kept (grown_put W D _) ?_
   rcases h2.2 with ⟨rfl,_⟩ | ⟨g',cap,cur,rfl,_,hgb,_⟩
   ·exact .inl rfl
   ·refine .inr fun e => ?_
    have : g' = D := by simpa [Value.ownBlock] using e
    subst this; rw [hK] at hgb; cases hgb
  ·exact h4.grown (grown_put W D _) h4.size (fun k e => by cases e; omega)
set_option maxRecDepth 100000 in
theorem collect_seq (g : Nat) (lb : Array Value) (eg : ∀ args w,(callFunc g args).run Tryz.prog w = .ok (.enter g args) w) (S : List (Row 32) → Prop) (N : Nat) (hN : N ≤ maxLen) (hNb : N * 32 ≤ 140737488355328) (w : World)
  (hseq : GivesB Fence.wide 5 Tryz.prog g lb (Row.enc (k := 32)) S N w) :
  Calls Tryz.prog 174 #[.func (.func g) #[] lb] w fun e w' => ∃ (v : Value) (ss : List (Row 32)),e = .returned v ∧ S ss ∧ w'.ownsRow w.heap.size 34 32 v ss.length (Row.all ss) ∧ (v = .slice none 0 0 ↔ ss = []) ∧ Below w.heap.size w w' := by
 have e11 := enters_of Tryz.func200 (by kernel_rfl) rfl
 go_enter Tryz.func174,Tryz.ntmps174
 go_wp2_with (go_at_call 200; refine (append_seq g lb eg S N hN hNb _ hseq).mono ?_; rintro e w' ⟨v,ss,rfl,hS,hrow,hnil,hb⟩)
 go_ret
 exact ⟨v,ss,rfl,hS,hrow,hnil,hb⟩
end Go.Proofs.YtldidldbhngmnaaGreatDoor
namespace Go.Proofs.YtldidldbhngmnaaGreatDoor
open Go Go.RowKit Go.Maps Go.Shelf
theorem rounds_ind {F : Fence} {n : Nat} {P : Program} {c : Code} {Q : Exit → Act → World → Prop} (Inv : Nat → Act → World → Prop)
  (hstep : ∀ k a w,Inv k a w → c.wpIn F n P (Exit.then (fun a' w' => ∃ j,k = j + 1 ∧ Inv j a' w') Q) a w) : ∀ k a w,Inv k a w → Code.roundsIn F n P c Q (k + 1) a w
 | 0,a,w,h => by
  rw [roundsIn_succ]
  refine wpIn_mono (hstep 0 a w h) ?_
  rintro (_ | _ | _ | _ | _ | _) a' w' hq
  ·obtain ⟨j,hj,_⟩ := hq; omega
  all_goals exact hq
 | k + 1,a,w,h => by
  rw [roundsIn_succ]
  refine wpIn_mono (hstep (k + 1) a w h) ?_
  rintro (_ | _ | _ | _ | _ | _) a' w' hq
  ·obtain ⟨j,hj,hi⟩ := hq
   have : j = k := by omega
   subst this
   exact rounds_ind Inv hstep j a' w' hi
  all_goals exact hq
theorem born_perm (e : MapEntry) : ∀ M : List MapEntry,(M.map (·.born)).Nodup → e ∈ M → M.Perm (e :: M.filter (fun x => x.born != e.born))
 | [],_,h => by cases h
 | x :: M,hn,h => by
  rw [List.map_cons,List.nodup_cons] at hn
  by_cases hx : x = e
  ·subst hx
   have : M.filter (fun y => y.born != x.born) = M := by
    rw [List.filter_eq_self]
    intro y hy
    have : y.born ≠ x.born := fun e => hn.1 (List.mem_map.2 ⟨y,hy,e⟩)
    simpa using this
   rw [List.filter_cons_of_neg (by simp),this]
  ·have he : e ∈ M := by
    rcases List.mem_cons.1 h with h | h
    ·exact absurd h.symm hx
    ·exact h
   have hb : x.born ≠ e.born := fun e' => hn.1 (List.mem_map.2 ⟨e,he,e'.symm⟩)
   rw [List.filter_cons_of_pos (by simpa using hb)]
   exact ((born_perm e M hn.2 he).cons x).trans (List.Perm.swap _ _ _)
theorem left_push (es : Array MapEntry) (seen : Array Nat) (e : MapEntry) : (leftOf es (seen.push e.born)).toList = (leftOf es seen).toList.filter (fun x => x.born != e.born) := by
 unfold leftOf
 rw [Array.toList_filter,Array.toList_filter,List.filter_filter]
 congr 1
 funext x
 simp only [Array.contains_push]
 by_cases h : x.born = e.born
 ·simp [h]
 ·have h2 : (x.born == e.born) = false := by simpa using h
  have h3 : (x.born != e.born) = true := by simpa using h
  rw [h3]
  simp [h2,h]
theorem left_perm (es : Array MapEntry) (hn : (es.toList.map (·.born)).Nodup) (seen : Array Nat) (e : MapEntry) (he : e ∈ (leftOf es seen).toList) :
  (leftOf es seen).toList.Perm (e :: (leftOf es (seen.push e.born)).toList) := by
 rw [left_push]
 refine born_perm e _ ?_ he
 unfold leftOf
 rw [Array.toList_filter]
 exact hn.sublist ((List.filter_sublist).map _)
theorem left_sub {es : Array MapEntry} {seen : Array Nat} {e : MapEntry} (he : e ∈ (leftOf es seen).toList) : e ∈ es.toList := by
 unfold leftOf at he
 rw [Array.toList_filter] at he
 exact (List.mem_filter.1 he).1
theorem setBlock_grown (w : World) (r : Nat) (o : Obj) : w.grownBy (ChangeMaps.setBlock w r o) (some r) := by
 refine ⟨rfl,rfl,rfl,?_,?_⟩
 ·simp [ChangeMaps.setBlock]
 ·intro k hk hne
  simp only [ChangeMaps.setBlock]
  rw [Array.getElem?_setIfInBounds_ne (fun e => hne (by rw [e]))]
theorem setBlock_grown' (w : World) (r : Nat) (o : Obj) : w.grownBy (ChangeMaps.setBlock w.drew r o) (some r) := by
 refine ⟨rfl,rfl,rfl,?_,?_⟩
 ·simp [ChangeMaps.setBlock]
 ·intro k hk hne
  simp only [ChangeMaps.setBlock]
  rw [Array.getElem?_setIfInBounds_ne (fun e => hne (by rw [e]))]
  rfl
theorem tE_alloc (W : World) : (Instr.alloc 34 true (.tuple #[])).run Tryz.prog W = .ok (.pointer (some ⟨W.heap.size,0,none⟩)) (W.alloc (.cells (Array.replicate 32 (.int .u8 0)) 34)) := AL_agg tE_zero W
theorem tE_store (W : World) (x : Row 32) : (Instr.storeAt 34 (.pointer (some ⟨W.heap.size,0,none⟩)) x.enc).run Tryz.prog (W.alloc (.cells (Array.replicate 32 (.int .u8 0)) 34)) = .ok () (W.alloc (.cells x.c 34)) := by
 have hst := store_blk (P := Tryz.prog) (t := 34) tE_size (b := W.heap.size) (o := 0) (w := W.alloc (.cells (Array.replicate 32 (.int .u8 0)) 34)) (World.alloc_heap_new W _) x.c x.flat x.sz (by simp)
 rw [upd_alloc_new,splice_all _ _ (by simp [x.sz])] at hst
 exact hst
theorem tE_load (W : World) (x : Row 32) : (Instr.loadAt 34 (.pointer (some ⟨W.heap.size,0,none⟩))).run Tryz.prog (W.alloc (.cells x.c 34)) = .ok x.enc (W.alloc (.cells x.c 34)) := by
 have := LD_agg (P := Tryz.prog) (t := 34) tE_agg tE_size W.heap.size 0 (W.alloc (.cells x.c 34))
 rw [show blk (W.alloc (.cells x.c 34)) W.heap.size = _ from World.alloc_heap_new W _,loadBlk_cells,if_pos (by simp [x.sz])] at this
 have e : x.c.extract 0 (0 + 32) = x.c := by simp [x.sz]
 rw [e] at this
 exact this
theorem setBlock_at {w : World} {r : Nat} (o : Obj) (h : r < w.heap.size) : (ChangeMaps.setBlock w r o).heap[r]? = some o := by
 simp [ChangeMaps.setBlock,h]
theorem keys_next {P : Program} {w : World} {r b ck c0 : Nat} {seen : Array Nat} {es : Array MapEntry} (hr : w.heap[r]? = some (.mapIter (some b) ck seen c0)) (hb : w.heap[b]? = some (.map es ck)) (hold : ∀ x ∈ es.toList,x.born < ck) (hsc : ck ≤ c0) (ty : TypeId) :
  ((leftOf es seen).size = 0 ∧ (Instr.next (.pointer (some ⟨r,0,none⟩)) false ty).run P w = .ok (.tuple #[.bool false]) w) ∨
  ∃ e ∈ (leftOf es seen).toList,∃ w1,(Instr.next (.pointer (some ⟨r,0,none⟩)) false ty).run P w = .ok (.tuple #[.bool true,e.key,e.val]) w1 ∧ w.grownBy w1 (some r) ∧ w1.heap[r]? = some (.mapIter (some b) ck (seen.push e.born) ck) := by
 rcases run_next_at (P := P) w ty r b ck c0 seen es ck hr hb hold hsc with h | ⟨e,he,w1,hw1,h⟩
 ·exact .inl h
 ·refine .inr ⟨e,he,_,h,?_,?_⟩
  ·rcases hw1 with rfl | rfl
   ·exact setBlock_grown _ _ _
   ·exact setBlock_grown' _ _ _
  ·have hlt : r < w.heap.size := (Array.getElem?_eq_some_iff.1 hr).1
   rcases hw1 with rfl | rfl
   ·exact setBlock_at _ hlt
   ·exact setBlock_at (w := w.drew) _ hlt
end Go.Proofs.YtldidldbhngmnaaGreatDoor
namespace Go.Proofs.YtldidldbhngmnaaGreatDoor.Ir
open Go Go.Proofs.YtldidldbhngmnaaGreatDoor Go.RowKit Go.Maps Go.Shelf
set_option maxRecDepth 100000 in
set_option maxHeartbeats 2000000 in
theorem keys_one : KeysOne Tryz.prog 172 (kk .u8 32) := by
 refine ⟨⟨_,Tryz.func172,rfl,by kernel_rfl⟩,?_⟩
 intro l b ck a e W Rf hm hbW hborn hkey hY
 obtain ⟨c,hkc,hcs,hci⟩ := hkey
 obtain ⟨x,hxe⟩ : ∃ x : Row 32,e.key = x.enc := by
  refine ⟨⟨c,hcs,fun u hu => ?_⟩,hkc⟩
  obtain ⟨i,hi,rfl⟩ := List.getElem_of_mem hu
  have hi' : i < c.size := by simpa using hi
  have hl : i < (kk IntKind.u8 32).length := by rw [← hcs]; exact hi'
  obtain ⟨n,hn⟩ := hci i _ (c[i]) (List.getElem?_eq_getElem hl) (Array.getElem?_eq_getElem hi')
  simp [hn,Value.oneCell']
 have hbl : b < W.heap.size := (Array.getElem?_eq_some_iff.1 hbW).1
 have hold : ∀ y ∈ (#[e] : Array MapEntry).toList,y.born < ck := fun y hy => by
  have : y = e := by simpa using hy
  rw [this]; exact hborn
 refine callsIn_of_wp Tryz.func172 rfl trivial ?_ rfl
 simp only [Tryz.ntmps172,List.size_toArray,List.length_cons,List.length_nil,Nat.reduceAdd,Nat.reduceSub,Array.replicate_succ,Array.replicate_zero,List.push_toArray,List.append_toArray,List.nil_append,List.cons_append]
 have hrg := run_range_map (P := Tryz.prog) W 135 34 4 b #[e] ck Tryz.underlying135 hbW
 gi_wp2
 obtain ⟨W0,hW0⟩ : ∃ W0,W.alloc (.mapIter (some b) ck #[] ck) = W0 := ⟨_,rfl⟩
 have hr0 : W0.heap[W.heap.size]? = some (.mapIter (some b) ck #[] ck) := by rw [← hW0]; exact World.alloc_heap_new W _
 have hb0 : W0.heap[b]? = some (.map #[e] ck) := by rw [← hW0]; exact (Below.heap_alloc W _ b hbl).trans hbW
 have hB0 : Below W.heap.size W W0 := by rw [← hW0]; exact (Below.refl _ W).alloc (Nat.le_refl _) _
 rw [hW0]
 clear hrg hW0
 refine wpIn_loop_rounds 2 ?_
 rw [roundsIn_succ]
 rcases keys_next (P := Tryz.prog) hr0 hb0 hold (Nat.le_refl _) 0 with ⟨e0,hx⟩ | ⟨e',he,w1,hx,hg1,hi1⟩
 ·exfalso
  simp [leftOf] at e0
 ·have hee : e' = e := by
   have := left_sub he
   simpa using this
  subst hee
  have hb1 : w1.heap[b]? = some (.map #[e'] ck) := (hg1.block b (Array.getElem?_eq_some_iff.1 hb0).1 (fun h => by cases h; omega)).trans hb0
  have hB1 : Below W.heap.size W w1 := hB0.grown hg1 hB0.size (fun r h => by cases h; exact Nat.le_refl _)
  have hen := run_entry_at (P := Tryz.prog) w1 W.heap.size b ck #[] #[e'] ck e' hi1 hb1 (by simp) (by simp)
  rw [hxe] at hen hx
  have hal := tE_alloc w1
  have hst := tE_store w1 x
  have hld := tE_load w1 x
  obtain ⟨W2,hW2⟩ : ∃ W2,w1.alloc (.cells x.c 34) = W2 := ⟨_,rfl⟩
  rw [hW2] at hst hld
  have hi2 : W2.heap[W.heap.size]? = some (.mapIter (some b) ck (#[].push e'.born) ck) := by rw [← hW2]; exact (Below.heap_alloc _ _ _ (Array.getElem?_eq_some_iff.1 hi1).1).trans hi1
  have hB2 : Below W.heap.size W W2 := by rw [← hW2]; exact hB1.alloc hB1.size _
  obtain ⟨fn,tmps,assign,body,hy,hR⟩ := hY W2 hB2 (by simpa using hi2)
  rw [hxe] at hy
  clear hW2
  gi_wp2_with (first
   | (refine in_alloc (fun _ => trivial) hal ?_)
   | (refine in_store (fun _ => trivial) hst ?_)
   | (refine in_load (fun _ => trivial) hld ?_)
   | gi_in)
  refine hR.mono ?_
  rintro e9 W3 ⟨rfl,hi3,⟨e3,hb3,hbo⟩,hRf⟩
  gi_wp2
  rw [roundsIn_succ]
  have hold3 : ∀ y ∈ (#[e3] : Array MapEntry).toList,y.born < ck := fun y hy => by
   have : y = e3 := by simpa using hy
   rw [this,hbo]; exact hborn
  rcases keys_next (P := Tryz.prog) hi3 hb3 hold3 (Nat.le_refl _) 0 with ⟨e0,hx3⟩ | ⟨e4,he4,_⟩
  ·gi_wp2
   go_end0
   exact ⟨⟨_,rfl⟩,hRf⟩
  ·exfalso
   simp [leftOf,hbo] at he4
end Go.Proofs.YtldidldbhngmnaaGreatDoor.Ir
namespace Go.Proofs.YtldidldbhngmnaaGreatDoor.Ir
set_option maxRecDepth 100000
open Go Go.Proofs.YtldidldbhngmnaaGreatDoor Go.RowKit
noncomputable def cmpN (a : List Nat) : List Nat → Int := List.rec (motive := fun _ => List Nat → Int) (fun b => match b with | [] => .ofNat 0 | _ :: _ => .negSucc 0)
 (fun x _ ih b => match b with | [] => .ofNat 1 | y :: b => (match Nat.blt x y with | true => .negSucc 0 | false => (match Nat.blt y x with | true => .ofNat 1 | false => ih b))) a
theorem u8_lt {x y : Nat} (hx : x < 256) (hy : y < 256) : (x.toUInt8 < y.toUInt8) ↔ x < y := by
 rw [UInt8.lt_iff_toNat_lt]
 simp only [Nat.toUInt8,UInt8.toNat_ofNat']
 omega
theorem cmpN_eq : ∀ (a b : List Nat),(∀ x ∈ a,x < 256) → (∀ x ∈ b,x < 256) → Lib.compareBytes (a.map (·.toUInt8)) (b.map (·.toUInt8)) = cmpN a b
 | [],[],_,_ => rfl
 | [],_ :: _,_,_ => rfl
 | _ :: _,[],_,_ => rfl
 | x :: a,y :: b,ha,hb => by
  have hx := ha x (by simp)
  have hy := hb y (by simp)
  have ih := cmpN_eq a b (fun z hz => ha z (by simp [hz])) (fun z hz => hb z (by simp [hz]))
  show (if x.toUInt8 < y.toUInt8 then (-1 : Int) else if y.toUInt8 < x.toUInt8 then 1 else Lib.compareBytes (a.map (·.toUInt8)) (b.map (·.toUInt8))) = (match Nat.blt x y with | true => .negSucc 0 | false => (match Nat.blt y x with | true => .ofNat 1 | false => cmpN a b))
  rw [ih,blt_eq,blt_eq]
  by_cases h1 : x < y
  ·rw [if_pos ((u8_lt hx hy).2 h1)]; simp [h1]
  ·rw [if_neg (fun h => h1 ((u8_lt hx hy).1 h))]
   by_cases h2 : y < x
   ·rw [if_pos ((u8_lt hy hx).2 h2)]; simp [h1,h2]
   ·rw [if_neg (fun h => h2 ((u8_lt hy hx).1 h))]; simp [h1,h2]
theorem cmpN_range (a b : List Nat) : cmpN a b = 0 ∨ cmpN a b = 1 ∨ cmpN a b = -1 := by
 induction a generalizing b with
 | nil => cases b with | nil => exact .inl rfl | cons => exact .inr (.inr rfl)
 | cons x a ih =>
  cases b with
  | nil => exact .inr (.inl rfl)
  | cons y b =>
   show (match Nat.blt x y with | true => (.negSucc 0 : Int) | false => (match Nat.blt y x with | true => .ofNat 1 | false => cmpN a b)) = 0 ∨ _
   cases h1 : Nat.blt x y with
   | true => exact .inr (.inr (by show (match Nat.blt x y with | true => (.negSucc 0 : Int) | false => _) = -1; rw [h1]; rfl))
   | false =>
    cases h2 : Nat.blt y x with
    | true => exact .inr (.inl (by show (match Nat.blt x y with | true => (.negSucc 0 : Int) | false => (match Nat.blt y x with | true => .ofNat 1 | false => cmpN a b)) = 1; rw [h1,h2]; rfl))
    | false =>
     have e : cmpN (x :: a) (y :: b) = cmpN a b := by
      show (match Nat.blt x y with | true => (.negSucc 0 : Int) | false => (match Nat.blt y x with | true => .ofNat 1 | false => cmpN a b)) = _
      rw [h1,h2]
     simp only
     rw [e]
     exact ih b
theorem loadBytes_run {P : Program} {w : World} : ∀ (l : List Nat) (a : Addr) (acc : ByteArray),a.spot = none → (∀ i b,l[i]? = some b → w.cell? ⟨a.block,a.off + i,none⟩ = some (.int .u8 (.ofNat b))) →
  (Extern.Bytes.loadBytes a l.length acc).run P w = .ok ⟨acc.data ++ (l.map (·.toUInt8)).toArray⟩ w
 | [],a,acc,_,_ => by
  show Result.ok acc w = _
  simp
 | b :: l,a,acc,hs,h => by
  have h0 := h 0 b rfl
  obtain ⟨blk,off,spot⟩ := a
  simp only at hs
  subst hs
  have ih := loadBytes_run (P := P) (w := w) l (Addr.add ⟨blk,off,none⟩ 1) (acc.push b.toUInt8) rfl (fun i c hi => by
   have := h (i + 1) c (by simpa using hi)
   show w.cell? ⟨blk,off + 1 + i,none⟩ = _
   rw [show off + 1 + i = off + (i + 1) by omega]
   exact this)
  show (Extern.Bytes.loadBytes ⟨blk,off,none⟩ (l.length + 1) acc).run P w = _
  unfold Extern.Bytes.loadBytes
  simp only [Sem.run_bind,run_load]
  have h0' : w.cell? ⟨blk,off,none⟩ = some (.int .u8 (.ofNat b)) := h0
  rw [h0']
  simp only [Result.andThen]
  have e : (Int.ofNat b).toNat.toUInt8 = b.toUInt8 := rfl
  rw [e,ih]
  congr 1
  simp
def bytesV (w : World) (v : Value) (l : List Nat) : Prop := ∃ a c,v = .slice (some a) l.length c ∧ (l = [] ∨ a.spot = none) ∧ ∀ i b,l[i]? = some b → w.cell? ⟨a.block,a.off + i,none⟩ = some (.int .u8 (.ofNat b))
theorem bytesOf_run {P : Program} {w : World} {v : Value} {l : List Nat} (h : bytesV w v l) : (Extern.Bytes.bytesOf v).run P w = .ok ⟨(l.map (·.toUInt8)).toArray⟩ w := by
 obtain ⟨a,c,rfl,h1,h2⟩ := h
 show (Extern.Bytes.loadBytes a l.length .empty).run P w = _
 rcases h1 with rfl | h1
 ·rfl
 ·rw [loadBytes_run l a .empty h1 h2]
  simp
theorem compare_run {P : Program} {w : World} {x y : Value} {l m : List Nat} (hx : bytesV w x l) (hy : bytesV w y m) (hl : ∀ b ∈ l,b < 256) (hm : ∀ b ∈ m,b < 256) :
  (Extern.BytealgCompare.compare #[x,y]).run P w = .ok (.int .i64 (cmpN l m)) w := by
 change Sem.run P (do pure (goInt (Extern.BytealgCompare.cmp (← Extern.Bytes.bytesOf x) (← Extern.Bytes.bytesOf y)))) w = _
 simp only [Sem.run_bind,bytesOf_run hx,bytesOf_run hy,Sem.run_pure,Result.andThen]
 rw [Lib.cmp_eq]
 simp only [cmpN_eq l m hl hm]
 rfl
set_option maxHeartbeats 1000000 in
theorem bcmp_calls {w : World} {x y : Value} {l m : List Nat} (hx : bytesV w x l) (hy : bytesV w y m) (hl : ∀ b ∈ l,b < 256) (hm : ∀ b ∈ m,b < 256) :
  Calls Tryz.prog 175 #[x,y] w fun e w' => e = .returned (.int .i64 (cmpN l m)) ∧ w' = w := by
 have hr := compare_run (P := Tryz.prog) hx hy hl hm
 obtain ⟨R,hR⟩ : ∃ R : Value,.int .i64 (cmpN l m) = R := ⟨_,rfl⟩
 rw [hR] at hr ⊢
 clear hx hy hl hm
 go_enter Tryz.func175,Tryz.ntmps175
 go_wp2
 rw [run_callFunc_extern Tryz.func201 (by kernel_rfl) (by kernel_rfl) (by kernel_rfl) (e := Extern.BytealgCompare.compare) (by kernel_rfl),hr]
 simp only [Result.andThen]
 rw [Oper.upon_value]
 go_wp2
 go_ret
 exact ⟨rfl,rfl⟩
end Go.Proofs.YtldidldbhngmnaaGreatDoor.Ir
namespace Go.Proofs.YtldidldbhngmnaaGreatDoor.Ir
open Go Go.Proofs Go.Proofs.YtldidldbhngmnaaGreatDoor Go.RowKit Go.Shelf Go.Sort
structure HB where
 l : List Nat
 len : l.length = 32
 lt : ∀ x ∈ l,x < 256
instance : Inhabited HB := ⟨⟨List.replicate 32 0,by simp,by intro x hx; simp at hx; omega⟩⟩
def HB.enc (x : HB) : List Value := x.l.map fun n => .int .u8 (.ofNat n)
theorem HB.get (x : HB) {i n : Nat} (h : x.l[i]? = some n) : x.enc.toArray[i]? = some (.int .u8 (.ofNat n)) := by simp [HB.enc,h]
theorem HB.bytes (x : HB) {V : World} {b : Nat} {e : TypeId} {fr : Nat × Nat} (h : V.heap[b]? = some (.cells x.enc.toArray e fr)) : bytesV V (.slice (some ⟨b,0,none⟩) 32 32) x.l := by
 refine ⟨⟨b,0,none⟩,32,by rw [x.len],.inr rfl,fun i n hi => ?_⟩
 rw [cell?_blk h,Nat.zero_add]
 exact x.get hi
set_option maxRecDepth 100000 in
set_option maxHeartbeats 1000000 in
theorem dcmp_calls (x y : HB) (W : World) : Calls Tryz.prog 133 #[.agg x.enc.toArray,.agg y.enc.toArray] W fun e w' => e = .returned (.int .i64 (cmpN x.l y.l)) ∧ ∃ q os',w' = grow (W.drewN q) os' := by
 have hx : x.enc.toArray.size = 32 := by simp [HB.enc,x.len]
 have hy : y.enc.toArray.size = 32 := by simp [HB.enc,y.len]
 have hbx : ∀ V : World,V.heap = ((W.alloc (.cells x.enc.toArray 34)).alloc (.cells y.enc.toArray 34)).heap → bytesV V (.slice (some ⟨W.heap.size,0,none⟩) 32 32) x.l := fun V hV => x.bytes (by rw [hV]; exact (Below.heap_alloc _ _ _ (by simp)).trans (World.alloc_heap_new W _))
 have hby : ∀ V : World,V.heap = ((W.alloc (.cells x.enc.toArray 34)).alloc (.cells y.enc.toArray 34)).heap → bytesV V (.slice (some ⟨W.heap.size + 1,0,none⟩) 32 32) y.l := fun V hV => y.bytes (by
  rw [hV]
  have := World.alloc_heap_new (W.alloc (.cells x.enc.toArray 34)) (.cells y.enc.toArray 34)
  rwa [World.size_alloc] at this)
 have hcon := fun V hV => bcmp_calls (hbx V hV) (hby V hV) x.lt y.lt
 clear hbx hby
 generalize x.enc.toArray = X at hx hcon ⊢
 generalize y.enc.toArray = Y at hy hcon ⊢
 generalize cmpN x.l y.l = r at hcon ⊢
 have hc := hcon ((W.alloc (.cells X 34)).alloc (.cells Y 34)).drew rfl
 clear hcon
 go_enter Tryz.func133,Tryz.ntmps133
 go_wp2_with fail
 go_region_with (go_at_call 175; refine hc.mono ?_; rintro e w' ⟨rfl,rfl⟩)
 go_wp2
 go_ret
 exact ⟨rfl,1,_,by rw [alloc_eq_grow,alloc_eq_grow,grow_grow]; rfl⟩
theorem dcmp_lays (blk off size : Nat) (w : World) : CmpLays Tryz.prog 133 #[] HB.enc 32 (fun x y => cmpN x.l y.l) blk off size w :=
 fun _ _ _ _ x y => dcmp_calls x y _
def nOf : List Nat → Nat | [] => 0 | x :: l => x * 256 ^ l.length + nOf l
theorem nOf_lt : ∀ l : List Nat,(∀ x ∈ l,x < 256) → nOf l < 256 ^ l.length
 | [],_ => by simp [nOf]
 | x :: l,h => by
  have h1 := nOf_lt l (fun y hy => h y (by simp [hy]))
  have h2 := h x (by simp)
  simp only [nOf,List.length_cons,Nat.pow_succ]
  have : x * 256 ^ l.length + 256 ^ l.length ≤ 256 * 256 ^ l.length := by rw [← Nat.succ_mul]; exact Nat.mul_le_mul_right _ h2
  rw [Nat.mul_comm (256 ^ l.length) 256]
  omega
theorem nOf_less {x y m n p : Nat} (h : x < y) (hm : m < p) : x * p + m < y * p + n := by
 have : (x + 1) * p ≤ y * p := Nat.mul_le_mul_right _ h
 rw [Nat.succ_mul] at this
 omega
theorem cmpN_cons (x y : Nat) (a b : List Nat) : cmpN (x :: a) (y :: b) = if x < y then -1 else if y < x then 1 else cmpN a b := by
 show (match Nat.blt x y with | true => (.negSucc 0 : Int) | false => (match Nat.blt y x with | true => .ofNat 1 | false => cmpN a b)) = _
 rw [blt_eq,blt_eq]
 by_cases h1 : x < y
 ·simp [h1]
 ·by_cases h2 : y < x <;> simp [h1,h2]
theorem cmpN_num : ∀ (a b : List Nat),a.length = b.length → (∀ x ∈ a,x < 256) → (∀ x ∈ b,x < 256) → (cmpN a b < 0 ↔ nOf a < nOf b)
 | [],[],_,_,_ => by
  show ((0 : Int) < 0 ↔ _)
  simp [nOf]
 | [],_ :: _,h,_,_ => by simp at h
 | _ :: _,[],h,_,_ => by simp at h
 | x :: a,y :: b,h,ha,hb => by
  have hl : a.length = b.length := by simpa using h
  have ih := cmpN_num a b hl (fun z hz => ha z (by simp [hz])) (fun z hz => hb z (by simp [hz]))
  have h1 := nOf_lt a (fun z hz => ha z (by simp [hz]))
  have h2 := nOf_lt b (fun z hz => hb z (by simp [hz]))
  rw [cmpN_cons]
  simp only [nOf]
  rw [hl] at h1 ⊢
  by_cases c1 : x < y
  ·rw [if_pos c1]
   exact ⟨fun _ => nOf_less c1 h1,fun _ => by decide⟩
  ·rw [if_neg c1]
   by_cases c2 : y < x
   ·rw [if_pos c2]
    have := nOf_less (n := nOf a) c2 h2
    exact ⟨fun h => absurd h (by decide),fun h => by omega⟩
   ·rw [if_neg c2,ih]
    have : x = y := by omega
    subst this
    omega
theorem nOf_inj : ∀ (a b : List Nat),a.length = b.length → (∀ x ∈ a,x < 256) → (∀ x ∈ b,x < 256) → nOf a = nOf b → a = b
 | [],[],_,_,_,_ => rfl
 | [],_ :: _,h,_,_,_ => by simp at h
 | _ :: _,[],h,_,_,_ => by simp at h
 | x :: a,y :: b,h,ha,hb,e => by
  have hl : a.length = b.length := by simpa using h
  have h1 := nOf_lt a (fun z hz => ha z (by simp [hz]))
  have h2 := nOf_lt b (fun z hz => hb z (by simp [hz]))
  simp only [nOf] at e
  rw [hl] at h1 e
  have hxy : x = y := by
   rcases Nat.lt_trichotomy x y with c | c | c
   ·have := nOf_less (n := nOf b) c h1; omega
   ·exact c
   ·have := nOf_less (n := nOf a) c h2; omega
  subst hxy
  rw [nOf_inj a b hl (fun z hz => ha z (by simp [hz])) (fun z hz => hb z (by simp [hz])) (by omega)]
theorem HB.ext {x y : HB} (h : x.l = y.l) : x = y := by
 cases x; cases y; cases h; rfl
noncomputable def dcf (x y : HB) : Int := cmpN x.l y.l
theorem dcf_lt (x y : HB) : ltOf dcf x y = decide (nOf x.l < nOf y.l) := by
 have := cmpN_num x.l y.l (by rw [x.len,y.len]) x.lt y.lt
 unfold ltOf dcf
 simp only [decide_eq_decide]
 exact this
theorem dcf_swo : SWO (ltOf dcf) where
 irrefl x := by rw [dcf_lt]; simp
 trans x y z h1 h2 := by rw [dcf_lt] at *; simp at *; omega
 ntrans x y z h1 h2 := by rw [dcf_lt] at *; simp at *; omega
theorem dcf_total (x y : HB) (h1 : ltOf dcf x y = false) (h2 : ltOf dcf y x = false) : x = y := by
 rw [dcf_lt] at h1 h2
 simp at h1 h2
 exact HB.ext (nOf_inj _ _ (by rw [x.len,y.len]) x.lt y.lt (by omega))
end Go.Proofs.YtldidldbhngmnaaGreatDoor.Ir
namespace Go.Proofs
open Go.Shelf
def Tryz.sortH_ren : Go.Shelf.Ren := ⟨fun | 6 => 173 | 15 => 190 | 14 => 199 | 28 => 217 | 29 => 218 | 20 => 228 | 21 => 229 | 22 => 230 | 23 => 231 | 24 => 232 | 25 => 233 | 26 => 234 | 27 => 235 | 46 => 253 | 47 => 245 | 48 => 246 | 49 => 254 | 50 => 255 | 57 => 262 | n => n,fun | 22 => 50 | 24 => 34 | 25 => 211 | 3 => 3 | 39 => 87 | 0 => 0 | 53 => 32 | 55 => 42 | 4 => 4 | 46 => 286 | 45 => 285 | 50 => 104 | 5 => 5 | 9 => 9 | 66 => 316 | 70 => 319 | 76 => 329 | 77 => 330 | n => n,fun | n => n⟩
theorem Tryz.sortH : Go.Proofs.SlLaysF0.n6 Tryz.prog Tryz.sortH_ren := {
 mixed := by kernel_rfl
 f6 := ⟨Tryz.f173.name,by decide,Tryz.func173.trans (congrArg some (by kernel_rfl))⟩
 f14 := ⟨Tryz.f199.name,by decide,Tryz.func199.trans (congrArg some (by kernel_rfl))⟩
 f15 := Tryz.func190.trans (congrArg some (by kernel_rfl))
 f20 := ⟨Tryz.f228.name,by decide,Tryz.func228.trans (congrArg some (by kernel_rfl))⟩
 f21 := ⟨Tryz.f229.name,by decide,Tryz.func229.trans (congrArg some (by kernel_rfl))⟩
 f22 := ⟨Tryz.f230.name,by decide,Tryz.func230.trans (congrArg some (by kernel_rfl))⟩
 f23 := ⟨Tryz.f231.name,by decide,Tryz.func231.trans (congrArg some (by kernel_rfl))⟩
 f24 := ⟨Tryz.f232.name,by decide,Tryz.func232.trans (congrArg some (by kernel_rfl))⟩
 f25 := ⟨Tryz.f233.name,by decide,Tryz.func233.trans (congrArg some (by kernel_rfl))⟩
 f26 := ⟨Tryz.f234.name,by decide,Tryz.func234.trans (congrArg some (by kernel_rfl))⟩
 f27 := ⟨Tryz.f235.name,by decide,Tryz.func235.trans (congrArg some (by kernel_rfl))⟩
 f28 := Tryz.func217.trans (congrArg some (by kernel_rfl))
 f29 := Tryz.func218.trans (congrArg some (by kernel_rfl))
 f46 := ⟨Tryz.f253.name,by decide,Tryz.func253.trans (congrArg some (by kernel_rfl))⟩
 f47 := Tryz.func245.trans (congrArg some (by kernel_rfl))
 f48 := Tryz.func246.trans (congrArg some (by kernel_rfl))
 f49 := ⟨Tryz.f254.name,by decide,Tryz.func254.trans (congrArg some (by kernel_rfl))⟩
 f50 := ⟨Tryz.f255.name,by decide,Tryz.func255.trans (congrArg some (by kernel_rfl))⟩
 f57 := ⟨Tryz.f262.name,by decide,Tryz.func262.trans (congrArg some (by kernel_rfl))⟩
 t0 := Tryz.underlying0
 a0 := Tryz.isAgg0
 z0 := Tryz.sizeOf0
 v0 := Tryz.zeroValue0
 t3 := Tryz.underlying3
 a3 := Tryz.isAgg3
 z3 := Tryz.sizeOf3
 v3 := Tryz.zeroValue3
 t4 := Tryz.underlying4
 a4 := Tryz.isAgg4
 z4 := Tryz.sizeOf4
 v4 := Tryz.zeroValue4
 t5 := Tryz.underlying5
 a5 := Tryz.isAgg5
 z5 := Tryz.sizeOf5
 v5 := Tryz.zeroValue5
 t9 := Tryz.underlying9
 a9 := Tryz.isAgg9
 z9 := Tryz.sizeOf9
 v9 := Tryz.zeroValue9
 t22 := Tryz.underlying50
 a22 := Tryz.isAgg50
 z22 := Tryz.sizeOf50
 v22 := Tryz.zeroValue50
 t25 := Tryz.underlying211
 a25 := Tryz.isAgg211
 z25 := Tryz.sizeOf211
 v25 := Tryz.zeroValue211
 t39 := Tryz.underlying87
 a39 := Tryz.isAgg87
 z39 := Tryz.sizeOf87
 v39 := Tryz.zeroValue87
 t45 := Tryz.underlying285
 a45 := Tryz.isAgg285
 z45 := Tryz.sizeOf285
 v45 := Tryz.zeroValue285
 t46 := Tryz.underlying286
 a46 := Tryz.isAgg286
 z46 := Tryz.sizeOf286
 v46 := Tryz.zeroValue286
 t50 := Tryz.underlying104
 a50 := Tryz.isAgg104
 z50 := Tryz.sizeOf104
 v50 := Tryz.zeroValue104
 t53 := Tryz.underlying32
 a53 := Tryz.isAgg32
 z53 := Tryz.sizeOf32
 v53 := Tryz.zeroValue32
 t55 := Tryz.underlying42
 a55 := Tryz.isAgg42
 z55 := Tryz.sizeOf42
 v55 := Tryz.zeroValue42
 t66 := Tryz.underlying316
 a66 := Tryz.isAgg316
 z66 := Tryz.sizeOf316
 v66 := Tryz.zeroValue316
 t70 := Tryz.underlying319
 a70 := Tryz.isAgg319
 z70 := Tryz.sizeOf319
 v70 := Tryz.zeroValue319
 t76 := Tryz.underlying329
 a76 := Tryz.isAgg329
 z76 := Tryz.sizeOf329
 v76 := Tryz.zeroValue329
 t77 := Tryz.underlying330
 a77 := Tryz.isAgg330
 z77 := Tryz.sizeOf330
 v77 := Tryz.zeroValue330 }
end Go.Proofs
namespace Go.Proofs.YtldidldbhngmnaaGreatDoor.Ir
open Go Go.Proofs Go.Proofs.YtldidldbhngmnaaGreatDoor Go.RowKit Go.Shelf Go.Sort
noncomputable def sortH (l : List HB) : List HB := l.mergeSort fun x y => !(ltOf dcf) y x
theorem sort_calls (blk off cap : Nat) (d : Array HB) (w : World) (hH : HoldsK HB.enc 32 w blk off d) (hblk : blk < w.heap.size) (hsz : d.size < 1000000) :
  Calls Tryz.prog 173 #[.slice (some ⟨blk,off,none⟩) d.size cap,.func (.func 133) #[] #[]] w fun e w' =>
   e = .returned (.tuple #[]) ∧ ∃ n os,w' = sortWorldK HB.enc 32 w blk off n (sortH d.toList).toArray os := by
 have eg : ∀ args w,(callFunc 133 args).run Tryz.prog w = .ok (.enter 133 args) w := enters_of Tryz.func133 (by kernel_rfl) rfl
 have h := AnyQ.slices_SortFunc_total Tryz.sortH 32 tE_agg tE_size HB.enc (fun x => by simp [HB.enc,x.len]) (fun x v hv => by
  simp only [HB.enc,List.mem_map] at hv
  obtain ⟨n,_,rfl⟩ := hv
  rfl) dcf dcf_swo 133 #[] blk off cap d w eg (dcmp_lays blk off d.size w) hH hblk (by omega) (fun x y => dcf_total x y)
 exact h
end Go.Proofs.YtldidldbhngmnaaGreatDoor.Ir
namespace Go.Proofs.YtldidldbhngmnaaGreatDoor.Ir
open Go Go.Proofs Go.Proofs.YtldidldbhngmnaaGreatDoor Go.RowKit Go.Shelf Go.Sort
theorem perm_map_inv {α β : Type} (f : α → β) {l l' : List β} (h : l.Perm l') : ∀ m : List α,l = m.map f → ∃ k : List α,l' = k.map f ∧ m.Perm k := by
 induction h with
 | nil => intro m hm; exact ⟨m,hm,.refl _⟩
 | cons x _ ih =>
  intro m hm
  cases m with
  | nil => cases hm
  | cons y m =>
   simp only [List.map_cons,List.cons.injEq] at hm
   obtain ⟨k,h1,h2⟩ := ih m hm.2
   exact ⟨y :: k,by rw [h1,hm.1]; rfl,h2.cons y⟩
 | swap x y l =>
  intro m hm
  match m,hm with
  | a :: b :: m,hm =>
   simp only [List.map_cons,List.cons.injEq] at hm
   exact ⟨b :: a :: m,by rw [hm.1,hm.2.1,hm.2.2]; rfl,List.Perm.swap _ _ _⟩
 | trans _ _ ih1 ih2 =>
  intro m hm
  obtain ⟨k,h1,h2⟩ := ih1 m hm
  obtain ⟨k',h3,h4⟩ := ih2 k h1
  exact ⟨k',h3,h2.trans h4⟩
theorem sortH_perm {l m : List HB} (h : l.Perm m) : sortH l = sortH m := by
 unfold sortH
 refine List.Perm.eq_of_pairwise (le := fun x y => (!(ltOf dcf) y x) = true) ?_ ?_ ?_ ((List.mergeSort_perm _ _).trans (h.trans (List.mergeSort_perm _ _).symm))
 ·intro a b _ _ h1 h2
  exact dcf_total a b (by simpa using h2) (by simpa using h1)
 ·exact List.pairwise_mergeSort (fun a b c h1 h2 => by rw [dcf_lt] at *; simp at *; omega) (fun a b => by rw [dcf_lt,dcf_lt]; simp; omega) _
 ·exact List.pairwise_mergeSort (fun a b c h1 h2 => by rw [dcf_lt] at *; simp at *; omega) (fun a b => by rw [dcf_lt,dcf_lt]; simp; omega) _
def HB.row (x : HB) : Row 32 := ⟨x.enc.toArray,by simp [HB.enc,x.len],fun u hu => by
 simp only [HB.enc,List.mem_map] at hu
 obtain ⟨n,_,rfl⟩ := hu
 rfl⟩
theorem row_all (l : List HB) : Row.all (l.map HB.row) = l.flatMap HB.enc := by
 induction l with
 | nil => rfl
 | cons x l ih =>
  have : Row.all ((x :: l).map HB.row) = x.enc ++ Row.all (l.map HB.row) := by simp [Row.all,HB.row]
  rw [this,ih]
  rfl
end Go.Proofs.YtldidldbhngmnaaGreatDoor.Ir
namespace Go.Proofs.YtldidldbhngmnaaGreatDoor.Ir
open Go Go.Proofs Go.Proofs.YtldidldbhngmnaaGreatDoor Go.RowKit Go.Shelf Go.Sort
theorem flat_get {α : Type} (enc : α → List Value) {k : Nat} (hk : ∀ x,(enc x).length = k) (h0 : 0 < k) : ∀ (l : List α) (t : Nat),t < l.length * k → ∃ x,l[t / k]? = some x ∧ (l.flatMap enc)[t]? = (enc x)[t % k]?
 | [],t,h => by simp at h
 | x :: l,t,h => by
  rw [List.flatMap_cons]
  by_cases ht : t < k
  ·refine ⟨x,by rw [Nat.div_eq_of_lt ht]; rfl,?_⟩
   rw [List.getElem?_append_left (by rw [hk]; exact ht),Nat.mod_eq_of_lt ht]
  ·have h' : t - k < l.length * k := by
    rw [List.length_cons,Nat.succ_mul] at h; omega
   obtain ⟨y,h1,h2⟩ := flat_get enc hk h0 l (t - k) h'
   have e1 : t / k = (t - k) / k + 1 := by
    have : t = (t - k) + k := by omega
    rw [this,Nat.add_div_right _ h0]
    simp
   have e2 : t % k = (t - k) % k := by
    have : t = (t - k) + k := by omega
    rw [this,Nat.add_mod_right]
    simp
   refine ⟨y,by rw [e1]; simpa using h1,?_⟩
   rw [List.getElem?_append_right (by rw [hk]; omega),hk,h2,e2]
theorem flat_len {α : Type} (enc : α → List Value) {k : Nat} (hk : ∀ x,(enc x).length = k) (l : List α) : (l.flatMap enc).length = l.length * k := by
 induction l with
 | nil => simp
 | cons x l ih => rw [List.flatMap_cons,List.length_append,hk,ih,List.length_cons,Nat.succ_mul]; omega
theorem flatK_list {α : Type} [Inhabited α] (enc : α → List Value) {k : Nat} (hk : ∀ x,(enc x).length = k) (h0 : 0 < k) (d : Array α) : (flatK enc k d).toList = d.toList.flatMap enc := by
 apply List.ext_getElem?
 intro t
 by_cases ht : t < d.size * k
 ·obtain ⟨x,h1,h2⟩ := flat_get enc hk h0 d.toList t (by simpa using ht)
  have hd : d[t / k]! = x := by
   obtain ⟨hlt,hx⟩ := List.getElem?_eq_some_iff.1 h1
   have hlt' : t / k < d.size := by simpa using hlt
   rw [getElem!_pos d (t / k) hlt']
   simpa using hx
  have hm : t % k < (enc x).length := by rw [hk]; exact Nat.mod_lt _ h0
  rw [h2,List.getElem?_eq_getElem hm]
  have hs : t < (flatK enc k d).size := by simpa using ht
  have := get_flatK enc k d t ht
  rw [getElem!_pos (flatK enc k d) t hs,hd,getElem!_pos (enc x) (t % k) hm] at this
  rw [Array.getElem?_toList,Array.getElem?_eq_getElem hs,this]
 ·rw [List.getElem?_eq_none (by simp; omega),List.getElem?_eq_none (by rw [flat_len enc hk]; simp; omega)]
theorem sortW_other {α : Type} [Inhabited α] (enc : α → List Value) (k : Nat) (w : World) (blk off m : Nat) (dk : Array α) (os : Array Obj) {r : Nat} (hr : r < w.heap.size) (hne : r ≠ blk) : (sortWorldK enc k w blk off m dk os).heap[r]? = w.heap[r]? := by
 show ((w.heap.modify blk _) ++ os)[r]? = _
 rw [Array.getElem?_append_left (by simpa using hr),Array.getElem?_modify,if_neg (fun e => hne e.symm)]
theorem sortW_row {α : Type} [Inhabited α] (enc : α → List Value) (k : Nat) (w : World) (blk off m : Nat) (dk : Array α) (os : Array Obj) {c : Array Value} {e : TypeId} {fr : Nat × Nat} (h : w.heap[blk]? = some (.cells c e fr)) :
  (sortWorldK enc k w blk off m dk os).heap[blk]? = some (.cells (putCells id off (flatK enc k dk) c) e fr) := by
 have hr : blk < w.heap.size := (Array.getElem?_eq_some_iff.1 h).1
 show ((w.heap.modify blk _) ++ os)[blk]? = _
 rw [Array.getElem?_append_left (by simpa using hr),Array.getElem?_modify,if_pos rfl,h]
 rfl
end Go.Proofs.YtldidldbhngmnaaGreatDoor.Ir
namespace Go.Proofs.YtldidldbhngmnaaGreatDoor
open Go Go.RowKit Go.Maps Go.Shelf
set_option maxRecDepth 100000 in
set_option maxHeartbeats 2000000 in
theorem keys_gives (b ck : Nat) (a : Addr) (es : Array MapEntry) (row : MapEntry → Row 32) (w : World) (hm : w.cell? a = some (.map (some b))) (ha : a.block < w.heap.size) (hb : w.heap[b]? = some (.map es ck))
  (hold : ∀ x ∈ es.toList,x.born < ck) (hn : (es.toList.map (·.born)).Nodup) (hrow : ∀ x ∈ es.toList,x.key = (row x).enc) :
  SeqGives Fence.wide 5 Tryz.prog 172 #[.pointer (some a)] (Row.enc (k := 32)) (fun ss => ss.Perm (es.toList.map row)) es.size w := by
 intro l J W hW hJ hY h0
 have hbl : b < w.heap.size := (Array.getElem?_eq_some_iff.1 hb).1
 have hmW : W.cell? a = some (.map (some b)) := (hW.cell (p := a) ha).trans hm
 have hbW : W.heap[b]? = some (.map es ck) := (hW.block b hbl).trans hb
 have hbW' : b < W.heap.size := Nat.lt_of_lt_of_le hbl hW.size
 refine callsIn_of_wp Tryz.func172 rfl trivial ?_ rfl
 simp only [Tryz.ntmps172,List.size_toArray,List.length_cons,List.length_nil,Nat.reduceAdd,Nat.reduceSub,Array.replicate_succ,Array.replicate_zero,List.push_toArray,List.append_toArray,List.nil_append,List.cons_append]
 have hrg := run_range_map (P := Tryz.prog) W 135 34 4 b es ck Tryz.underlying135 hbW
 gi_wp2
 obtain ⟨W0,hW0⟩ : ∃ W0,W.alloc (.mapIter (some b) ck #[] ck) = W0 := ⟨_,rfl⟩
 have hr0 : W0.heap[W.heap.size]? = some (.mapIter (some b) ck #[] ck) := by rw [← hW0]; exact World.alloc_heap_new W _
 have hb0 : W0.heap[b]? = some (.map es ck) := by rw [← hW0]; exact (Below.heap_alloc W _ b hbW').trans hbW
 have hJ0 : J [] W0 := by rw [← hW0]; exact hJ [] W _ none h0 (World.grownBy_alloc W _ none) (fun r e => by cases e)
 rw [hW0]
 clear hrg
 refine wpIn_loop_rounds (es.size + 1) ?_
 refine rounds_ind (fun k a' w' => ∃ (x3 x4 x6 x7 x8 x9 x10 x11 x12 x13 : Value) (seen : Array Nat) (c0 : Nat) (ss : List (Row 32)),
   a' = { tmps := #[.func (.yield l) #[] #[],.pointer (some a),undef,x3,x4,.pointer (some ⟨W.heap.size,0,none⟩),x6,x7,x8,x9,x10,x11,x12,x13],defers := [] } ∧
   w'.heap[W.heap.size]? = some (.mapIter (some b) ck seen c0) ∧ ck ≤ c0 ∧ w'.heap[b]? = some (.map es ck) ∧ (leftOf es seen).size = k ∧ J ss w' ∧ (ss ++ (leftOf es seen).toList.map row).Perm (es.toList.map row)) ?_ es.size _ _ ?_
 ·rintro k a' w' ⟨x3,x4,x6,x7,x8,x9,x10,x11,x12,x13,seen,c0,ss,rfl,h1,h2,h3,h4,h5,h6⟩
  have hlen : ss.length + k = es.size := by
   have := h6.length_eq
   simpa [h4] using this
  rcases keys_next (P := Tryz.prog) h1 h3 hold h2 0 with ⟨e0,hx⟩ | ⟨e,he,w1,hx,hg1,hi1⟩
  ·gi_wp2
   go_end0
   have e1 : (leftOf es seen).toList = [] := by
    have : (leftOf es seen).toList.length = 0 := by simpa using e0
    exact List.eq_nil_of_length_eq_zero this
   rw [e1] at h6
   exact ⟨⟨_,rfl⟩,ss,by simpa using h6,h5⟩
  ·have hr1 : ∀ r,some W.heap.size = some r → W.heap.size ≤ r ∧ ∃ o : Obj,w'.heap[r]? = some o ∧ o.isWalk = true := fun r e => by cases e; exact ⟨Nat.le_refl _,_,h1,rfl⟩
   have hJ1 := hJ ss w' w1 _ h5 hg1 hr1
   have hb1 : w1.heap[b]? = some (.map es ck) := (hg1.block b (Array.getElem?_eq_some_iff.1 h3).1 (fun e => by cases e; omega)).trans h3
   have hes := left_sub he
   have hen := run_entry_at (P := Tryz.prog) w1 W.heap.size b ck seen es ck e hi1 hb1 hes hn
   rw [hrow e hes] at hen hx
   have hp := left_perm es hn seen e he
   have hk1 : (leftOf es (seen.push e.born)).size + 1 = k := by
    have := hp.length_eq
    simp only [List.length_cons,Array.length_toList] at this
    omega
   generalize hxr : row e = x at hen hx
   have hal := tE_alloc w1
   have hst := tE_store w1 x
   have hld := tE_load w1 x
   obtain ⟨W2,hW2⟩ : ∃ W2,w1.alloc (.cells x.c 34) = W2 := ⟨_,rfl⟩
   rw [hW2] at hst hld
   have hi2 : W2.heap[W.heap.size]? = some (.mapIter (some b) ck (seen.push e.born) ck) := by rw [← hW2]; exact (Below.heap_alloc _ _ _ (Array.getElem?_eq_some_iff.1 hi1).1).trans hi1
   have hb2 : W2.heap[b]? = some (.map es ck) := by rw [← hW2]; exact (Below.heap_alloc _ _ _ (Array.getElem?_eq_some_iff.1 hb1).1).trans hb1
   have hJ2 : J ss W2 := by rw [← hW2]; exact hJ ss w1 _ none hJ1 (World.grownBy_alloc w1 _ none) (fun r e => by cases e)
   obtain ⟨fn,tmps,assign,body,hy,hR⟩ := hY ss x W2 hJ2 (by omega)
   clear hW2
   gi_wp2_with (first
    | (refine in_alloc (fun _ => trivial) hal ?_)
    | (refine in_store (fun _ => trivial) hst ?_)
    | (refine in_load (fun _ => trivial) hld ?_)
    | gi_in)
   refine hR.mono ?_
   rintro e' W3 ⟨rfl,hJ3,hk3⟩
   gi_wp2
   refine ⟨_,hk1.symm,_,_,_,_,_,_,_,_,_,_,seen.push e.born,ck,ss ++ [x],rfl,hk3.same _ _ hi2 rfl,Nat.le_refl _,hk3.same _ _ hb2 rfl,rfl,hJ3,?_⟩
   ·rw [List.append_assoc]
    refine List.Perm.trans ?_ h6
    refine List.Perm.append_left ss ?_
    have := (hp.map row).symm
    rw [List.map_cons,hxr] at this
    exact this
 ·refine ⟨_,_,_,_,_,_,_,_,_,_,#[],ck,[],rfl,hr0,Nat.le_refl _,hb0,?_,hJ0,?_⟩
  ·simp [leftOf]
  ·have : leftOf es #[] = es := by unfold leftOf; rw [Array.filter_eq_self]; intro x _; simp
   rw [this]; exact List.Perm.refl _
end Go.Proofs.YtldidldbhngmnaaGreatDoor
namespace Go.Proofs.YtldidldbhngmnaaGreatDoor.Ir
open Go Go.Proofs Go.Proofs.YtldidldbhngmnaaGreatDoor Go.RowKit Go.Shelf Go.Sort
theorem holds_row {w : World} {g cap n : Nat} {cur : Array Value} {hs : List HB} (hgb : w.heap[g]? = some (.cells cur 34 (0,0))) (hcs : cur.size = cap * 32) (hn : hs.length ≤ cap) (htk : cur.toList.take (hs.length * 32) = hs.flatMap HB.enc) : HoldsK HB.enc 32 w g 0 hs.toArray := by
 have hk : ∀ x : HB,x.enc.length = 32 := fun x => by simp [HB.enc,x.len]
 intro j hj
 have hj' : j < hs.length * 32 := by simpa using hj
 have hl := flatK_list HB.enc hk (by decide) hs.toArray
 refine ⟨?_,by simp [World.frozen?,hgb]⟩
 rw [cell?_blk hgb,Nat.zero_add,getElem!_pos (flatK HB.enc 32 hs.toArray) j hj]
 have h1 : (flatK HB.enc 32 hs.toArray).toList[j]? = cur.toList[j]? := by
  rw [hl,← htk,List.getElem?_take,if_pos hj']
 rw [Array.getElem?_toList,Array.getElem?_toList,Array.getElem?_eq_getElem hj] at h1
 rw [← h1]
 rfl
theorem put_take {cur : Array Value} {ts : List HB} (h : ts.length * 32 ≤ cur.size) : (putCells id 0 (flatK HB.enc 32 ts.toArray) cur).toList.take (ts.length * 32) = ts.flatMap HB.enc := by
 have hk : ∀ x : HB,x.enc.length = 32 := fun x => by simp [HB.enc,x.len]
 have hl := flatK_list HB.enc hk (by decide) ts.toArray
 rw [← show (ts.toArray).toList = ts from rfl,← hl]
 apply List.ext_getElem?
 intro j
 by_cases hj : j < ts.length * 32
 ·rw [List.getElem?_take_of_lt (by simpa using hj),Array.getElem?_toList,Array.getElem?_toList]
  have hjs : j < (flatK HB.enc 32 ts.toArray).size := by simpa using hj
  rw [Array.getElem?_eq_getElem hjs]
  simp [putCells,hj,show j < cur.size by omega]
 ·rw [List.getElem?_take_eq_none (by simpa using hj),List.getElem?_eq_none (by simp; omega)]
set_option maxRecDepth 100000 in
set_option maxHeartbeats 2000000 in
theorem sorted_keys (b ck : Nat) (a : Addr) (es : Array MapEntry) (hb : MapEntry → HB) (w : World) (hm : w.cell? a = some (.map (some b))) (ha : a.block < w.heap.size) (hbk : w.heap[b]? = some (.map es ck))
  (hold : ∀ x ∈ es.toList,x.born < ck) (hn : (es.toList.map (·.born)).Nodup) (hrow : ∀ x ∈ es.toList,x.key = (hb x).row.enc) (h0 : 0 < es.size) (hsz : es.size < 900000) :
  Calls Tryz.prog 132 #[.func (.func 172) #[] #[.pointer (some a)],.func (.func 133) #[] #[]] w fun e w' =>
   ∃ v,e = .returned v ∧ Below w.heap.size w w' ∧ w'.ownsRow w.heap.size 34 32 v es.size ((sortH (es.toList.map hb)).flatMap HB.enc) := by
 have h1 := collect_seq 172 #[.pointer (some a)] (enters_of Tryz.func172 (by kernel_rfl) rfl) _ es.size (by simp [maxLen]; omega) (by omega) w (gives_of (keys_gives b ck a es (fun x => (hb x).row) w hm ha hbk hold hn hrow))
 have key : ∀ w1 : World,Below w.heap.size w w1 → ∀ (g cap : Nat) (cur : Array Value) (hs : List HB),hs.Perm (es.toList.map hb) → w.heap.size ≤ g → w1.heap[g]? = some (.cells cur 34 (0,0)) → hs.length ≤ cap → cap ≤ maxLen → cur.size = cap * 32 → cur.toList.take (hs.length * 32) = hs.flatMap HB.enc →
   Calls Tryz.prog 173 #[.slice (some ⟨g,0,none⟩) hs.length cap,.func (.func 133) #[] #[]] w1 fun e w' => e = .returned (.tuple #[]) ∧ Below w.heap.size w w' ∧ w'.ownsRow w.heap.size 34 32 (.slice (some ⟨g,0,none⟩) hs.length cap) es.size ((sortH (es.toList.map hb)).flatMap HB.enc) := by
  intro w1 hb1 g cap cur hs hp hg hgb hc1 hc2 hcs htk
  have hle : hs.length = es.size := by have := hp.length_eq; simpa using this
  have hgl : g < w1.heap.size := (Array.getElem?_eq_some_iff.1 hgb).1
  have h := sort_calls g 0 cap hs.toArray w1 (holds_row (n := 0) hgb hcs hc1 htk) hgl (by simp; omega)
  refine h.mono ?_
  rintro e w' ⟨rfl,n,os,rfl⟩
  have hsl : (sortH (es.toList.map hb)).length = es.size := by simp [sortH]
  have e1 : sortH (hs.toArray).toList = sortH (es.toList.map hb) := sortH_perm hp
  rw [e1]
  refine ⟨rfl,⟨hb1.os,hb1.tape,hb1.output,Nat.le_trans hb1.size (size_sortWorldK_c _ _ _ _ _ _ _ _),fun r hr => (sortW_other _ _ _ _ _ _ _ _ (Nat.lt_of_lt_of_le hr hb1.size) (by omega)).trans (hb1.block r hr)⟩,?_⟩
  refine ⟨by rw [flat_len HB.enc (k := 32) (fun x => by simp [HB.enc,x.len]),hsl],.inr ⟨g,cap,_,by rw [hle],hg,sortW_row _ _ _ _ _ _ _ _ hgb,by omega,hc2,by simp [putCells,hcs],?_⟩⟩
  rw [← hsl]
  exact put_take (by rw [hsl,hcs]; exact Nat.mul_le_mul_right _ (by omega))
 clear hm hbk hold hn hrow
 go_enter Tryz.func132,Tryz.ntmps132
 go_wp2_with (go_at_call 174; refine h1.mono ?_; rintro e w1 ⟨v,ss,rfl,hS,hrow,hnil,hb1⟩; clear h1)
 obtain ⟨hs,rfl,hp⟩ := perm_map_inv HB.row hS.symm (es.toList.map hb) (by rw [List.map_map]; rfl)
 have hle := hp.length_eq
 simp only [List.length_map,Array.length_toList] at hle
 rw [List.length_map,row_all] at hrow
 rcases hrow.2 with ⟨_,hz⟩ | ⟨g,cap,cur,rfl,hg,hgb,hc1,hc2,hcs,htk⟩
 ·omega
 have h2 := key w1 hb1 g cap cur hs hp.symm hg hgb hc1 hc2 hcs htk
 clear key hrow hS hnil hgb htk hcs
 go_wp2_with (go_at_call 173; refine h2.mono ?_; rintro e w2 ⟨rfl,hb2,hrow2⟩)
 go_ret
 exact ⟨_,rfl,hb2,hrow2⟩
end Go.Proofs.YtldidldbhngmnaaGreatDoor.Ir
namespace Go.Proofs.YtldidldbhngmnaaGreatDoor.Ir
open Go Go.Proofs Go.Proofs.YtldidldbhngmnaaGreatDoor Go.RowKit Go.Shelf Go.Sort
noncomputable def insN (x : List Nat) (l : List (List Nat)) : List (List Nat) := List.rec (motive := fun _ => List (List Nat)) [x] (fun y l ih => match cmpN x y with | .negSucc _ => x :: y :: l | .ofNat _ => y :: ih) l
noncomputable def isoN (l : List (List Nat)) : List (List Nat) := List.rec (motive := fun _ => List (List Nat)) [] (fun x _ ih => insN x ih) l
theorem insN_cons (x y : List Nat) (l : List (List Nat)) : insN x (y :: l) = if cmpN x y < 0 then x :: y :: l else y :: insN x l := by
 show (match cmpN x y with | .negSucc _ => x :: y :: l | .ofNat _ => y :: insN x l) = _
 cases h : cmpN x y with
 | ofNat n => rw [if_neg (by simp)]
 | negSucc n => rw [if_pos (Int.negSucc_lt_zero n)]
noncomputable def insH (x : HB) (l : List HB) : List HB := List.rec (motive := fun _ => List HB) [x] (fun y l ih => if ltOf dcf x y then x :: y :: l else y :: ih) l
noncomputable def isoH (l : List HB) : List HB := List.rec (motive := fun _ => List HB) [] (fun x _ ih => insH x ih) l
theorem insH_cons (x y : HB) (l : List HB) : insH x (y :: l) = if ltOf dcf x y then x :: y :: l else y :: insH x l := rfl
theorem insN_H (x : HB) : ∀ l : List HB,insN x.l (l.map (·.l)) = (insH x l).map (·.l)
 | [] => rfl
 | y :: l => by
  rw [List.map_cons,insN_cons,insH_cons,insN_H x l]
  have : (ltOf dcf x y = true) ↔ cmpN x.l y.l < 0 := by unfold ltOf dcf; simp
  by_cases h : cmpN x.l y.l < 0
  ·rw [if_pos h,if_pos (this.2 h)]; rfl
  ·rw [if_neg h,if_neg (fun c => h (this.1 c))]; rfl
theorem isoN_H : ∀ l : List HB,isoN (l.map (·.l)) = (isoH l).map (·.l)
 | [] => rfl
 | x :: l => by
  show insN x.l (isoN (l.map (·.l))) = (insH x (isoH l)).map (·.l)
  rw [isoN_H l,insN_H]
theorem insH_perm (x : HB) : ∀ l,(insH x l).Perm (x :: l)
 | [] => .refl _
 | y :: l => by
  rw [insH_cons]
  split
  ·exact .refl _
  ·exact ((insH_perm x l).cons y).trans (.swap _ _ _)
theorem isoH_perm : ∀ l,(isoH l).Perm l
 | [] => .refl _
 | x :: l => (insH_perm x (isoH l)).trans ((isoH_perm l).cons x)
theorem insH_sorted (x : HB) : ∀ l : List HB,l.Pairwise (fun a b => (ltOf dcf) b a = false) → (insH x l).Pairwise (fun a b => (ltOf dcf) b a = false)
 | [],_ => by show [x].Pairwise _; simp
 | y :: l,h => by
  rw [insH_cons]
  rw [List.pairwise_cons] at h
  split
  ·rename_i hlt
   rw [List.pairwise_cons]
   refine ⟨fun z hz => ?_,List.pairwise_cons.2 h⟩
   rw [dcf_lt] at hlt
   rcases List.mem_cons.1 hz with rfl | hz
   ·rw [dcf_lt]; simp at hlt ⊢; omega
   ·have := h.1 z hz
    rw [dcf_lt] at this ⊢; simp at hlt this ⊢; omega
  ·rename_i hlt
   rw [List.pairwise_cons]
   refine ⟨fun z hz => ?_,insH_sorted x l h.2⟩
   rcases List.mem_cons.1 ((insH_perm x l).mem_iff.1 hz) with rfl | hz
   ·simpa using hlt
   ·exact h.1 z hz
theorem isoH_sorted : ∀ l : List HB,(isoH l).Pairwise (fun a b => (ltOf dcf) b a = false)
 | [] => List.Pairwise.nil
 | x :: l => insH_sorted x _ (isoH_sorted l)
theorem isoH_eq (l : List HB) : isoH l = sortH l := by
 refine List.Perm.eq_of_pairwise (le := fun x y => (ltOf dcf) y x = false) ?_ (isoH_sorted l) ?_ ((isoH_perm l).trans (List.mergeSort_perm _ _).symm)
 ·intro a b _ _ h1 h2
  exact dcf_total a b h2 h1
 ·have := List.pairwise_mergeSort (le := fun x y : HB => !(ltOf dcf) y x) (fun a b c h1 h2 => by rw [dcf_lt] at *; simp at *; omega) (fun a b => by rw [dcf_lt,dcf_lt]; simp; omega) l
  exact this.imp (fun h => by simpa using h)
theorem isoN_eq (l : List HB) : isoN (l.map (·.l)) = (sortH l).map (·.l) := by rw [isoN_H,isoH_eq]
end Go.Proofs.YtldidldbhngmnaaGreatDoor.Ir
namespace Go.Proofs.YtldidldbhngmnaaGreatDoor
open Go Go.RowKit
theorem Rep.meet {ι : Nm} {σ : St} {w w' : World} (R : Rep ι σ w) (hb : Below w.heap.size w w') {g : Nat} {c : Array Value} {e : TypeId} (hg : w.heap.size ≤ g) (hc : w'.heap[g]? = some (.cells c e)) {l : List V}
  (hl : VRs ι l (c.toList.take l.length)) (hle : l.length ≤ c.size) :
  Rep (nmSet ι σ.nx ⟨g,0,c.size,0⟩) ⟨T.set (.cells l [] false false) σ.nx σ.h,σ.nx.succ⟩ w' ∧ G σ.nx.nat ι σ w (nmSet ι σ.nx ⟨g,0,c.size,0⟩) ⟨T.set (.cells l [] false false) σ.nx σ.h,σ.nx.succ⟩ w' := by
 obtain ⟨hp,hh⟩ := R.fresh
 have hn := Pos.succ_nat σ.nx
 have hx : Ext ι (nmSet ι σ.nx ⟨g,0,c.size,0⟩) := nmSet_ext hp
 have hold := hb.block
 have hne : ∀ q o,T.get q σ.h = some o → q ≠ σ.nx := fun q o hq e => by rw [e,hh] at hq; cases hq
 have hι : ∀ q,q ≠ σ.nx → nmSet ι σ.nx ⟨g,0,c.size,0⟩ q = ι q := fun q hq => by simp [nmSet,hq]
 have hlt : ∀ q pl,ι q = some pl → pl.blk < w.heap.size := fun q pl hq => (R.pl q pl hq).lt
 constructor
 ·constructor
  ·intro q o hq
   rw [T.get_set] at hq
   split at hq
   ·rename_i e1; subst e1; cases hq
    refine ⟨_,c,e,nmSet_self _ _ _,rfl,hc,rfl,by simpa using hle,fun i x y hx' hy => ?_⟩
    have hlt' : i < l.length := (List.getElem?_eq_some_iff.1 hx').1
    refine (hl.2 i x y hx' ?_).mono hx
    rw [List.getElem?_take,if_pos hlt']
    simpa using hy
   ·exact (R.ob q o hq).keep hx fun pl h3 _ => hold _ (hlt q pl h3)
  ·intro q pl hq
   by_cases e1 : q = σ.nx
   ·subst e1; rw [nmSet_self] at hq; cases hq
    exact ⟨fun _ => ⟨c,e,hc,rfl⟩,(fun h => by cases h),(fun h => by cases h),(fun h => by cases h),Nat.zero_le _⟩
   ·rw [hι q e1] at hq
    exact (R.pl q pl hq).heap fun r hr o k => (hold r hr).trans k
  ·intro q pl hq
   by_cases e1 : q = σ.nx
   ·subst e1; show _ < σ.nx.succ.nat; omega
   ·rw [hι q e1] at hq
    have := R.dom q pl hq
    show _ < σ.nx.succ.nat; omega
  ·intro q o hq
   rw [T.get_set] at hq
   split at hq
   ·rename_i e1; subst e1; show _ < σ.nx.succ.nat; omega
   ·have := R.hdom q o hq
    show _ < σ.nx.succ.nat; omega
  ·intro q o q' o' a b hq hw hq' hl ha hb hab hqq
   by_cases e1 : q = σ.nx
   ·subst e1
    rw [nmSet_self] at ha; cases ha
    rw [hι q' hqq] at hb
    have := hlt q' b hb
    simp only at hab
    omega
   ·rw [hι q e1] at ha
    by_cases e' : q' = σ.nx
    ·subst e'
     rw [nmSet_self] at hb; cases hb
     have := hlt q a ha
     simp only at hab
     omega
    ·rw [hι q' e'] at hb
     rw [T.get_set,if_neg e1] at hq
     rw [T.get_set,if_neg e'] at hq'
     exact R.sep2 q o q' o' a b hq hw hq' hl ha hb hab hqq
  ·intro q o q' o' hq hk' hq'
   rw [T.get_set] at hq
   split at hq
   ·cases hq; cases hk'
   ·rw [T.get_set] at hq'
    split at hq'
    ·rename_i e2 e1; subst e1
     obtain ⟨o2,h3⟩ := R.kpres q o _ hq hk'
     rw [hh] at h3; cases h3
    ·exact R.kin q o q' o' hq hk' hq'
  ·intro q o q' hq hk'
   rw [T.get_set] at hq
   split at hq
   ·cases hq; cases hk'
   ·obtain ⟨o2,h3⟩ := R.kpres q o q' hq hk'
    exact ⟨o2,by rw [T.get_set,if_neg (hne q' o2 h3)]; exact h3⟩
  ·intro q o q' o' a b hq hw hk' hq' hl ha hb hab
   rw [T.get_set] at hq
   split at hq
   ·cases hq; cases hk'
   ·rename_i e1
    rw [hι q e1] at ha
    rw [T.get_set] at hq'
    split at hq'
    ·rename_i e'; subst e'
     rw [nmSet_self] at hb; cases hb
     have := hlt q a ha
     simp only at hab
     omega
    ·rename_i e'
     rw [hι q' e'] at hb
     exact R.fin q o q' o' a b hq hw hk' hq' hl ha hb hab
 ·refine ⟨hx,fun q hq => hι q (fun e1 => by subst e1; omega),by show _ ≤ σ.nx.succ.nat; omega,hb.size,hb.os,hb.tape,hb.output,fun r hr _ => hold r hr,?_,fun q pl h3 h4 h5 => by
   by_cases e1 : q = σ.nx
   ·subst e1; rw [nmSet_self] at h3; cases h3; simp only at h5; omega
   ·rw [hι q e1,h4] at h3; cases h3⟩
  rintro r hr ⟨q,o,pl,hq,hw,hpl',rfl⟩
  by_cases e1 : q = σ.nx
  ·subst e1; rw [nmSet_self] at hpl'; cases hpl'; simp only at hr; omega
  ·rw [T.get_set,if_neg e1] at hq
   rw [hι q e1] at hpl'
   exact ⟨q,o,pl,hq,hw,hpl',rfl⟩
end Go.Proofs.YtldidldbhngmnaaGreatDoor
namespace Go.Proofs.YtldidldbhngmnaaGreatDoor.Ir
set_option maxRecDepth 100000
open Go Go.Proofs Go.Proofs.YtldidldbhngmnaaGreatDoor Go.RowKit Go.Shelf Go.Sort
def vB (n : Nat) : V := .int .u8 (.ofNat n)
noncomputable def unU (l : List V) : Option (List Nat) := List.rec (motive := fun _ => Option (List Nat)) (some []) (fun v _ ih => match v with
 | .int k n => (match k,n with | .u8,.ofNat n => (match Nat.blt n 256 with | true => (match ih with | some r => some (n :: r) | none => none) | false => none) | _,_ => none)
 | _ => none) l
theorem unU_eq : ∀ (l : List V) (r : List Nat),unU l = some r → l = r.map vB ∧ ∀ x ∈ r,x < 256
 | [],r,h => by
  cases (show some [] = some r from h)
  exact ⟨rfl,by simp⟩
 | v :: l,r,h => by
  have h : (match (generalizing := false) v with
   | .int k n => (match (generalizing := false) k,n with | .u8,.ofNat n => (match Nat.blt n 256 with | true => (match unU l with | some r => some (n :: r) | none => none) | false => none) | _,_ => none)
   | _ => none) = some r := h
  split at h
  ·split at h
   ·split at h
    ·rename_i n hb
     split at h
     ·rename_i r' hr
      cases h
      obtain ⟨h1,h2⟩ := unU_eq l r' hr
      rw [blt_eq] at hb
      refine ⟨by rw [h1]; rfl,fun x hx => ?_⟩
      rcases List.mem_cons.1 hx with rfl | hx
      ·simpa using hb
      ·exact h2 x hx
     ·cases h
    ·cases h
   ·cases h
  ·cases h
noncomputable def unK (es : List ME) : Option (List (List Nat)) := List.rec (motive := fun _ => Option (List (List Nat))) (some []) (fun e _ ih => match e.k with
 | .agg l => (match unU l with | some r => (match Nat.beq (llen r) 32 with | true => (match ih with | some rs => some (r :: rs) | none => none) | false => none) | none => none)
 | _ => none) es
theorem unK_eq : ∀ (es : List ME) (rs : List (List Nat)),unK es = some rs → ∃ hs : List HB,rs = hs.map (·.l) ∧ es.map (·.k) = hs.map (fun x => V.agg (x.l.map vB))
 | [],rs,h => by
  cases (show some [] = some rs from h)
  exact ⟨[],rfl,rfl⟩
 | e :: es,rs,h => by
  have h : (match (generalizing := false) e.k with
   | .agg l => (match unU l with | some r => (match Nat.beq (llen r) 32 with | true => (match unK es with | some rs => some (r :: rs) | none => none) | false => none) | none => none)
   | _ => none) = some rs := h
  split at h
  ·rename_i l hk
   split at h
   ·rename_i r hr
    split at h
    ·rename_i hl
     split at h
     ·rename_i rs' hrs
      cases h
      obtain ⟨h1,h2⟩ := unU_eq l r hr
      obtain ⟨hs,h3,h4⟩ := unK_eq es rs' hrs
      have hl := Nat.eq_of_beq_eq_true hl
      rw [llen_eq] at hl
      refine ⟨⟨r,hl,h2⟩ :: hs,by rw [h3]; rfl,?_⟩
      rw [List.map_cons,List.map_cons,h4,hk,h1]
     ·cases h
    ·cases h
   ·cases h
  ·cases h
noncomputable def bornOk (ck : Nat) (es : List ME) : Bool := List.rec (motive := fun _ => Bool) true (fun e es ih => Nat.blt e.b ck && (lall (fun x => !(Nat.beq x.b e.b)) es && ih)) es
theorem bornOk_eq {ck : Nat} : ∀ es : List ME,bornOk ck es = true → (∀ x ∈ es,x.b < ck) ∧ (es.map (·.b)).Nodup
 | [],_ => by simp
 | e :: es,h => by
  have h : (Nat.blt e.b ck && (lall (fun x => !(Nat.beq x.b e.b)) es && bornOk ck es)) = true := h
  simp only [Bool.and_eq_true,blt_eq,lall_eq,decide_eq_true_eq] at h
  obtain ⟨h1,h2,h3⟩ := h
  obtain ⟨k1,k2⟩ := bornOk_eq es h3
  refine ⟨fun x hx => ?_,?_⟩
  ·rcases List.mem_cons.1 hx with rfl | hx
   ·exact h1
   ·exact k1 x hx
  ·rw [List.map_cons,List.nodup_cons]
   refine ⟨fun hm => ?_,k2⟩
   obtain ⟨x,hx,he⟩ := List.mem_map.1 hm
   have := List.all_eq_true.1 h2 x hx
   rw [nbeq_eq] at this
   simp [he] at this
noncomputable def cellsN (rs : List (List Nat)) : List V := List.rec (motive := fun _ => List V) [] (fun r _ ih => lapp (lmap vB r) ih) rs
theorem cellsN_eq : ∀ rs,cellsN rs = rs.flatMap (·.map vB)
 | [] => rfl
 | r :: rs => by
  show lapp (lmap vB r) (cellsN rs) = _
  rw [cellsN_eq rs,lapp_eq,lmap_eq]
  rfl
noncomputable def ssSpec (vs : List V) (σ : St) : Option (V × St) := match vs with
 | [.fn f [] [.ptr q 0],.fn f2 [] []] => (match Nat.beq f 172 && Nat.beq f2 133 with
  | true => (match T.get q σ.h with
   | some (.cells [.map p] _ _ _) => (match T.get p σ.h with
    | some (.map (e :: es) ck _) => (match bornOk ck (e :: es) && Nat.ble (llen es) 800000,unK (e :: es) with
     | true,some rs => some (.slice σ.nx 0 (llen (e :: es)) none 32,⟨T.set (.cells (cellsN (isoN rs)) [] false false) σ.nx σ.h,σ.nx.succ⟩)
     | _,_ => none)
    | _ => none)
   | _ => none)
  | false => none)
 | _ => none
theorem vrs_bytes {ι : Nm} : ∀ (l : List Nat),(∀ x ∈ l,x < 256) → VRs ι (l.map vB) (l.map fun n => Value.int .u8 (.ofNat n)) := by
 intro l hl
 refine ⟨by simp,fun i a b ha hb => ?_⟩
 rw [List.getElem?_map] at ha hb
 cases hx : l[i]? with
 | none => rw [hx] at ha; cases ha
 | some n =>
  rw [hx] at ha hb
  cases ha; cases hb
  have := hl n (List.mem_of_getElem? hx)
  exact .int _ _ (by
   have h1 : IntKind.u8.min = 0 := rfl
   have h2 : IntKind.u8.max = 255 := rfl
   constructor
   ·rw [h1]; exact Int.natCast_nonneg n
   ·rw [h2]; show (n : Int) ≤ 255; omega)
open Classical in
noncomputable def hbOf (y : MapEntry) : HB := if h : ∃ x : HB,y.key = .agg x.enc.toArray then h.choose else default
theorem hbOf_eq {y : MapEntry} {x : HB} (h : y.key = .agg x.enc.toArray) : y.key = (hbOf y).row.enc ∧ (hbOf y).enc = x.enc := by
 have hx : ∃ x : HB,y.key = .agg x.enc.toArray := ⟨x,h⟩
 unfold hbOf
 rw [dif_pos hx]
 have h2 := hx.choose_spec
 refine ⟨h2,?_⟩
 have := (Value.agg.inj (h.symm.trans h2))
 exact (List.toArray_inj this).symm
theorem enc_inj {x y : HB} (h : x.enc = y.enc) : x = y := by
 apply HB.ext
 have : ∀ l m : List Nat,l.map (fun n => Value.int .u8 (.ofNat n)) = m.map (fun n => Value.int .u8 (.ofNat n)) → l = m := by
  intro l
  induction l with
  | nil => intro m hm; cases m with | nil => rfl | cons => cases hm
  | cons a l ih => intro m hm; cases m with
   | nil => cases hm
   | cons b m =>
    simp only [List.map_cons,List.cons.injEq] at hm
    obtain ⟨h1,h2⟩ := hm
    cases h1
    rw [ih m h2]
 exact this _ _ h
theorem key_of_vr {ι : Nm} {x : HB} {v : Value} (h : VR ι (.agg (x.l.map vB)) v) : v = .agg x.enc.toArray := by
 cases h with
 | agg l c hl hh =>
  congr 1
  apply Array.ext'
  apply List.ext_getElem?
  intro i
  simp only [List.length_map] at hl
  by_cases hi : i < x.l.length
  ·have hc : i < c.size := by omega
   have := hh i (vB (x.l[i]'hi)) (c[i]'hc) (by simp [hi]) (Array.getElem?_eq_getElem hc)
   rw [Array.getElem?_toList,Array.getElem?_eq_getElem hc]
   generalize c[i]'hc = z at this
   cases this
   simp [HB.enc,hi]
  ·rw [List.getElem?_eq_none (by simp; omega),List.getElem?_eq_none (by simp [HB.enc]; omega)]
theorem ss_ok {vs : List V} {σ : St} {v : V} {σ' : St} (h : ssSpec vs σ = some (v,σ')) {ι : Nm} {w : World} {args : Array Value} (R : Rep ι σ w) (hv : VRs ι vs args.toList) : Calls Tryz.prog (p132.nat - 1) args w (Post ι σ w v σ') := by
 unfold ssSpec at h
 split at h
 ·rename_i f q f2
  split at h
  ·rename_i hf
   simp only [Bool.and_eq_true] at hf
   have hf1 := Nat.eq_of_beq_eq_true hf.1
   have hf2 := Nat.eq_of_beq_eq_true hf.2
   subst hf1; subst hf2
   split at h
   ·rename_i p kin fz ro hq
    split at h
    ·rename_i e es ck ks hp
     split at h
     ·rename_i rs hc hK
      cases h
      simp only [Bool.and_eq_true,llen_eq] at hc
      obtain ⟨hB,hlen⟩ := hc
      have hlen : es.length ≤ 800000 := Nat.le_of_ble_eq_true hlen
      obtain ⟨hb1,hb2⟩ := bornOk_eq _ hB
      obtain ⟨hs,rfl,hks⟩ := unK_eq _ _ hK
      obtain ⟨al⟩ := args
      have hl : 2 = al.length := hv.1
      match al,hl,hv with
      | [x,y],_,hv =>
       have hx := hv.head
       have hy := hv.tail.head
       obtain ⟨plq,c,e',j1,j2,j3,j4,j5,j6⟩ := R.ob q _ hq
       obtain ⟨plp,es',k1,k2,k3,k4,k5,_,_⟩ := R.ob p _ hp
       have hlt : plq.st < c.size := by
        have : plq.st + 1 ≤ c.size := j5
        omega
       have hcell := j6 0 (.map p) (c[plq.st]'hlt) rfl (by rw [Nat.add_zero]; exact Array.getElem?_eq_getElem hlt)
       have hval : c[plq.st]'hlt = .map (some plp.blk) := by
        generalize c[plq.st]'hlt = z at hcell
        cases hcell with
        | map _ pl h1 _ => rw [k1] at h1; cases h1; rfl
       have hc : w.cell? ⟨plq.blk,plq.st,none⟩ = some (.map (some plp.blk)) := by
        simp only [World.cell?,j3]
        rw [Array.getElem?_eq_getElem hlt,hval]
        simp
       have hxv : x = .func (.func 172) #[] #[.pointer (some ⟨plq.blk,plq.st,none⟩)] := by
        cases hx with
        | fn _ _ _ x' y' hx' hy' h1 h2 =>
         have e1 : x' = #[] := Array.eq_empty_of_size_eq_zero hx'.symm
         subst e1
         obtain ⟨ly⟩ := y'
         have hly : 1 = ly.length := hy'
         match ly,hly,h2 with
         | [z],_,h2 =>
          have := h2 0 (.ptr q 0) z rfl rfl
          cases this with
          | ptr _ _ pl h3 _ => rw [j1] at h3; cases h3; rfl
       have hyv : y = .func (.func 133) #[] #[] := by
        cases hy with
        | fn _ _ _ x' y' hx' hy' h1 h2 =>
         have e1 : x' = #[] := Array.eq_empty_of_size_eq_zero hx'.symm
         have e2 : y' = #[] := Array.eq_empty_of_size_eq_zero hy'.symm
         subst e1; subst e2; rfl
       subst hxv; subst hyv
       have hqlt : plq.blk < w.heap.size := (Array.getElem?_eq_some_iff.1 j3).1
       have hsl : hs.length = (e :: es).length := by have := congrArg List.length hks; simpa using this.symm
       have hkey : ∀ (i : Nat) (hh : HB) (y : MapEntry),hs[i]? = some hh → es'[i]? = some y → y.key = .agg hh.enc.toArray := by
        intro i hh y h1 h2
        have hi : i < (e :: es).length := by rw [← hsl]; exact (List.getElem?_eq_some_iff.1 h1).1
        have h3 : (e :: es)[i]? = some ((e :: es)[i]'hi) := List.getElem?_eq_getElem hi
        have h4 := (k5 i _ y h3 h2).1
        have h5 := congrArg (fun l => l[i]?) hks
        simp only [List.getElem?_map,h3,h1,Option.map_some] at h5
        rw [Option.some.inj h5] at h4
        exact key_of_vr h4
       have hget : ∀ y ∈ es'.toList,∃ (i : Nat) (hh : HB),hs[i]? = some hh ∧ es'[i]? = some y ∧ ∃ x : ME,(e :: es)[i]? = some x ∧ x.b = y.born := by
        intro y hy
        obtain ⟨i,hi,rfl⟩ := List.getElem_of_mem hy
        have hi' : i < es'.size := by simpa using hi
        have hi2 : i < hs.length := by omega
        have hi3 : i < (e :: es).length := by omega
        refine ⟨i,_,List.getElem?_eq_getElem hi2,by simp [hi'],_,List.getElem?_eq_getElem hi3,?_⟩
        exact (k5 i _ _ (List.getElem?_eq_getElem hi3) (by simp [hi'])).2.2
       have hborn : es'.toList.map (·.born) = (e :: es).map (·.b) := by
        apply List.ext_getElem?
        intro i
        rw [List.getElem?_map,List.getElem?_map,Array.getElem?_toList]
        by_cases hi : i < es'.size
        ·have hi3 : i < (e :: es).length := by omega
         rw [Array.getElem?_eq_getElem hi,List.getElem?_eq_getElem hi3]
         have := (k5 i _ _ (List.getElem?_eq_getElem hi3) (Array.getElem?_eq_getElem hi)).2.2
         simp only [Option.map_some,this]
        ·rw [Array.getElem?_eq_none (by omega),List.getElem?_eq_none (by omega)]; rfl
       have hmap : es'.toList.map hbOf = hs := by
        apply List.ext_getElem?
        intro i
        rw [List.getElem?_map,Array.getElem?_toList]
        by_cases hi : i < es'.size
        ·have hi2 : i < hs.length := by omega
         rw [Array.getElem?_eq_getElem hi,List.getElem?_eq_getElem hi2]
         have := (hbOf_eq (hkey i _ _ (List.getElem?_eq_getElem hi2) (Array.getElem?_eq_getElem hi))).2
         simp only [Option.map_some,enc_inj this]
        ·rw [Array.getElem?_eq_none (by omega),List.getElem?_eq_none (by omega)]; rfl
       have hz : es'.size = es.length + 1 := by rw [← k4]; rfl
       refine (sorted_keys plp.blk ck ⟨plq.blk,plq.st,none⟩ es' hbOf w hc hqlt k3 (fun y hy => ?_) (by rw [hborn]; exact hb2) (fun y hy => ?_) (by omega) (by omega)).mono ?_
       ·obtain ⟨i,hh,_,_,x,h3,h4⟩ := hget y hy
        rw [← h4]; exact hb1 x (List.mem_of_getElem? h3)
       ·obtain ⟨i,hh,h1,h2,_⟩ := hget y hy
        exact (hbOf_eq (hkey i hh y h1 h2)).1
       ·rintro e2 w' ⟨v',rfl,hbl,hrow⟩
        rw [hmap] at hrow
        rcases hrow.2 with ⟨_,h0⟩ | ⟨g,cap2,cur,rfl,hg,hgb,hn1,hn2,hcs,htk⟩
        ·omega
        ·have hL : (sortH hs).flatMap HB.enc = ((sortH hs).flatMap (·.l)).map fun n => Value.int .u8 (.ofNat n) := by rw [List.map_flatMap]; rfl
         have hC : cellsN (isoN (hs.map (·.l))) = ((sortH hs).flatMap (·.l)).map vB := by
          rw [isoN_eq,cellsN_eq,List.flatMap_map,List.map_flatMap]
         have hlL : ((sortH hs).flatMap (·.l)).length = es'.size * 32 := by
          have := hrow.1
          rw [hL,List.length_map] at this
          exact this
         have hVs : VRs ι (((sortH hs).flatMap (·.l)).map vB) (cur.toList.take (((sortH hs).flatMap (·.l)).map vB).length) := by
          rw [List.length_map,hlL,htk,hL]
          refine vrs_bytes _ (fun x hx => ?_)
          obtain ⟨z,_,hz2⟩ := List.mem_flatMap.1 hx
          exact z.lt x hz2
         have hm := R.meet hbl hg hgb hVs (by rw [List.length_map,hlL,hcs]; exact Nat.mul_le_mul_right _ hn1)
         rw [hC,llen_eq]
         refine ⟨_,_,rfl,?_,hm.1,hm.2⟩
         have hz' : (e :: es).length = es'.size := k4
         rw [hz']
         exact .slice _ _ _ _ _ ⟨g,0,cur.size,0⟩ _ _ (nmSet_self _ _ _) rfl (fun _ hn => by cases hn) hn1 (fun _ => rfl) (by simp only [Nat.zero_add,Nat.add_zero]; rw [hcs]; exact Nat.le_refl _)
     ·cases h
    ·cases h
   ·cases h
  ·cases h
 ·cases h
end Go.Proofs.YtldidldbhngmnaaGreatDoor.Ir
namespace Go.Proofs.YtldidldbhngmnaaGreatDoor
open Go
abbrev m32 : Nat := 4294967296
def uadd (a b : Nat) : Nat := toU 4294967296 (Int.add (.ofNat a) (.ofNat b))
def uxor (a b : Nat) : Nat := toU 4294967296 (.ofNat (Nat.xor (toU 4294967296 (.ofNat a)) (toU 4294967296 (.ofNat b))))
def uand (a b : Nat) : Nat := toU 4294967296 (.ofNat (Nat.land (toU 4294967296 (.ofNat a)) (toU 4294967296 (.ofNat b))))
def uor (a b : Nat) : Nat := toU 4294967296 (.ofNat (Nat.lor (toU 4294967296 (.ofNat a)) (toU 4294967296 (.ofNat b))))
def uinv (a : Nat) : Nat := toU 4294967296 (.ofNat (Nat.xor 4294967295 (toU 4294967296 (.ofNat a))))
def ushl (a p : Nat) : Nat := toU 4294967296 (Int.mul (.ofNat a) (.ofNat p))
def ushr (a p : Nat) : Nat := toU 4294967296 (Int.fdiv (.ofNat a) (.ofNat p))
def ucvt (a : Nat) : Nat := toU 4294967296 (.ofNat a)
def rotD (x p q : Nat) : Nat := uor (ushl x q) (ushr x p)
def rotR (x p q : Nat) : Nat := uor (ushr x p) (ushl x q)
theorem m32_pos : 0 < m32 := by decide
theorem uor_comm (a b : Nat) : uor a b = uor b a := by
 unfold uor
 have : ∀ x y : Nat,Nat.lor x y = Nat.lor y x := fun x y => Nat.or_comm x y
 rw [this]
theorem rot_eq (x p q : Nat) : rotR x p q = rotD x p q := uor_comm _ _
theorem uadd_eq (a b : Nat) : uadd a b = (a + b) % m32 := rfl
theorem uadd_comm4 (a b c d : Nat) : uadd (uadd (uadd a b) c) d = uadd (uadd (uadd d c) b) a := by
 simp only [uadd_eq]
 show ((((a + b) % 4294967296 + c) % 4294967296) + d) % 4294967296 = ((((d + c) % 4294967296 + b) % 4294967296) + a) % 4294967296
 omega
def be (B : Nat → Nat) (t : Nat) : Nat := uor (uor (uor (ushl (ucvt (B (4 * t))) 16777216) (ushl (ucvt (B (4 * t + 1))) 65536)) (ushl (ucvt (B (4 * t + 2))) 256)) (ucvt (B (4 * t + 3)))
def sg0 (y : Nat) : Nat := uxor (uxor (rotD y 128 33554432) (rotD y 262144 16384)) (ushr y 8)
def sg1 (x : Nat) : Nat := uxor (uxor (rotD x 131072 32768) (rotD x 524288 8192)) (ushr x 1024)
def wnext (w2 w7 w15 w16 : Nat) : Nat := uadd (uadd (uadd (sg1 w2) w7) (sg0 w15)) w16
def tall0 : Nat := 0
def tall1 : Nat := tall0
def tall2 : Nat := tall1
def tall3 : Nat := tall2
def tall4 : Nat := tall3
def tall5 : Nat := tall4
def tall6 : Nat := tall5
def tall7 : Nat := tall6
def tall8 : Nat := tall7
def tall9 : Nat := tall8
def tall10 : Nat := tall9
def tall11 : Nat := tall10
def tall12 : Nat := tall11
def tall13 : Nat := tall12
def tall14 : Nat := tall13
def tall15 : Nat := tall14
def tall16 : Nat := tall15
def tall17 : Nat := tall16
def tall18 : Nat := tall17
def tall19 : Nat := tall18
def tall20 : Nat := tall19
def tall21 : Nat := tall20
def tall22 : Nat := tall21
def tall23 : Nat := tall22
def tall24 : Nat := tall23
def tall25 : Nat := tall24
def tall26 : Nat := tall25
def tall27 : Nat := tall26
def tall28 : Nat := tall27
def tall29 : Nat := tall28
def tall30 : Nat := tall29
def tall31 : Nat := tall30
def tall32 : Nat := tall31
def tall33 : Nat := tall32
def tall34 : Nat := tall33
def tall35 : Nat := tall34
def tall36 : Nat := tall35
def tall37 : Nat := tall36
def tall38 : Nat := tall37
def tall39 : Nat := tall38
def tall40 : Nat := tall39
def tall41 : Nat := tall40
def tall42 : Nat := tall41
def tall43 : Nat := tall42
def tall44 : Nat := tall43
def tall45 : Nat := tall44
def tall46 : Nat := tall45
def tall47 : Nat := tall46
def tall48 : Nat := tall47
def tall49 : Nat := tall48
def tall50 : Nat := tall49
def tall51 : Nat := tall50
def tall52 : Nat := tall51
def tall53 : Nat := tall52
def tall54 : Nat := tall53
def tall55 : Nat := tall54
def tall56 : Nat := tall55
def tall57 : Nat := tall56
def tall58 : Nat := tall57
def tall59 : Nat := tall58
def tall60 : Nat := tall59
noncomputable def getN (l : List Nat) (k : Nat) : Nat := (fun _ : Nat => Option.rec (motive := fun _ => Nat) 0 (fun n => n) (lget l k)) tall60
theorem getN_zero (x : Nat) (l : List Nat) : getN (x :: l) 0 = x := rfl
theorem getN_succ (x : Nat) (l : List Nat) (k : Nat) : getN (x :: l) (k + 1) = getN l k := rfl
noncomputable def accW (B : Nat → Nat) (t : Nat) : List Nat := Nat.rec (motive := fun _ => List Nat) [] (fun t l => Bool.rec (motive := fun _ => Nat) (wnext (getN l 1) (getN l 6) (getN l 14) (getN l 15)) (be B t) (Nat.blt t 16) :: l) t
noncomputable def wAt (B : Nat → Nat) (t i : Nat) : Nat := (fun _ : Nat => Bool.rec (motive := fun _ => Nat) 0 (getN (accW B t) (Nat.sub (Nat.sub t 1) i)) (Nat.blt i t)) tall60
noncomputable def upN (W : Nat → Nat) (t v : Nat) : Nat → Nat := fun i => (fun _ : Nat => Bool.rec (motive := fun _ => Nat) (W i) v (Nat.beq i t)) tall60
theorem accW_succ (B : Nat → Nat) (t : Nat) : accW B (t + 1) = Bool.rec (motive := fun _ => Nat) (wnext (getN (accW B t) 1) (getN (accW B t) 6) (getN (accW B t) 14) (getN (accW B t) 15)) (be B t) (Nat.blt t 16) :: accW B t := rfl
theorem wAt_succ (B : Nat → Nat) (t : Nat) {v : Nat} (hv : v = Bool.rec (motive := fun _ => Nat) (wnext (wAt B t (t - 2)) (wAt B t (t - 7)) (wAt B t (t - 15)) (wAt B t (t - 16))) (be B t) (Nat.blt t 16)) : upN (wAt B t) t v = wAt B (t + 1) := by
 funext i
 unfold upN
 by_cases hi : i = t
 ·have h1 : Nat.beq i t = true := by rw [nbeq_eq]; simp [hi]
  simp only [h1]
  unfold wAt
  have h2 : Nat.blt i (t + 1) = true := by rw [blt_eq]; simp [hi]
  simp only [h2]
  have h3 : Nat.sub (Nat.sub (t + 1) 1) i = 0 := by show t + 1 - 1 - i = 0; omega
  rw [h3,accW_succ,getN_zero,hv]
  by_cases ht : t < 16
  ·have h4 : Nat.blt t 16 = true := by rw [blt_eq]; simp [ht]
   simp only [h4]
  ·have h4 : Nat.blt t 16 = false := by rw [blt_eq]; simp [ht]
   simp only [h4]
   have hw : ∀ k,1 ≤ k → k ≤ 16 → wAt B t (t - k) = getN (accW B t) (k - 1) := fun k hk hk' => by
    unfold wAt
    have h5 : Nat.blt (t - k) t = true := by rw [blt_eq]; simp; omega
    simp only [h5]
    have h6 : Nat.sub (Nat.sub t 1) (t - k) = k - 1 := by show t - 1 - (t - k) = k - 1; omega
    rw [h6]
   rw [hw 2 (by omega) (by omega),hw 7 (by omega) (by omega),hw 15 (by omega) (by omega),hw 16 (by omega) (by omega)]
 ·have h1 : Nat.beq i t = false := by rw [nbeq_eq]; simp [hi]
  simp only [h1]
  unfold wAt
  by_cases hlt : i < t
  ·have h2 : Nat.blt i t = true := by rw [blt_eq]; simp [hlt]
   have h3 : Nat.blt i (t + 1) = true := by rw [blt_eq]; simp; omega
   simp only [h2,h3]
   have h4 : Nat.sub (Nat.sub (t + 1) 1) i = (Nat.sub (Nat.sub t 1) i) + 1 := by show t + 1 - 1 - i = t - 1 - i + 1; omega
   rw [h4,accW_succ,getN_succ]
  ·have h2 : Nat.blt i t = false := by rw [blt_eq]; simp [hlt]
   have h3 : Nat.blt i (t + 1) = false := by rw [blt_eq]; simp; omega
   simp only [h2,h3]
structure H8 where
 a : Nat
 b : Nat
 c : Nat
 d : Nat
 e : Nat
 f : Nat
 g : Nat
 h : Nat
def ep1 (e : Nat) : Nat := uxor (uxor (rotD e 64 67108864) (rotD e 2048 2097152)) (rotD e 33554432 128)
def ep0 (a : Nat) : Nat := uxor (uxor (rotD a 4 1073741824) (rotD a 8192 524288)) (rotD a 4194304 1024)
def chF (e f g : Nat) : Nat := uxor (uand e f) (uand (uinv e) g)
def mjF (a b c : Nat) : Nat := uxor (uxor (uand a b) (uand a c)) (uand b c)
def t1F (x : H8) (k w : Nat) : Nat := uadd (uadd (uadd (uadd x.h (ep1 x.e)) (chF x.e x.f x.g)) k) w
def t2F (x : H8) : Nat := uadd (ep0 x.a) (mjF x.a x.b x.c)
def rnd (k w : Nat) (x : H8) : H8 := ⟨uadd (t1F x k w) (t2F x),x.a,x.b,x.c,uadd x.d (t1F x k w),x.e,x.f,x.g⟩
def kW : List Nat := [1116352408,1899447441,3049323471,3921009573,961987163,1508970993,2453635748,2870763221,3624381080,310598401,607225278,1426881987,1925078388,2162078206,2614888103,3248222580,3835390401,4022224774,264347078,604807628,770255983,1249150122,1555081692,1996064986,2554220882,2821834349,2952996808,3210313671,3336571891,3584528711,113926993,338241895,666307205,773529912,1294757372,1396182291,1695183700,1986661051,2177026350,2456956037,2730485921,2820302411,3259730800,3345764771,3516065817,3600352804,4094571909,275423344,430227734,506948616,659060556,883997877,958139571,1322822218,1537002063,1747873779,1955562222,2024104815,2227730452,2361852424,2428436474,2756734187,3204031479,3329325298]
noncomputable def rnds (W : Nat → Nat) (x : H8) (t : Nat) : H8 := Nat.rec (motive := fun _ => H8) x (fun t y => rnd (getN kW t) (W t) y) t
theorem rnds_succ (W : Nat → Nat) (x : H8) (t : Nat) : rnds W x (t + 1) = rnd (getN kW t) (W t) (rnds W x t) := rfl
def addH (s x : H8) : H8 := ⟨uadd s.a x.a,uadd s.b x.b,uadd s.c x.c,uadd s.d x.d,uadd s.e x.e,uadd s.f x.f,uadd s.g x.g,uadd s.h x.h⟩
noncomputable def mixF (s : H8) (B : Nat → Nat) : H8 := addH s (rnds (wAt B 64) s 64)
def strN {α : Type} (n : Nat) (k : Nat → α) : α := Nat.rec (motive := fun _ => α) (k 0) (fun m _ => k (Nat.succ m)) n
theorem strN_eq {α : Type} (n : Nat) (k : Nat → α) : strN n k = k n := by cases n <;> rfl
noncomputable def valW (B : Nat → Nat) (t : Nat) (l : List Nat) : Nat := Bool.rec (motive := fun _ => Nat) (wnext (getN l 1) (getN l 6) (getN l 14) (getN l 15)) (be B t) (Nat.blt t 16)
noncomputable def accQ (B : Nat → Nat) (n : Nat) : Nat → List Nat → List Nat := Nat.rec (motive := fun _ => Nat → List Nat → List Nat) (fun _ l => l) (fun _ ih t l => strN (valW B t l) fun v => ih (Nat.add t 1) (v :: l)) n
theorem accQ_eq (B : Nat → Nat) : ∀ n t,accQ B n t (accW B t) = accW B (t + n)
 | 0,t => rfl
 | n + 1,t => by
  have e : accQ B (n + 1) t (accW B t) = strN (valW B t (accW B t)) fun v => accQ B n (Nat.add t 1) (v :: accW B t) := rfl
  have e2 : valW B t (accW B t) :: accW B t = accW B (t + 1) := (accW_succ B t).symm
  rw [e,strN_eq,e2]
  have := accQ_eq B n (t + 1)
  show accQ B n (t + 1) _ = _
  rw [this]
  congr 1; omega
noncomputable def lrev (l : List Nat) : List Nat → List Nat := List.rec (motive := fun _ => List Nat → List Nat) (fun r => r) (fun x _ ih r => ih (x :: r)) l
theorem lrev_eq : ∀ l r,lrev l r = l.reverse ++ r
 | [],r => rfl
 | x :: l,r => by
  show lrev l (x :: r) = _
  rw [lrev_eq l (x :: r)]; simp
theorem accW_length (B : Nat → Nat) : ∀ t,(accW B t).length = t
 | 0 => rfl
 | t + 1 => by rw [accW_succ,List.length_cons,accW_length B t]
def rndQ {α : Type} (k w : Nat) (x : H8) (K : H8 → α) : α := strN (t1F x k w) fun t1 => strN (uadd t1 (t2F x)) fun a => strN (uadd x.d t1) fun e => K ⟨a,x.a,x.b,x.c,e,x.e,x.f,x.g⟩
theorem rndQ_eq {α : Type} (k w : Nat) (x : H8) (K : H8 → α) : rndQ k w x K = K (rnd k w x) := by simp only [rndQ,strN_eq]; rfl
noncomputable def rndsQ (ks : List Nat) : List Nat → H8 → H8 := List.rec (motive := fun _ => List Nat → H8 → H8) (fun _ x => x) (fun k _ ih ws x => match ws with | [] => x | w :: ws => rndQ k w x fun y => ih ws y) ks
theorem rndsQ_eq (W : Nat → Nat) (x : H8) : ∀ (ks ws : List Nat) (i : Nat),ks.length = ws.length → (∀ j k,ks[j]? = some k → k = getN kW (i + j)) → (∀ j w,ws[j]? = some w → w = W (i + j)) → rndsQ ks ws (rnds W x i) = rnds W x (i + ks.length)
 | [],ws,i,_,_,_ => rfl
 | k :: ks,[],i,h,_,_ => by cases h
 | k :: ks,w :: ws,i,h,hk,hw => by
  have e : rndsQ (k :: ks) (w :: ws) (rnds W x i) = rndQ k w (rnds W x i) fun y => rndsQ ks ws y := rfl
  have ek := hk 0 k rfl
  have ew := hw 0 w rfl
  rw [e,rndQ_eq,ek,ew]
  show rndsQ ks ws (rnds W x (i + 1)) = _
  rw [rndsQ_eq W x ks ws (i + 1) (by simpa using h) (fun j k h1 => by rw [hk (j + 1) k (by simpa using h1)]; congr 1; omega) (fun j w h1 => by rw [hw (j + 1) w (by simpa using h1)]; congr 1; omega)]
  congr 1
  simp; omega
def strH {α : Type} (x : H8) (k : H8 → α) : α := strN x.a fun a => strN x.b fun b => strN x.c fun c => strN x.d fun d => strN x.e fun e => strN x.f fun f => strN x.g fun g => strN x.h fun h => k ⟨a,b,c,d,e,f,g,h⟩
theorem strH_eq {α : Type} (x : H8) (k : H8 → α) : strH x k = k x := by simp only [strH,strN_eq]
theorem getN_eq {l : List Nat} {i n : Nat} (h : l[i]? = some n) : getN l i = n := by
 unfold getN
 rw [lget_eq,h]
noncomputable def mixQ {α : Type} (s : H8) (B : Nat → Nat) (K : H8 → α) : α := strH (addH s (rndsQ kW (lrev (accQ B 64 0 []) []) s)) K
theorem mixQ_eq {α : Type} (s : H8) (B : Nat → Nat) (K : H8 → α) : mixQ s B K = K (mixF s B) := by
 unfold mixQ mixF
 rw [strH_eq]
 have h1 : accQ B 64 0 [] = accW B 64 := by
  have := accQ_eq B 64 0
  rw [Nat.zero_add] at this
  exact this
 rw [h1,lrev_eq,List.append_nil]
 have hlen : (accW B 64).length = 64 := accW_length _ _
 have h2 := rndsQ_eq (wAt B 64) s kW (accW B 64).reverse 0 (by rw [List.length_reverse,hlen]; rfl) (fun j k h => by rw [Nat.zero_add]; exact (getN_eq h).symm) (fun j w h => by
  rw [Nat.zero_add]
  have hj : j < 64 := by
   have := (List.getElem?_eq_some_iff.1 h).1
   rw [List.length_reverse,hlen] at this; exact this
  unfold wAt
  have hb : Nat.blt j 64 = true := by rw [blt_eq]; simp [hj]
  simp only [hb]
  rw [List.getElem?_reverse (by rw [hlen]; exact hj),hlen] at h
  exact (getN_eq h).symm)
 have h3 : rnds (wAt B 64) s 0 = s := rfl
 rw [h3] at h2
 rw [h2]
 rfl
def rg0 (y : Nat) : Nat := uxor (uxor (rotR y 128 33554432) (rotR y 262144 16384)) (ushr y 8)
def rg1 (x : Nat) : Nat := uxor (uxor (rotR x 131072 32768) (rotR x 524288 8192)) (ushr x 1024)
def rnext (w2 w7 w15 w16 : Nat) : Nat := uadd (uadd (uadd w16 (rg0 w15)) w7) (rg1 w2)
theorem rnext_eq (w2 w7 w15 w16 : Nat) : rnext w2 w7 w15 w16 = wnext w2 w7 w15 w16 := by
 unfold rnext wnext rg0 rg1 sg0 sg1
 simp only [rot_eq]
 exact uadd_comm4 _ _ _ _
def rp1 (e : Nat) : Nat := uxor (uxor (rotR e 64 67108864) (rotR e 2048 2097152)) (rotR e 33554432 128)
def rp0 (a : Nat) : Nat := uxor (uxor (rotR a 4 1073741824) (rotR a 8192 524288)) (rotR a 4194304 1024)
def t1R (x : H8) (k w : Nat) : Nat := uadd (uadd (uadd (uadd x.h (rp1 x.e)) (chF x.e x.f x.g)) k) w
def t2R (x : H8) : Nat := uadd (rp0 x.a) (mjF x.a x.b x.c)
def rndR (k w : Nat) (x : H8) : H8 := ⟨uadd (t1R x k w) (t2R x),x.a,x.b,x.c,uadd x.d (t1R x k w),x.e,x.f,x.g⟩
theorem rndR_eq (k w : Nat) (x : H8) : rndR k w x = rnd k w x := by
 unfold rndR rnd t1R t2R t1F t2F rp1 rp0 ep1 ep0
 simp only [rot_eq]
def ub (x p : Nat) : Nat := toU 256 (.ofNat (ushr x p))
noncomputable def out4 (x : Nat) (l : List Nat) : List Nat := ub x 16777216 :: ub x 65536 :: ub x 256 :: ub x 1 :: l
noncomputable def outL (x : H8) : List Nat := H8.rec (motive := fun _ => List Nat) (fun a b c d e f g h => out4 a (out4 b (out4 c (out4 d (out4 e (out4 f (out4 g (out4 h [])))))))) x
noncomputable def iota (n : Nat) : Nat → List Nat := Nat.rec (motive := fun _ => Nat → List Nat) (fun _ => []) (fun _ ih i => i :: ih (Nat.add i 1)) n
noncomputable def zlist (n : Nat) (l : List Nat) : List Nat := Nat.rec (motive := fun _ => List Nat) l (fun _ ih => 0 :: ih) n
def lenB (n p : Nat) : Nat := Nat.mod (Nat.div (Nat.mul 8 n) p) 256
noncomputable def tailL (n : Nat) : List Nat := 128 :: zlist (Nat.mod (Nat.sub 119 (Nat.mod n 64)) 64) [0,0,0,0,lenB n 16777216,lenB n 65536,lenB n 256,lenB n 1]
noncomputable def padL (n : Nat) (B : Nat → Nat) : List Nat := lapp (lmap B (iota n 0)) (tailL n)
noncomputable def padM (n : Nat) (B : Nat → Nat) (i : Nat) : Nat := (fun _ : Nat => getN (padL n B) i) tall60
def h8zero : H8 := ⟨1779033703,3144134277,1013904242,2773480762,1359893119,2600822924,528734635,1541459225⟩
noncomputable def blkB (M : Nat → Nat) (j : Nat) : Nat → Nat := fun i => M (Nat.add (Nat.mul 64 j) i)
noncomputable def hAt (M : Nat → Nat) (j : Nat) : H8 := Nat.rec (motive := fun _ => H8) h8zero (fun j h => mixF h (blkB M j)) j
noncomputable def hQ (M : Nat → Nat) (n : Nat) : Nat → H8 → List Nat := Nat.rec (motive := fun _ => Nat → H8 → List Nat) (fun _ h => outL h) (fun _ ih j h => mixQ h (blkB M j) fun y => ih (Nat.add j 1) y) n
theorem hQ_eq (M : Nat → Nat) : ∀ n j,hQ M n j (hAt M j) = outL (hAt M (j + n))
 | 0,j => rfl
 | n + 1,j => by
  have e : hQ M (n + 1) j (hAt M j) = mixQ (hAt M j) (blkB M j) fun y => hQ M n (Nat.add j 1) y := rfl
  rw [e,mixQ_eq]
  have := hQ_eq M n (j + 1)
  show hQ M n (j + 1) (hAt M (j + 1)) = _
  rw [this]
  congr 2; omega
noncomputable def shaF (n nb : Nat) (bl : List Nat) : List Nat := outL (hAt (padM n (getN bl)) nb)
noncomputable def forceL (l : List Nat) : List Nat := List.rec (motive := fun _ => List Nat) [] (fun x _ ih => strN x fun y => y :: ih) l
theorem forceL_eq : ∀ l,forceL l = l
 | [] => rfl
 | x :: l => by show (strN x fun y => y :: forceL l) = _; rw [strN_eq,forceL_eq l]
noncomputable def shaQ (n nb : Nat) (bl : List Nat) : List Nat := forceL (hQ (padM n (getN bl)) nb 0 h8zero)
theorem shaQ_eq (n nb : Nat) (bl : List Nat) : shaQ n nb bl = shaF n nb bl := by
 unfold shaQ shaF
 rw [forceL_eq]
 have := hQ_eq (padM n (getN bl)) nb 0
 rw [Nat.zero_add] at this
 exact this
theorem hAt_succ (M : Nat → Nat) (j : Nat) : hAt M (j + 1) = mixF (hAt M j) (blkB M j) := rfl
theorem accW_ext {B B' : Nat → Nat} (h : ∀ i,i < 64 → B i = B' i) : ∀ t,accW B t = accW B' t
 | 0 => rfl
 | t + 1 => by
  rw [accW_succ,accW_succ,accW_ext h t]
  by_cases ht : t < 16
  ·have hb : Nat.blt t 16 = true := by rw [blt_eq]; simp [ht]
   rw [hb]
   have : be B t = be B' t := by
    unfold be
    rw [h (4 * t) (by omega),h (4 * t + 1) (by omega),h (4 * t + 2) (by omega),h (4 * t + 3) (by omega)]
   show be B t :: accW B' t = be B' t :: accW B' t
   rw [this]
  ·have hb : Nat.blt t 16 = false := by rw [blt_eq]; simp [ht]
   rw [hb]
theorem rnds_ext {W W' : Nat → Nat} (h : ∀ i,W i = W' i) (x : H8) : ∀ t,rnds W x t = rnds W' x t
 | 0 => rfl
 | t + 1 => by rw [rnds_succ,rnds_succ,rnds_ext h x t,h t]
theorem wAt_ext {B B' : Nat → Nat} (h : ∀ i,i < 64 → B i = B' i) (t i : Nat) : wAt B t i = wAt B' t i := by
 unfold wAt
 rw [accW_ext h t]
theorem mixF_ext {B B' : Nat → Nat} (h : ∀ i,i < 64 → B i = B' i) (s : H8) : mixF s B = mixF s B' := by
 show addH s (rnds (wAt B 64) s 64) = addH s (rnds (wAt B' 64) s 64)
 rw [rnds_ext (fun i => wAt_ext h 64 i) s 64]
noncomputable def blkL (L : List Nat) (j : Nat) : List Nat := ltake (ldrop L (Nat.mul 64 j)) 64
noncomputable def hDt (L : List Nat) (j : Nat) : H8 := Nat.rec (motive := fun _ => H8) h8zero (fun j h => mixF h (getN (blkL L j))) j
theorem getN_lget (l : List Nat) (i : Nat) : getN l i = (l[i]?).getD 0 := by
 unfold getN
 rw [lget_eq]
 cases l[i]? <;> rfl
theorem hDt_eq (n : Nat) (B : Nat → Nat) : ∀ j,hDt (padL n B) j = hAt (padM n B) j
 | 0 => rfl
 | j + 1 => by
  have e : hDt (padL n B) (j + 1) = mixF (hDt (padL n B) j) (getN (blkL (padL n B) j)) := rfl
  rw [e,hDt_eq n B j,hAt_succ]
  refine mixF_ext (fun i hi => ?_) _
  have e2 : blkB (padM n B) j i = getN (padL n B) (Nat.mul 64 j + i) := by unfold blkB padM; exact congrArg (getN (padL n B)) (show Nat.add (Nat.mul 64 j) i = Nat.mul 64 j + i from Nat.add_eq)
  rw [e2]
  unfold blkL
  rw [getN_lget,getN_lget,ltake_eq,ldrop_eq,List.getElem?_take,if_pos hi,List.getElem?_drop]
theorem iota_get : ∀ (n i j : Nat),j < n → (iota n i)[j]? = some (i + j)
 | 0,i,j,h => by omega
 | n + 1,i,0,h => rfl
 | n + 1,i,j + 1,h => by
  show (iota n (Nat.add i 1))[j]? = _
  rw [iota_get n (Nat.add i 1) j (by omega)]
  congr 1
  show i + 1 + j = i + (j + 1)
  omega
theorem iota_len : ∀ n i,(iota n i).length = n
 | 0,i => rfl
 | n + 1,i => by show (iota n (Nat.add i 1)).length + 1 = n + 1; rw [iota_len n]
theorem bs_iota {bl : List Nat} {n : Nat} (h : bl.length = n) : bs bl = lmap (fun i => V.int .u8 (.ofNat (getN bl i))) (iota n 0) := by
 unfold bs
 rw [lmap_eq,lmap_eq]
 refine List.ext_getElem? (fun i => ?_)
 rw [List.getElem?_map,List.getElem?_map]
 by_cases hi : i < n
 ·rw [iota_get n 0 i hi,List.getElem?_eq_getElem (by omega)]
  simp only [Option.map_some,Nat.zero_add]
  rw [getN_eq (List.getElem?_eq_getElem (by omega))]
 ·have h1 : bl[i]? = none := List.getElem?_eq_none (by omega)
  have h2 : (iota n 0)[i]? = none := List.getElem?_eq_none (by rw [iota_len]; omega)
  rw [h1,h2]
  rfl
end Go.Proofs.YtldidldbhngmnaaGreatDoor
namespace Go.Proofs.YtldidldbhngmnaaGreatDoor.Ir
set_option maxRecDepth 100000
open Go Go.Proofs.YtldidldbhngmnaaGreatDoor
noncomputable def ix64 : List Nat := [0,1,2,3,4,5,6,7,8,9,10,11,12,13,14,15,16,17,18,19,20,21,22,23,24,25,26,27,28,29,30,31,32,33,34,35,36,37,38,39,40,41,42,43,44,45,46,47,48,49,50,51,52,53,54,55,56,57,58,59,60,61,62,63]
noncomputable def w32 (W : Nat → Nat) (l : List Nat) : List V := lmap (fun i => V.int .u32 (.ofNat (W i))) l
noncomputable def b8 (B : Nat → Nat) (l : List Nat) : List V := lmap (fun i => V.int .u8 (.ofNat (B i))) l
noncomputable def spI : IR := bodyI f151
noncomputable def sp0 : IR := fstI spI
noncomputable def sp1 : IR := fstI (sndI spI)
noncomputable def spL : IR := fstI (sndI (sndI spI))
noncomputable def sp2 : IR := fstI spL
noncomputable def spB : IR := lopI (blkI (sndI spL))
noncomputable def spT : IR := sndI (sndI (sndI spI))
noncomputable def spF (t : Nat) : T V := T.set (.slice p60 0 64 none 1) p0 (T.set (.ptr p61 0) p2 (T.set (.ptr p62 0) p3 (T.set (.int .i64 (.ofNat t)) p8 .nil)))
noncomputable def bH (B : Nat → Nat) : T Ob := T.set (.cells (b8 B ix64) [] false true) p60 .nil
noncomputable def spH (W B : Nat → Nat) : T Ob := T.set (.cells (zz (.int .u32 (.ofNat 0)) 64) [] false false) p61 (T.set (.cells (w32 W ix64) [] false false) p62 (bH B))
noncomputable def spV (t : Nat) (W B : Nat → Nat) : Nat := (fun _ : Nat => Bool.rec (motive := fun _ => Nat) (wnext (W (Nat.sub t 2)) (W (Nat.sub t 7)) (W (Nat.sub t 15)) (W (Nat.sub t 16))) (be B t) (Nat.blt t 16)) tall60
noncomputable def v3 : Vw := [(p60,p60),(p61,p61),(p62,p62)]
noncomputable def spK : List Pos := [p0,p2,p3,p8]
theorem sp_0 (W B : Nat → Nat) (w0 : World) (Q : Exit → Act → World → Prop) : Tri Tryz.prog E 80 spB (At gs 80 w0 (spF 0) ⟨spH W B,p63⟩) (Exit.then (At gs 80 w0 (spF 1) ⟨spH (upN W 0 (spV 0 W B)) B,p63⟩) Q) :=
 Tri.stepV okA (k := 40) (fuel := 40) (l := v3) (ks := spK) gs_lt' (by kernel_rfl) (by unfold Alike; kernel_rfl) (by kernel_rfl) (by kernel_rfl) (by kernel_rfl)
theorem sp_1 (W B : Nat → Nat) (w0 : World) (Q : Exit → Act → World → Prop) : Tri Tryz.prog E 80 spB (At gs 80 w0 (spF 1) ⟨spH W B,p63⟩) (Exit.then (At gs 80 w0 (spF 2) ⟨spH (upN W 1 (spV 1 W B)) B,p63⟩) Q) :=
 Tri.stepV okA (k := 40) (fuel := 40) (l := v3) (ks := spK) gs_lt' (by kernel_rfl) (by unfold Alike; kernel_rfl) (by kernel_rfl) (by kernel_rfl) (by kernel_rfl)
theorem sp_2 (W B : Nat → Nat) (w0 : World) (Q : Exit → Act → World → Prop) : Tri Tryz.prog E 80 spB (At gs 80 w0 (spF 2) ⟨spH W B,p63⟩) (Exit.then (At gs 80 w0 (spF 3) ⟨spH (upN W 2 (spV 2 W B)) B,p63⟩) Q) :=
 Tri.stepV okA (k := 40) (fuel := 40) (l := v3) (ks := spK) gs_lt' (by kernel_rfl) (by unfold Alike; kernel_rfl) (by kernel_rfl) (by kernel_rfl) (by kernel_rfl)
theorem sp_3 (W B : Nat → Nat) (w0 : World) (Q : Exit → Act → World → Prop) : Tri Tryz.prog E 80 spB (At gs 80 w0 (spF 3) ⟨spH W B,p63⟩) (Exit.then (At gs 80 w0 (spF 4) ⟨spH (upN W 3 (spV 3 W B)) B,p63⟩) Q) :=
 Tri.stepV okA (k := 40) (fuel := 40) (l := v3) (ks := spK) gs_lt' (by kernel_rfl) (by unfold Alike; kernel_rfl) (by kernel_rfl) (by kernel_rfl) (by kernel_rfl)
theorem sp_4 (W B : Nat → Nat) (w0 : World) (Q : Exit → Act → World → Prop) : Tri Tryz.prog E 80 spB (At gs 80 w0 (spF 4) ⟨spH W B,p63⟩) (Exit.then (At gs 80 w0 (spF 5) ⟨spH (upN W 4 (spV 4 W B)) B,p63⟩) Q) :=
 Tri.stepV okA (k := 40) (fuel := 40) (l := v3) (ks := spK) gs_lt' (by kernel_rfl) (by unfold Alike; kernel_rfl) (by kernel_rfl) (by kernel_rfl) (by kernel_rfl)
theorem sp_5 (W B : Nat → Nat) (w0 : World) (Q : Exit → Act → World → Prop) : Tri Tryz.prog E 80 spB (At gs 80 w0 (spF 5) ⟨spH W B,p63⟩) (Exit.then (At gs 80 w0 (spF 6) ⟨spH (upN W 5 (spV 5 W B)) B,p63⟩) Q) :=
 Tri.stepV okA (k := 40) (fuel := 40) (l := v3) (ks := spK) gs_lt' (by kernel_rfl) (by unfold Alike; kernel_rfl) (by kernel_rfl) (by kernel_rfl) (by kernel_rfl)
theorem sp_6 (W B : Nat → Nat) (w0 : World) (Q : Exit → Act → World → Prop) : Tri Tryz.prog E 80 spB (At gs 80 w0 (spF 6) ⟨spH W B,p63⟩) (Exit.then (At gs 80 w0 (spF 7) ⟨spH (upN W 6 (spV 6 W B)) B,p63⟩) Q) :=
 Tri.stepV okA (k := 40) (fuel := 40) (l := v3) (ks := spK) gs_lt' (by kernel_rfl) (by unfold Alike; kernel_rfl) (by kernel_rfl) (by kernel_rfl) (by kernel_rfl)
theorem sp_7 (W B : Nat → Nat) (w0 : World) (Q : Exit → Act → World → Prop) : Tri Tryz.prog E 80 spB (At gs 80 w0 (spF 7) ⟨spH W B,p63⟩) (Exit.then (At gs 80 w0 (spF 8) ⟨spH (upN W 7 (spV 7 W B)) B,p63⟩) Q) :=
 Tri.stepV okA (k := 40) (fuel := 40) (l := v3) (ks := spK) gs_lt' (by kernel_rfl) (by unfold Alike; kernel_rfl) (by kernel_rfl) (by kernel_rfl) (by kernel_rfl)
theorem sp_8 (W B : Nat → Nat) (w0 : World) (Q : Exit → Act → World → Prop) : Tri Tryz.prog E 80 spB (At gs 80 w0 (spF 8) ⟨spH W B,p63⟩) (Exit.then (At gs 80 w0 (spF 9) ⟨spH (upN W 8 (spV 8 W B)) B,p63⟩) Q) :=
 Tri.stepV okA (k := 40) (fuel := 40) (l := v3) (ks := spK) gs_lt' (by kernel_rfl) (by unfold Alike; kernel_rfl) (by kernel_rfl) (by kernel_rfl) (by kernel_rfl)
theorem sp_9 (W B : Nat → Nat) (w0 : World) (Q : Exit → Act → World → Prop) : Tri Tryz.prog E 80 spB (At gs 80 w0 (spF 9) ⟨spH W B,p63⟩) (Exit.then (At gs 80 w0 (spF 10) ⟨spH (upN W 9 (spV 9 W B)) B,p63⟩) Q) :=
 Tri.stepV okA (k := 40) (fuel := 40) (l := v3) (ks := spK) gs_lt' (by kernel_rfl) (by unfold Alike; kernel_rfl) (by kernel_rfl) (by kernel_rfl) (by kernel_rfl)
theorem sp_10 (W B : Nat → Nat) (w0 : World) (Q : Exit → Act → World → Prop) : Tri Tryz.prog E 80 spB (At gs 80 w0 (spF 10) ⟨spH W B,p63⟩) (Exit.then (At gs 80 w0 (spF 11) ⟨spH (upN W 10 (spV 10 W B)) B,p63⟩) Q) :=
 Tri.stepV okA (k := 40) (fuel := 40) (l := v3) (ks := spK) gs_lt' (by kernel_rfl) (by unfold Alike; kernel_rfl) (by kernel_rfl) (by kernel_rfl) (by kernel_rfl)
theorem sp_11 (W B : Nat → Nat) (w0 : World) (Q : Exit → Act → World → Prop) : Tri Tryz.prog E 80 spB (At gs 80 w0 (spF 11) ⟨spH W B,p63⟩) (Exit.then (At gs 80 w0 (spF 12) ⟨spH (upN W 11 (spV 11 W B)) B,p63⟩) Q) :=
 Tri.stepV okA (k := 40) (fuel := 40) (l := v3) (ks := spK) gs_lt' (by kernel_rfl) (by unfold Alike; kernel_rfl) (by kernel_rfl) (by kernel_rfl) (by kernel_rfl)
theorem sp_12 (W B : Nat → Nat) (w0 : World) (Q : Exit → Act → World → Prop) : Tri Tryz.prog E 80 spB (At gs 80 w0 (spF 12) ⟨spH W B,p63⟩) (Exit.then (At gs 80 w0 (spF 13) ⟨spH (upN W 12 (spV 12 W B)) B,p63⟩) Q) :=
 Tri.stepV okA (k := 40) (fuel := 40) (l := v3) (ks := spK) gs_lt' (by kernel_rfl) (by unfold Alike; kernel_rfl) (by kernel_rfl) (by kernel_rfl) (by kernel_rfl)
theorem sp_13 (W B : Nat → Nat) (w0 : World) (Q : Exit → Act → World → Prop) : Tri Tryz.prog E 80 spB (At gs 80 w0 (spF 13) ⟨spH W B,p63⟩) (Exit.then (At gs 80 w0 (spF 14) ⟨spH (upN W 13 (spV 13 W B)) B,p63⟩) Q) :=
 Tri.stepV okA (k := 40) (fuel := 40) (l := v3) (ks := spK) gs_lt' (by kernel_rfl) (by unfold Alike; kernel_rfl) (by kernel_rfl) (by kernel_rfl) (by kernel_rfl)
theorem sp_14 (W B : Nat → Nat) (w0 : World) (Q : Exit → Act → World → Prop) : Tri Tryz.prog E 80 spB (At gs 80 w0 (spF 14) ⟨spH W B,p63⟩) (Exit.then (At gs 80 w0 (spF 15) ⟨spH (upN W 14 (spV 14 W B)) B,p63⟩) Q) :=
 Tri.stepV okA (k := 40) (fuel := 40) (l := v3) (ks := spK) gs_lt' (by kernel_rfl) (by unfold Alike; kernel_rfl) (by kernel_rfl) (by kernel_rfl) (by kernel_rfl)
theorem sp_15 (W B : Nat → Nat) (w0 : World) (Q : Exit → Act → World → Prop) : Tri Tryz.prog E 80 spB (At gs 80 w0 (spF 15) ⟨spH W B,p63⟩) (Exit.then (At gs 80 w0 (spF 16) ⟨spH (upN W 15 (spV 15 W B)) B,p63⟩) Q) :=
 Tri.stepV okA (k := 40) (fuel := 40) (l := v3) (ks := spK) gs_lt' (by kernel_rfl) (by unfold Alike; kernel_rfl) (by kernel_rfl) (by kernel_rfl) (by kernel_rfl)
theorem sp_16 (W B : Nat → Nat) (w0 : World) (Q : Exit → Act → World → Prop) : Tri Tryz.prog E 80 spB (At gs 80 w0 (spF 16) ⟨spH W B,p63⟩) (Exit.then (At gs 80 w0 (spF 17) ⟨spH (upN W 16 (spV 16 W B)) B,p63⟩) Q) :=
 Tri.stepV okA (k := 40) (fuel := 40) (l := v3) (ks := spK) gs_lt' (by kernel_rfl) (by unfold Alike; kernel_rfl) (by kernel_rfl) (by kernel_rfl) (by kernel_rfl)
theorem sp_17 (W B : Nat → Nat) (w0 : World) (Q : Exit → Act → World → Prop) : Tri Tryz.prog E 80 spB (At gs 80 w0 (spF 17) ⟨spH W B,p63⟩) (Exit.then (At gs 80 w0 (spF 18) ⟨spH (upN W 17 (spV 17 W B)) B,p63⟩) Q) :=
 Tri.stepV okA (k := 40) (fuel := 40) (l := v3) (ks := spK) gs_lt' (by kernel_rfl) (by unfold Alike; kernel_rfl) (by kernel_rfl) (by kernel_rfl) (by kernel_rfl)
theorem sp_18 (W B : Nat → Nat) (w0 : World) (Q : Exit → Act → World → Prop) : Tri Tryz.prog E 80 spB (At gs 80 w0 (spF 18) ⟨spH W B,p63⟩) (Exit.then (At gs 80 w0 (spF 19) ⟨spH (upN W 18 (spV 18 W B)) B,p63⟩) Q) :=
 Tri.stepV okA (k := 40) (fuel := 40) (l := v3) (ks := spK) gs_lt' (by kernel_rfl) (by unfold Alike; kernel_rfl) (by kernel_rfl) (by kernel_rfl) (by kernel_rfl)
theorem sp_19 (W B : Nat → Nat) (w0 : World) (Q : Exit → Act → World → Prop) : Tri Tryz.prog E 80 spB (At gs 80 w0 (spF 19) ⟨spH W B,p63⟩) (Exit.then (At gs 80 w0 (spF 20) ⟨spH (upN W 19 (spV 19 W B)) B,p63⟩) Q) :=
 Tri.stepV okA (k := 40) (fuel := 40) (l := v3) (ks := spK) gs_lt' (by kernel_rfl) (by unfold Alike; kernel_rfl) (by kernel_rfl) (by kernel_rfl) (by kernel_rfl)
theorem sp_20 (W B : Nat → Nat) (w0 : World) (Q : Exit → Act → World → Prop) : Tri Tryz.prog E 80 spB (At gs 80 w0 (spF 20) ⟨spH W B,p63⟩) (Exit.then (At gs 80 w0 (spF 21) ⟨spH (upN W 20 (spV 20 W B)) B,p63⟩) Q) :=
 Tri.stepV okA (k := 40) (fuel := 40) (l := v3) (ks := spK) gs_lt' (by kernel_rfl) (by unfold Alike; kernel_rfl) (by kernel_rfl) (by kernel_rfl) (by kernel_rfl)
theorem sp_21 (W B : Nat → Nat) (w0 : World) (Q : Exit → Act → World → Prop) : Tri Tryz.prog E 80 spB (At gs 80 w0 (spF 21) ⟨spH W B,p63⟩) (Exit.then (At gs 80 w0 (spF 22) ⟨spH (upN W 21 (spV 21 W B)) B,p63⟩) Q) :=
 Tri.stepV okA (k := 40) (fuel := 40) (l := v3) (ks := spK) gs_lt' (by kernel_rfl) (by unfold Alike; kernel_rfl) (by kernel_rfl) (by kernel_rfl) (by kernel_rfl)
theorem sp_22 (W B : Nat → Nat) (w0 : World) (Q : Exit → Act → World → Prop) : Tri Tryz.prog E 80 spB (At gs 80 w0 (spF 22) ⟨spH W B,p63⟩) (Exit.then (At gs 80 w0 (spF 23) ⟨spH (upN W 22 (spV 22 W B)) B,p63⟩) Q) :=
 Tri.stepV okA (k := 40) (fuel := 40) (l := v3) (ks := spK) gs_lt' (by kernel_rfl) (by unfold Alike; kernel_rfl) (by kernel_rfl) (by kernel_rfl) (by kernel_rfl)
theorem sp_23 (W B : Nat → Nat) (w0 : World) (Q : Exit → Act → World → Prop) : Tri Tryz.prog E 80 spB (At gs 80 w0 (spF 23) ⟨spH W B,p63⟩) (Exit.then (At gs 80 w0 (spF 24) ⟨spH (upN W 23 (spV 23 W B)) B,p63⟩) Q) :=
 Tri.stepV okA (k := 40) (fuel := 40) (l := v3) (ks := spK) gs_lt' (by kernel_rfl) (by unfold Alike; kernel_rfl) (by kernel_rfl) (by kernel_rfl) (by kernel_rfl)
theorem sp_24 (W B : Nat → Nat) (w0 : World) (Q : Exit → Act → World → Prop) : Tri Tryz.prog E 80 spB (At gs 80 w0 (spF 24) ⟨spH W B,p63⟩) (Exit.then (At gs 80 w0 (spF 25) ⟨spH (upN W 24 (spV 24 W B)) B,p63⟩) Q) :=
 Tri.stepV okA (k := 40) (fuel := 40) (l := v3) (ks := spK) gs_lt' (by kernel_rfl) (by unfold Alike; kernel_rfl) (by kernel_rfl) (by kernel_rfl) (by kernel_rfl)
theorem sp_25 (W B : Nat → Nat) (w0 : World) (Q : Exit → Act → World → Prop) : Tri Tryz.prog E 80 spB (At gs 80 w0 (spF 25) ⟨spH W B,p63⟩) (Exit.then (At gs 80 w0 (spF 26) ⟨spH (upN W 25 (spV 25 W B)) B,p63⟩) Q) :=
 Tri.stepV okA (k := 40) (fuel := 40) (l := v3) (ks := spK) gs_lt' (by kernel_rfl) (by unfold Alike; kernel_rfl) (by kernel_rfl) (by kernel_rfl) (by kernel_rfl)
theorem sp_26 (W B : Nat → Nat) (w0 : World) (Q : Exit → Act → World → Prop) : Tri Tryz.prog E 80 spB (At gs 80 w0 (spF 26) ⟨spH W B,p63⟩) (Exit.then (At gs 80 w0 (spF 27) ⟨spH (upN W 26 (spV 26 W B)) B,p63⟩) Q) :=
 Tri.stepV okA (k := 40) (fuel := 40) (l := v3) (ks := spK) gs_lt' (by kernel_rfl) (by unfold Alike; kernel_rfl) (by kernel_rfl) (by kernel_rfl) (by kernel_rfl)
theorem sp_27 (W B : Nat → Nat) (w0 : World) (Q : Exit → Act → World → Prop) : Tri Tryz.prog E 80 spB (At gs 80 w0 (spF 27) ⟨spH W B,p63⟩) (Exit.then (At gs 80 w0 (spF 28) ⟨spH (upN W 27 (spV 27 W B)) B,p63⟩) Q) :=
 Tri.stepV okA (k := 40) (fuel := 40) (l := v3) (ks := spK) gs_lt' (by kernel_rfl) (by unfold Alike; kernel_rfl) (by kernel_rfl) (by kernel_rfl) (by kernel_rfl)
theorem sp_28 (W B : Nat → Nat) (w0 : World) (Q : Exit → Act → World → Prop) : Tri Tryz.prog E 80 spB (At gs 80 w0 (spF 28) ⟨spH W B,p63⟩) (Exit.then (At gs 80 w0 (spF 29) ⟨spH (upN W 28 (spV 28 W B)) B,p63⟩) Q) :=
 Tri.stepV okA (k := 40) (fuel := 40) (l := v3) (ks := spK) gs_lt' (by kernel_rfl) (by unfold Alike; kernel_rfl) (by kernel_rfl) (by kernel_rfl) (by kernel_rfl)
theorem sp_29 (W B : Nat → Nat) (w0 : World) (Q : Exit → Act → World → Prop) : Tri Tryz.prog E 80 spB (At gs 80 w0 (spF 29) ⟨spH W B,p63⟩) (Exit.then (At gs 80 w0 (spF 30) ⟨spH (upN W 29 (spV 29 W B)) B,p63⟩) Q) :=
 Tri.stepV okA (k := 40) (fuel := 40) (l := v3) (ks := spK) gs_lt' (by kernel_rfl) (by unfold Alike; kernel_rfl) (by kernel_rfl) (by kernel_rfl) (by kernel_rfl)
theorem sp_30 (W B : Nat → Nat) (w0 : World) (Q : Exit → Act → World → Prop) : Tri Tryz.prog E 80 spB (At gs 80 w0 (spF 30) ⟨spH W B,p63⟩) (Exit.then (At gs 80 w0 (spF 31) ⟨spH (upN W 30 (spV 30 W B)) B,p63⟩) Q) :=
 Tri.stepV okA (k := 40) (fuel := 40) (l := v3) (ks := spK) gs_lt' (by kernel_rfl) (by unfold Alike; kernel_rfl) (by kernel_rfl) (by kernel_rfl) (by kernel_rfl)
theorem sp_31 (W B : Nat → Nat) (w0 : World) (Q : Exit → Act → World → Prop) : Tri Tryz.prog E 80 spB (At gs 80 w0 (spF 31) ⟨spH W B,p63⟩) (Exit.then (At gs 80 w0 (spF 32) ⟨spH (upN W 31 (spV 31 W B)) B,p63⟩) Q) :=
 Tri.stepV okA (k := 40) (fuel := 40) (l := v3) (ks := spK) gs_lt' (by kernel_rfl) (by unfold Alike; kernel_rfl) (by kernel_rfl) (by kernel_rfl) (by kernel_rfl)
theorem sp_32 (W B : Nat → Nat) (w0 : World) (Q : Exit → Act → World → Prop) : Tri Tryz.prog E 80 spB (At gs 80 w0 (spF 32) ⟨spH W B,p63⟩) (Exit.then (At gs 80 w0 (spF 33) ⟨spH (upN W 32 (spV 32 W B)) B,p63⟩) Q) :=
 Tri.stepV okA (k := 40) (fuel := 40) (l := v3) (ks := spK) gs_lt' (by kernel_rfl) (by unfold Alike; kernel_rfl) (by kernel_rfl) (by kernel_rfl) (by kernel_rfl)
theorem sp_33 (W B : Nat → Nat) (w0 : World) (Q : Exit → Act → World → Prop) : Tri Tryz.prog E 80 spB (At gs 80 w0 (spF 33) ⟨spH W B,p63⟩) (Exit.then (At gs 80 w0 (spF 34) ⟨spH (upN W 33 (spV 33 W B)) B,p63⟩) Q) :=
 Tri.stepV okA (k := 40) (fuel := 40) (l := v3) (ks := spK) gs_lt' (by kernel_rfl) (by unfold Alike; kernel_rfl) (by kernel_rfl) (by kernel_rfl) (by kernel_rfl)
theorem sp_34 (W B : Nat → Nat) (w0 : World) (Q : Exit → Act → World → Prop) : Tri Tryz.prog E 80 spB (At gs 80 w0 (spF 34) ⟨spH W B,p63⟩) (Exit.then (At gs 80 w0 (spF 35) ⟨spH (upN W 34 (spV 34 W B)) B,p63⟩) Q) :=
 Tri.stepV okA (k := 40) (fuel := 40) (l := v3) (ks := spK) gs_lt' (by kernel_rfl) (by unfold Alike; kernel_rfl) (by kernel_rfl) (by kernel_rfl) (by kernel_rfl)
theorem sp_35 (W B : Nat → Nat) (w0 : World) (Q : Exit → Act → World → Prop) : Tri Tryz.prog E 80 spB (At gs 80 w0 (spF 35) ⟨spH W B,p63⟩) (Exit.then (At gs 80 w0 (spF 36) ⟨spH (upN W 35 (spV 35 W B)) B,p63⟩) Q) :=
 Tri.stepV okA (k := 40) (fuel := 40) (l := v3) (ks := spK) gs_lt' (by kernel_rfl) (by unfold Alike; kernel_rfl) (by kernel_rfl) (by kernel_rfl) (by kernel_rfl)
theorem sp_36 (W B : Nat → Nat) (w0 : World) (Q : Exit → Act → World → Prop) : Tri Tryz.prog E 80 spB (At gs 80 w0 (spF 36) ⟨spH W B,p63⟩) (Exit.then (At gs 80 w0 (spF 37) ⟨spH (upN W 36 (spV 36 W B)) B,p63⟩) Q) :=
 Tri.stepV okA (k := 40) (fuel := 40) (l := v3) (ks := spK) gs_lt' (by kernel_rfl) (by unfold Alike; kernel_rfl) (by kernel_rfl) (by kernel_rfl) (by kernel_rfl)
theorem sp_37 (W B : Nat → Nat) (w0 : World) (Q : Exit → Act → World → Prop) : Tri Tryz.prog E 80 spB (At gs 80 w0 (spF 37) ⟨spH W B,p63⟩) (Exit.then (At gs 80 w0 (spF 38) ⟨spH (upN W 37 (spV 37 W B)) B,p63⟩) Q) :=
 Tri.stepV okA (k := 40) (fuel := 40) (l := v3) (ks := spK) gs_lt' (by kernel_rfl) (by unfold Alike; kernel_rfl) (by kernel_rfl) (by kernel_rfl) (by kernel_rfl)
theorem sp_38 (W B : Nat → Nat) (w0 : World) (Q : Exit → Act → World → Prop) : Tri Tryz.prog E 80 spB (At gs 80 w0 (spF 38) ⟨spH W B,p63⟩) (Exit.then (At gs 80 w0 (spF 39) ⟨spH (upN W 38 (spV 38 W B)) B,p63⟩) Q) :=
 Tri.stepV okA (k := 40) (fuel := 40) (l := v3) (ks := spK) gs_lt' (by kernel_rfl) (by unfold Alike; kernel_rfl) (by kernel_rfl) (by kernel_rfl) (by kernel_rfl)
theorem sp_39 (W B : Nat → Nat) (w0 : World) (Q : Exit → Act → World → Prop) : Tri Tryz.prog E 80 spB (At gs 80 w0 (spF 39) ⟨spH W B,p63⟩) (Exit.then (At gs 80 w0 (spF 40) ⟨spH (upN W 39 (spV 39 W B)) B,p63⟩) Q) :=
 Tri.stepV okA (k := 40) (fuel := 40) (l := v3) (ks := spK) gs_lt' (by kernel_rfl) (by unfold Alike; kernel_rfl) (by kernel_rfl) (by kernel_rfl) (by kernel_rfl)
theorem sp_40 (W B : Nat → Nat) (w0 : World) (Q : Exit → Act → World → Prop) : Tri Tryz.prog E 80 spB (At gs 80 w0 (spF 40) ⟨spH W B,p63⟩) (Exit.then (At gs 80 w0 (spF 41) ⟨spH (upN W 40 (spV 40 W B)) B,p63⟩) Q) :=
 Tri.stepV okA (k := 40) (fuel := 40) (l := v3) (ks := spK) gs_lt' (by kernel_rfl) (by unfold Alike; kernel_rfl) (by kernel_rfl) (by kernel_rfl) (by kernel_rfl)
theorem sp_41 (W B : Nat → Nat) (w0 : World) (Q : Exit → Act → World → Prop) : Tri Tryz.prog E 80 spB (At gs 80 w0 (spF 41) ⟨spH W B,p63⟩) (Exit.then (At gs 80 w0 (spF 42) ⟨spH (upN W 41 (spV 41 W B)) B,p63⟩) Q) :=
 Tri.stepV okA (k := 40) (fuel := 40) (l := v3) (ks := spK) gs_lt' (by kernel_rfl) (by unfold Alike; kernel_rfl) (by kernel_rfl) (by kernel_rfl) (by kernel_rfl)
theorem sp_42 (W B : Nat → Nat) (w0 : World) (Q : Exit → Act → World → Prop) : Tri Tryz.prog E 80 spB (At gs 80 w0 (spF 42) ⟨spH W B,p63⟩) (Exit.then (At gs 80 w0 (spF 43) ⟨spH (upN W 42 (spV 42 W B)) B,p63⟩) Q) :=
 Tri.stepV okA (k := 40) (fuel := 40) (l := v3) (ks := spK) gs_lt' (by kernel_rfl) (by unfold Alike; kernel_rfl) (by kernel_rfl) (by kernel_rfl) (by kernel_rfl)
theorem sp_43 (W B : Nat → Nat) (w0 : World) (Q : Exit → Act → World → Prop) : Tri Tryz.prog E 80 spB (At gs 80 w0 (spF 43) ⟨spH W B,p63⟩) (Exit.then (At gs 80 w0 (spF 44) ⟨spH (upN W 43 (spV 43 W B)) B,p63⟩) Q) :=
 Tri.stepV okA (k := 40) (fuel := 40) (l := v3) (ks := spK) gs_lt' (by kernel_rfl) (by unfold Alike; kernel_rfl) (by kernel_rfl) (by kernel_rfl) (by kernel_rfl)
theorem sp_44 (W B : Nat → Nat) (w0 : World) (Q : Exit → Act → World → Prop) : Tri Tryz.prog E 80 spB (At gs 80 w0 (spF 44) ⟨spH W B,p63⟩) (Exit.then (At gs 80 w0 (spF 45) ⟨spH (upN W 44 (spV 44 W B)) B,p63⟩) Q) :=
 Tri.stepV okA (k := 40) (fuel := 40) (l := v3) (ks := spK) gs_lt' (by kernel_rfl) (by unfold Alike; kernel_rfl) (by kernel_rfl) (by kernel_rfl) (by kernel_rfl)
theorem sp_45 (W B : Nat → Nat) (w0 : World) (Q : Exit → Act → World → Prop) : Tri Tryz.prog E 80 spB (At gs 80 w0 (spF 45) ⟨spH W B,p63⟩) (Exit.then (At gs 80 w0 (spF 46) ⟨spH (upN W 45 (spV 45 W B)) B,p63⟩) Q) :=
 Tri.stepV okA (k := 40) (fuel := 40) (l := v3) (ks := spK) gs_lt' (by kernel_rfl) (by unfold Alike; kernel_rfl) (by kernel_rfl) (by kernel_rfl) (by kernel_rfl)
theorem sp_46 (W B : Nat → Nat) (w0 : World) (Q : Exit → Act → World → Prop) : Tri Tryz.prog E 80 spB (At gs 80 w0 (spF 46) ⟨spH W B,p63⟩) (Exit.then (At gs 80 w0 (spF 47) ⟨spH (upN W 46 (spV 46 W B)) B,p63⟩) Q) :=
 Tri.stepV okA (k := 40) (fuel := 40) (l := v3) (ks := spK) gs_lt' (by kernel_rfl) (by unfold Alike; kernel_rfl) (by kernel_rfl) (by kernel_rfl) (by kernel_rfl)
theorem sp_47 (W B : Nat → Nat) (w0 : World) (Q : Exit → Act → World → Prop) : Tri Tryz.prog E 80 spB (At gs 80 w0 (spF 47) ⟨spH W B,p63⟩) (Exit.then (At gs 80 w0 (spF 48) ⟨spH (upN W 47 (spV 47 W B)) B,p63⟩) Q) :=
 Tri.stepV okA (k := 40) (fuel := 40) (l := v3) (ks := spK) gs_lt' (by kernel_rfl) (by unfold Alike; kernel_rfl) (by kernel_rfl) (by kernel_rfl) (by kernel_rfl)
theorem sp_48 (W B : Nat → Nat) (w0 : World) (Q : Exit → Act → World → Prop) : Tri Tryz.prog E 80 spB (At gs 80 w0 (spF 48) ⟨spH W B,p63⟩) (Exit.then (At gs 80 w0 (spF 49) ⟨spH (upN W 48 (spV 48 W B)) B,p63⟩) Q) :=
 Tri.stepV okA (k := 40) (fuel := 40) (l := v3) (ks := spK) gs_lt' (by kernel_rfl) (by unfold Alike; kernel_rfl) (by kernel_rfl) (by kernel_rfl) (by kernel_rfl)
theorem sp_49 (W B : Nat → Nat) (w0 : World) (Q : Exit → Act → World → Prop) : Tri Tryz.prog E 80 spB (At gs 80 w0 (spF 49) ⟨spH W B,p63⟩) (Exit.then (At gs 80 w0 (spF 50) ⟨spH (upN W 49 (spV 49 W B)) B,p63⟩) Q) :=
 Tri.stepV okA (k := 40) (fuel := 40) (l := v3) (ks := spK) gs_lt' (by kernel_rfl) (by unfold Alike; kernel_rfl) (by kernel_rfl) (by kernel_rfl) (by kernel_rfl)
theorem sp_50 (W B : Nat → Nat) (w0 : World) (Q : Exit → Act → World → Prop) : Tri Tryz.prog E 80 spB (At gs 80 w0 (spF 50) ⟨spH W B,p63⟩) (Exit.then (At gs 80 w0 (spF 51) ⟨spH (upN W 50 (spV 50 W B)) B,p63⟩) Q) :=
 Tri.stepV okA (k := 40) (fuel := 40) (l := v3) (ks := spK) gs_lt' (by kernel_rfl) (by unfold Alike; kernel_rfl) (by kernel_rfl) (by kernel_rfl) (by kernel_rfl)
theorem sp_51 (W B : Nat → Nat) (w0 : World) (Q : Exit → Act → World → Prop) : Tri Tryz.prog E 80 spB (At gs 80 w0 (spF 51) ⟨spH W B,p63⟩) (Exit.then (At gs 80 w0 (spF 52) ⟨spH (upN W 51 (spV 51 W B)) B,p63⟩) Q) :=
 Tri.stepV okA (k := 40) (fuel := 40) (l := v3) (ks := spK) gs_lt' (by kernel_rfl) (by unfold Alike; kernel_rfl) (by kernel_rfl) (by kernel_rfl) (by kernel_rfl)
theorem sp_52 (W B : Nat → Nat) (w0 : World) (Q : Exit → Act → World → Prop) : Tri Tryz.prog E 80 spB (At gs 80 w0 (spF 52) ⟨spH W B,p63⟩) (Exit.then (At gs 80 w0 (spF 53) ⟨spH (upN W 52 (spV 52 W B)) B,p63⟩) Q) :=
 Tri.stepV okA (k := 40) (fuel := 40) (l := v3) (ks := spK) gs_lt' (by kernel_rfl) (by unfold Alike; kernel_rfl) (by kernel_rfl) (by kernel_rfl) (by kernel_rfl)
theorem sp_53 (W B : Nat → Nat) (w0 : World) (Q : Exit → Act → World → Prop) : Tri Tryz.prog E 80 spB (At gs 80 w0 (spF 53) ⟨spH W B,p63⟩) (Exit.then (At gs 80 w0 (spF 54) ⟨spH (upN W 53 (spV 53 W B)) B,p63⟩) Q) :=
 Tri.stepV okA (k := 40) (fuel := 40) (l := v3) (ks := spK) gs_lt' (by kernel_rfl) (by unfold Alike; kernel_rfl) (by kernel_rfl) (by kernel_rfl) (by kernel_rfl)
theorem sp_54 (W B : Nat → Nat) (w0 : World) (Q : Exit → Act → World → Prop) : Tri Tryz.prog E 80 spB (At gs 80 w0 (spF 54) ⟨spH W B,p63⟩) (Exit.then (At gs 80 w0 (spF 55) ⟨spH (upN W 54 (spV 54 W B)) B,p63⟩) Q) :=
 Tri.stepV okA (k := 40) (fuel := 40) (l := v3) (ks := spK) gs_lt' (by kernel_rfl) (by unfold Alike; kernel_rfl) (by kernel_rfl) (by kernel_rfl) (by kernel_rfl)
theorem sp_55 (W B : Nat → Nat) (w0 : World) (Q : Exit → Act → World → Prop) : Tri Tryz.prog E 80 spB (At gs 80 w0 (spF 55) ⟨spH W B,p63⟩) (Exit.then (At gs 80 w0 (spF 56) ⟨spH (upN W 55 (spV 55 W B)) B,p63⟩) Q) :=
 Tri.stepV okA (k := 40) (fuel := 40) (l := v3) (ks := spK) gs_lt' (by kernel_rfl) (by unfold Alike; kernel_rfl) (by kernel_rfl) (by kernel_rfl) (by kernel_rfl)
theorem sp_56 (W B : Nat → Nat) (w0 : World) (Q : Exit → Act → World → Prop) : Tri Tryz.prog E 80 spB (At gs 80 w0 (spF 56) ⟨spH W B,p63⟩) (Exit.then (At gs 80 w0 (spF 57) ⟨spH (upN W 56 (spV 56 W B)) B,p63⟩) Q) :=
 Tri.stepV okA (k := 40) (fuel := 40) (l := v3) (ks := spK) gs_lt' (by kernel_rfl) (by unfold Alike; kernel_rfl) (by kernel_rfl) (by kernel_rfl) (by kernel_rfl)
theorem sp_57 (W B : Nat → Nat) (w0 : World) (Q : Exit → Act → World → Prop) : Tri Tryz.prog E 80 spB (At gs 80 w0 (spF 57) ⟨spH W B,p63⟩) (Exit.then (At gs 80 w0 (spF 58) ⟨spH (upN W 57 (spV 57 W B)) B,p63⟩) Q) :=
 Tri.stepV okA (k := 40) (fuel := 40) (l := v3) (ks := spK) gs_lt' (by kernel_rfl) (by unfold Alike; kernel_rfl) (by kernel_rfl) (by kernel_rfl) (by kernel_rfl)
theorem sp_58 (W B : Nat → Nat) (w0 : World) (Q : Exit → Act → World → Prop) : Tri Tryz.prog E 80 spB (At gs 80 w0 (spF 58) ⟨spH W B,p63⟩) (Exit.then (At gs 80 w0 (spF 59) ⟨spH (upN W 58 (spV 58 W B)) B,p63⟩) Q) :=
 Tri.stepV okA (k := 40) (fuel := 40) (l := v3) (ks := spK) gs_lt' (by kernel_rfl) (by unfold Alike; kernel_rfl) (by kernel_rfl) (by kernel_rfl) (by kernel_rfl)
theorem sp_59 (W B : Nat → Nat) (w0 : World) (Q : Exit → Act → World → Prop) : Tri Tryz.prog E 80 spB (At gs 80 w0 (spF 59) ⟨spH W B,p63⟩) (Exit.then (At gs 80 w0 (spF 60) ⟨spH (upN W 59 (spV 59 W B)) B,p63⟩) Q) :=
 Tri.stepV okA (k := 40) (fuel := 40) (l := v3) (ks := spK) gs_lt' (by kernel_rfl) (by unfold Alike; kernel_rfl) (by kernel_rfl) (by kernel_rfl) (by kernel_rfl)
theorem sp_60 (W B : Nat → Nat) (w0 : World) (Q : Exit → Act → World → Prop) : Tri Tryz.prog E 80 spB (At gs 80 w0 (spF 60) ⟨spH W B,p63⟩) (Exit.then (At gs 80 w0 (spF 61) ⟨spH (upN W 60 (spV 60 W B)) B,p63⟩) Q) :=
 Tri.stepV okA (k := 40) (fuel := 40) (l := v3) (ks := spK) gs_lt' (by kernel_rfl) (by unfold Alike; kernel_rfl) (by kernel_rfl) (by kernel_rfl) (by kernel_rfl)
theorem sp_61 (W B : Nat → Nat) (w0 : World) (Q : Exit → Act → World → Prop) : Tri Tryz.prog E 80 spB (At gs 80 w0 (spF 61) ⟨spH W B,p63⟩) (Exit.then (At gs 80 w0 (spF 62) ⟨spH (upN W 61 (spV 61 W B)) B,p63⟩) Q) :=
 Tri.stepV okA (k := 40) (fuel := 40) (l := v3) (ks := spK) gs_lt' (by kernel_rfl) (by unfold Alike; kernel_rfl) (by kernel_rfl) (by kernel_rfl) (by kernel_rfl)
theorem sp_62 (W B : Nat → Nat) (w0 : World) (Q : Exit → Act → World → Prop) : Tri Tryz.prog E 80 spB (At gs 80 w0 (spF 62) ⟨spH W B,p63⟩) (Exit.then (At gs 80 w0 (spF 63) ⟨spH (upN W 62 (spV 62 W B)) B,p63⟩) Q) :=
 Tri.stepV okA (k := 40) (fuel := 40) (l := v3) (ks := spK) gs_lt' (by kernel_rfl) (by unfold Alike; kernel_rfl) (by kernel_rfl) (by kernel_rfl) (by kernel_rfl)
theorem sp_63 (W B : Nat → Nat) (w0 : World) (Q : Exit → Act → World → Prop) : Tri Tryz.prog E 80 spB (At gs 80 w0 (spF 63) ⟨spH W B,p63⟩) (Exit.then (At gs 80 w0 (spF 64) ⟨spH (upN W 63 (spV 63 W B)) B,p63⟩) Q) :=
 Tri.stepV okA (k := 40) (fuel := 40) (l := v3) (ks := spK) gs_lt' (by kernel_rfl) (by unfold Alike; kernel_rfl) (by kernel_rfl) (by kernel_rfl) (by kernel_rfl)
theorem sp_all (W B : Nat → Nat) (w0 : World) (Q : Exit → Act → World → Prop) : ∀ t,t < 64 → Tri Tryz.prog E 80 spB (At gs 80 w0 (spF t) ⟨spH W B,p63⟩) (Exit.then (At gs 80 w0 (spF (t + 1)) ⟨spH (upN W t (spV t W B)) B,p63⟩) Q)
 | 0,_ => sp_0 W B w0 Q
 | 1,_ => sp_1 W B w0 Q
 | 2,_ => sp_2 W B w0 Q
 | 3,_ => sp_3 W B w0 Q
 | 4,_ => sp_4 W B w0 Q
 | 5,_ => sp_5 W B w0 Q
 | 6,_ => sp_6 W B w0 Q
 | 7,_ => sp_7 W B w0 Q
 | 8,_ => sp_8 W B w0 Q
 | 9,_ => sp_9 W B w0 Q
 | 10,_ => sp_10 W B w0 Q
 | 11,_ => sp_11 W B w0 Q
 | 12,_ => sp_12 W B w0 Q
 | 13,_ => sp_13 W B w0 Q
 | 14,_ => sp_14 W B w0 Q
 | 15,_ => sp_15 W B w0 Q
 | 16,_ => sp_16 W B w0 Q
 | 17,_ => sp_17 W B w0 Q
 | 18,_ => sp_18 W B w0 Q
 | 19,_ => sp_19 W B w0 Q
 | 20,_ => sp_20 W B w0 Q
 | 21,_ => sp_21 W B w0 Q
 | 22,_ => sp_22 W B w0 Q
 | 23,_ => sp_23 W B w0 Q
 | 24,_ => sp_24 W B w0 Q
 | 25,_ => sp_25 W B w0 Q
 | 26,_ => sp_26 W B w0 Q
 | 27,_ => sp_27 W B w0 Q
 | 28,_ => sp_28 W B w0 Q
 | 29,_ => sp_29 W B w0 Q
 | 30,_ => sp_30 W B w0 Q
 | 31,_ => sp_31 W B w0 Q
 | 32,_ => sp_32 W B w0 Q
 | 33,_ => sp_33 W B w0 Q
 | 34,_ => sp_34 W B w0 Q
 | 35,_ => sp_35 W B w0 Q
 | 36,_ => sp_36 W B w0 Q
 | 37,_ => sp_37 W B w0 Q
 | 38,_ => sp_38 W B w0 Q
 | 39,_ => sp_39 W B w0 Q
 | 40,_ => sp_40 W B w0 Q
 | 41,_ => sp_41 W B w0 Q
 | 42,_ => sp_42 W B w0 Q
 | 43,_ => sp_43 W B w0 Q
 | 44,_ => sp_44 W B w0 Q
 | 45,_ => sp_45 W B w0 Q
 | 46,_ => sp_46 W B w0 Q
 | 47,_ => sp_47 W B w0 Q
 | 48,_ => sp_48 W B w0 Q
 | 49,_ => sp_49 W B w0 Q
 | 50,_ => sp_50 W B w0 Q
 | 51,_ => sp_51 W B w0 Q
 | 52,_ => sp_52 W B w0 Q
 | 53,_ => sp_53 W B w0 Q
 | 54,_ => sp_54 W B w0 Q
 | 55,_ => sp_55 W B w0 Q
 | 56,_ => sp_56 W B w0 Q
 | 57,_ => sp_57 W B w0 Q
 | 58,_ => sp_58 W B w0 Q
 | 59,_ => sp_59 W B w0 Q
 | 60,_ => sp_60 W B w0 Q
 | 61,_ => sp_61 W B w0 Q
 | 62,_ => sp_62 W B w0 Q
 | 63,_ => sp_63 W B w0 Q
 | t + 64,h => by omega
theorem sp_last (W B : Nat → Nat) (w0 : World) (Q : Exit → Act → World → Prop) : Tri Tryz.prog E 80 spB (At gs 80 w0 (spF 64) ⟨spH W B,p63⟩) (Exit.then (fun _ _ => False) (Exit.inBlock 0 (Exit.then (At gs 80 w0 (spF 64) ⟨spH W B,p63⟩) Q))) :=
 Tri.lastV okA (k := 40) (fuel := 40) (l := v3) (ks := spK) gs_lt' (by kernel_rfl) (by unfold Alike; kernel_rfl) (by kernel_rfl) (by kernel_rfl) (by kernel_rfl) (fun _ _ h => h)
theorem spV_eq (t : Nat) (B : Nat → Nat) : spV t (wAt B t) B = Bool.rec (motive := fun _ => Nat) (wnext (wAt B t (t - 2)) (wAt B t (t - 7)) (wAt B t (t - 15)) (wAt B t (t - 16))) (be B t) (Nat.blt t 16) := rfl
theorem sp_loop (B : Nat → Nat) (w0 : World) (Q : Exit → Act → World → Prop) : Tri Tryz.prog E 80 (.blk 0 (.loop spB)) (At gs 80 w0 (spF 0) ⟨spH (wAt B 0) B,p63⟩) (Exit.then (At gs 80 w0 (spF 64) ⟨spH (wAt B 64) B,p63⟩) Q) :=
 Tri.blk (Tri.loop (I := fun t => At gs 80 w0 (spF t) ⟨spH (wAt B t) B,p63⟩) 64
  (fun t ht => by
   have h := sp_all (wAt B t) B w0 (Exit.inBlock 0 (Exit.then (At gs 80 w0 (spF 64) ⟨spH (wAt B 64) B,p63⟩) Q)) t ht
   rw [wAt_succ B t (spV_eq t B)] at h
   exact h)
  (sp_last (wAt B 64) B w0 Q))
noncomputable def A00 : T V := frameOf [.slice p60 0 64 none 1] .H .nil
noncomputable def g0 (B : Nat → Nat) := xr machA 40 40 sp0 A00 ⟨bH B,p61⟩
theorem g0_x (B : Nat → Nat) : isX .nrm (g0 B) = true := by kernel_rfl
theorem g0_c (B : Nat → Nat) : Alike (rC (g0 B)) := by unfold Alike; kernel_rfl
noncomputable def g1 (B : Nat → Nat) := xr machA 40 40 sp1 (rA (g0 B)) (rS (g0 B))
theorem g1_x (B : Nat → Nat) : isX .nrm (g1 B) = true := by kernel_rfl
theorem g1_c (B : Nat → Nat) : Alike (rC (g1 B)) := by unfold Alike; kernel_rfl
noncomputable def spO (B : Nat → Nat) : V := .agg (w32 (wAt B 64) ix64)
theorem sp_shape : spI = .seq sp0 (.seq sp1 (.seq (.seq sp2 (.blk 0 (.loop spB))) spT)) := by kernel_rfl
theorem sp_tri (B : Nat → Nat) (w0 : World) : Tri Tryz.prog E 80 spI (At gs 80 w0 A00 ⟨bH B,p61⟩) (fun e a' w' => e = .ret ∧ ∃ A' σ',At gs 80 w0 A' σ' a' w' ∧ resF (resI f151) A' σ' = some [spO B]) := by
 rw [sp_shape]
 refine Tri.seq (J := At gs 80 w0 (rA (g0 B)) (rS (g0 B))) (Tri.runX okA (g0_x B) (g0_c B) (fun a w h => h)) ?_
 refine Tri.seq (J := At gs 80 w0 (rA (g1 B)) (rS (g1 B))) (Tri.runX okA (g1_x B) (g1_c B) (fun a w h => h)) ?_
 refine Tri.seq (J := At gs 80 w0 (spF 64) ⟨spH (wAt B 64) B,p63⟩) ?_ ?_
 ·refine Tri.seq (J := At gs 80 w0 (spF 0) ⟨spH (wAt B 0) B,p63⟩) ?_ (sp_loop B w0 _)
  exact Tri.stepV okA (k := 40) (fuel := 40) (l := v3) (ks := spK) gs_lt' (by kernel_rfl) (by unfold Alike; kernel_rfl) (by kernel_rfl) (by kernel_rfl) (by kernel_rfl)
 ·exact Tri.retV okA (k := 40) (fuel := 40) (by kernel_rfl) (by unfold Alike; kernel_rfl) (by kernel_rfl)
end Go.Proofs.YtldidldbhngmnaaGreatDoor.Ir
namespace Go.Proofs.YtldidldbhngmnaaGreatDoor.Ir
set_option maxRecDepth 100000
open Go Go.Proofs.YtldidldbhngmnaaGreatDoor
noncomputable def natU8 (v : V) : Option Nat := match v with | .int k n => (match k with | .u8 => natOf n | _ => none) | _ => none
noncomputable def natU32 (v : V) : Option Nat := match v with | .int k n => (match k with | .u32 => natOf n | _ => none) | _ => none
noncomputable def natsF (f : V → Option Nat) (l : List V) : Option (List Nat) := List.rec (motive := fun _ => Option (List Nat)) (some []) (fun v _ ih => match f v with | some n => (match ih with | some r => some (n :: r) | none => none) | none => none) l
theorem natsF_eq (f : V → Option Nat) (g : Nat → V) (hf : ∀ v n,f v = some n → v = g n) : ∀ {l : List V} {m : List Nat},natsF f l = some m → l = lmap g m
 | [],m,h => by cases h; rfl
 | v :: l,m,h => by
  have h : (match f v with | some n => (match natsF f l with | some r => some (n :: r) | none => none) | none => none) = some m := h
  split at h
  ·rename_i n hn
   split at h
   ·rename_i r hr
    cases h
    show _ = g n :: lmap g r
    rw [hf v n hn,natsF_eq f g hf hr]
   ·cases h
  ·cases h
theorem natOf_eq {i : Int} {n : Nat} (h : natOf i = some n) : i = .ofNat n := by cases i with | ofNat m => cases h; rfl | negSucc m => cases h
theorem natU8_eq (v : V) (n : Nat) (h : natU8 v = some n) : v = .int .u8 (.ofNat n) := by
 cases v <;> try (cases h; done)
 rename_i k i
 cases k <;> try (cases h; done)
 have h : natOf i = some n := h
 rw [natOf_eq h]
theorem natU32_eq (v : V) (n : Nat) (h : natU32 v = some n) : v = .int .u32 (.ofNat n) := by
 cases v <;> try (cases h; done)
 rename_i k i
 cases k <;> try (cases h; done)
 have h : natOf i = some n := h
 rw [natOf_eq h]
noncomputable def sliceB (σ : St) (p : Pos) (o n : Nat) : Option (List Nat) := match T.get p σ.h with
 | some (.cells L _ _ _) => (match natsF natU8 (ltake (ldrop L o) n) with | some bl => (match Nat.beq (llen bl) n with | true => some bl | false => none) | none => none)
 | _ => none
theorem sliceB_eq {σ : St} {p : Pos} {o n : Nat} {bl : List Nat} (h : sliceB σ p o n = some bl) : ∃ L kin fz ro,T.get p σ.h = some (.cells L kin fz ro) ∧ (L.drop o).take n = bs bl ∧ bl.length = n := by
 unfold sliceB at h
 split at h
 ·rename_i L kin fz ro hp
  split at h
  ·rename_i m hm
   split at h
   ·rename_i hl
    cases h
    have hl := Nat.eq_of_beq_eq_true hl
    rw [llen_eq] at hl
    refine ⟨L,kin,fz,ro,hp,?_,hl⟩
    have := natsF_eq natU8 (fun n => V.int .u8 (.ofNat n)) natU8_eq hm
    rw [ltake_eq,ldrop_eq] at this
    exact this
   ·cases h
  ·cases h
 ·cases h
theorem bs_len (l : List Nat) : (bs l).length = l.length := by unfold bs; rw [lmap_eq,List.length_map]
theorem ix64_get : ∀ j,j < 64 → ix64[j]? = some j := fun j hj => by
 have hall : (List.range 64).all (fun j => decide (ix64[j]? = some j)) = true := by decide +kernel
 exact of_decide_eq_true (List.all_eq_true.1 hall j (List.mem_range.2 hj))
noncomputable def lookN (n : Nat) (t : List (Nat × Nat)) : Option Nat := List.rec (motive := fun _ => Option Nat) none (fun x _ ih => Bool.rec (motive := fun _ => Option Nat) ih (some x.2) (Nat.beq x.1 n)) t
noncomputable def shSpec (t : List (Nat × Nat)) (z : Option V) (vs : List V) (σ : St) : Option (V × St) := match vs with
 | [.slice p o n _ 1] => (match lookN n t with | some nb => (match sliceB σ p o n with | some bl => some (.agg (bs (shaQ n nb bl)),σ) | none => none) | none => none)
 | [.nils] => (match z with | some v => some (v,σ) | none => none)
 | _ => none
theorem shSpec_inv {t : List (Nat × Nat)} {z : Option V} {vs : List V} {σ σ' : St} {v : V} (h : shSpec t z vs σ = some (v,σ')) : (∃ p o n cap nb bl,vs = [.slice p o n cap 1] ∧ lookN n t = some nb ∧ sliceB σ p o n = some bl ∧ v = .agg (bs (shaQ n nb bl)) ∧ σ' = σ) ∨ (vs = [.nils] ∧ ∃ v0,z = some v0 ∧ v = v0 ∧ σ' = σ) := by
 unfold shSpec at h
 split at h
 ·rename_i p o n cap
  split at h
  ·rename_i nb h1
   split at h
   ·rename_i bl h2
    cases h
    exact .inl ⟨p,o,n,cap,nb,bl,rfl,h1,h2,rfl,rfl⟩
   ·cases h
  ·cases h
 ·split at h
  ·rename_i v0 h0
   cases h
   exact .inr ⟨rfl,_,rfl,rfl,rfl⟩
  ·cases h
 ·cases h
theorem bs_b8 {bl : List Nat} (h : bl.length = 64) : bs bl = b8 (getN bl) ix64 := by
 unfold bs b8
 rw [lmap_eq,lmap_eq]
 refine List.ext_getElem (by simp [h,ix64]) (fun i h1 h2 => ?_)
 simp only [List.getElem_map]
 have hi : i < 64 := by simpa [h] using h1
 have e : ∀ j,j < 64 → ix64[j]? = some j := fun j hj => by
  have hall : (List.range 64).all (fun j => decide (ix64[j]? = some j)) = true := by decide +kernel
  exact of_decide_eq_true (List.all_eq_true.1 hall j (List.mem_range.2 hj))
 have e1 : ix64[i]'(by simpa [ix64] using hi) = i := by
  have := e i hi
  rw [List.getElem?_eq_getElem (by simpa [ix64] using hi)] at this
  exact Option.some.inj this
 rw [e1,getN_eq (List.getElem?_eq_getElem (by rw [h]; exact hi))]
noncomputable def spSpec (vs : List V) (σ : St) : Option (V × St) := match vs with
 | [.slice p o n _ 1] => (match Nat.beq n 64 with | true => (match sliceB σ p o 64 with | some bl => some (spO (getN bl),σ) | none => none) | false => none)
 | _ => none
theorem w32_bare (W : Nat → Nat) (l : List Nat) : ∀ x ∈ w32 W l,Bare x := by
 intro x hx
 unfold w32 at hx
 rw [lmap_eq,List.mem_map] at hx
 obtain ⟨n,_,rfl⟩ := hx
 exact bare_int _ _
theorem bH_ro (B : Nat → Nat) : ∀ p o,T.get p (bH B) = some o → o.wr = false := by
 intro p o h
 unfold bH at h
 rw [T.get_set] at h
 split at h
 ·cases h; rfl
 ·rw [T.get_nil] at h; cases h
theorem spread_ok {vs : List V} {σ : St} {v : V} {σ' : St} (h : spSpec vs σ = some (v,σ')) {ι : Nm} {w : World} {args : Array Value} (hG : Gl gs ι) (R : Rep ι σ w) (hv : VRs ι vs args.toList) : Calls Tryz.prog (p151.nat - 1) args w (Post ι σ w v σ') := by
 unfold spSpec at h
 split at h
 ·rename_i p o n cap
  split at h
  ·rename_i hn
   have hn := Nat.eq_of_beq_eq_true hn
   subst hn
   split at h
   ·rename_i bl hb
    cases h
    obtain ⟨L,kin,fz,ro,h1,h2,h3⟩ := sliceB_eq hb
    obtain ⟨l⟩ := args
    have hl : 1 = l.length := hv.1
    match l,hl,hv with
    | [y],_,hv =>
     obtain ⟨ι2,G2,R2,V2⟩ := win_view (q := p60) hG R gs_lt' (by omega) (by rw [bs_len,h3]) (bs_bare bl) h1 h2 hv.head
     rw [bs_b8 h3] at R2
     exact fn_pure okA (f := p151) (nt := 80) (body := spI) (res := resI f151) (vs2 := [.slice p60 0 64 none 1]) (s2 := ⟨bH (getN bl),p61⟩) (by kernel_rfl) (by decide) (bare_agg (w32_bare _ _)) R G2 R2 (bH_ro _) (.cons V2 .nil) (sp_tri (getN bl) w)
   ·cases h
  ·cases h
 ·cases h
noncomputable def specM (s : Nat) : List V → St → Option (V × St) := match s with | 5 => spSpec | _ => fun _ _ => none
noncomputable def machM : Mach := ⟨T.set (.spec 5) p151 tabA,specM,E.pt,[]⟩
theorem tabM_is : TabIs E machM.tab := TabIs.set (t := tabA) (e := .spec 5) (p := p151) (tabIs_of tabA_ok) (by decide +kernel)
theorem okM : MOk Tryz.prog E machM (okD E) := mok_of2 rfl mtA mixed tabM_is (fun f s h vs σ v σ' hs ι w args hG R hv => by
 have h : T.get f (T.set (.spec 5) p151 tabA) = some (.spec s) := h
 rw [T.get_set] at h
 split at h
 ·rename_i e; cases h; subst e; exact spread_ok hs hG R hv
 ·exact absurd h (noSpec_get tabA_no f s))
noncomputable def h8V (x : H8) : List V := H8.rec (motive := fun _ => List V) (fun a b c d e f g h => [.int .u32 (.ofNat a),.int .u32 (.ofNat b),.int .u32 (.ofNat c),.int .u32 (.ofNat d),.int .u32 (.ofNat e),.int .u32 (.ofNat f),.int .u32 (.ofNat g),.int .u32 (.ofNat h)]) x
noncomputable def mxI : IR := bodyI f103
noncomputable def mx0 : IR := fstI mxI
noncomputable def mx1 : IR := fstI (sndI mxI)
noncomputable def mx2 : IR := fstI (sndI (sndI mxI))
noncomputable def mxL : IR := fstI (sndI (sndI (sndI mxI)))
noncomputable def mx3 : IR := fstI mxL
noncomputable def mxB : IR := lopI (blkI (sndI mxL))
noncomputable def mxT : IR := sndI (sndI (sndI (sndI mxI)))
noncomputable def mxF (t : Nat) : T V := T.set (.ptr p61 0) p2 (T.set (.ptr p62 0) p4 (T.set (.ptr p63 0) p5 (T.set (.ptr p64 0) p6 (T.set (.ptr p65 0) p7 (T.set (.int .i64 (.ofNat t)) p18 .nil)))))
noncomputable def mxH (S X : H8) (W : Nat → Nat) : T Ob := T.set (.cells (h8V S) [] false false) p61 (T.set (.cells (zz (.int .u32 (.ofNat 0)) 8) [] false false) p62 (T.set (.cells (w32 W ix64) [] false false) p63 (T.set (.cells (w32 (getN kW) ix64) [] false false) p64 (T.set (.cells (h8V X) [] false false) p65 .nil))))
noncomputable def mxK : List Pos := [p2,p4,p5,p6,p7,p18]
noncomputable def v5 : Vw := [(p61,p61),(p62,p62),(p63,p63),(p64,p64),(p65,p65)]
noncomputable def mxA (S : H8) : T V := frameOf [.agg (h8V S),.slice p60 0 64 none 1] .H .nil
theorem mx_0 (S X : H8) (W : Nat → Nat) (w0 : World) (Q : Exit → Act → World → Prop) : Tri Tryz.prog E 111 mxB (At gs 111 w0 (mxF 0) ⟨mxH S X W,p66⟩) (Exit.then (At gs 111 w0 (mxF 1) ⟨mxH S (rnd (getN kW 0) (W 0) X) W,p66⟩) Q) :=
 Tri.stepV okM (k := 40) (fuel := 40) (l := v5) (ks := mxK) gs_lt' (by kernel_rfl) (by unfold Alike; kernel_rfl) (by kernel_rfl) (by kernel_rfl) (by kernel_rfl)
theorem mx_1 (S X : H8) (W : Nat → Nat) (w0 : World) (Q : Exit → Act → World → Prop) : Tri Tryz.prog E 111 mxB (At gs 111 w0 (mxF 1) ⟨mxH S X W,p66⟩) (Exit.then (At gs 111 w0 (mxF 2) ⟨mxH S (rnd (getN kW 1) (W 1) X) W,p66⟩) Q) :=
 Tri.stepV okM (k := 40) (fuel := 40) (l := v5) (ks := mxK) gs_lt' (by kernel_rfl) (by unfold Alike; kernel_rfl) (by kernel_rfl) (by kernel_rfl) (by kernel_rfl)
theorem mx_2 (S X : H8) (W : Nat → Nat) (w0 : World) (Q : Exit → Act → World → Prop) : Tri Tryz.prog E 111 mxB (At gs 111 w0 (mxF 2) ⟨mxH S X W,p66⟩) (Exit.then (At gs 111 w0 (mxF 3) ⟨mxH S (rnd (getN kW 2) (W 2) X) W,p66⟩) Q) :=
 Tri.stepV okM (k := 40) (fuel := 40) (l := v5) (ks := mxK) gs_lt' (by kernel_rfl) (by unfold Alike; kernel_rfl) (by kernel_rfl) (by kernel_rfl) (by kernel_rfl)
theorem mx_3 (S X : H8) (W : Nat → Nat) (w0 : World) (Q : Exit → Act → World → Prop) : Tri Tryz.prog E 111 mxB (At gs 111 w0 (mxF 3) ⟨mxH S X W,p66⟩) (Exit.then (At gs 111 w0 (mxF 4) ⟨mxH S (rnd (getN kW 3) (W 3) X) W,p66⟩) Q) :=
 Tri.stepV okM (k := 40) (fuel := 40) (l := v5) (ks := mxK) gs_lt' (by kernel_rfl) (by unfold Alike; kernel_rfl) (by kernel_rfl) (by kernel_rfl) (by kernel_rfl)
theorem mx_4 (S X : H8) (W : Nat → Nat) (w0 : World) (Q : Exit → Act → World → Prop) : Tri Tryz.prog E 111 mxB (At gs 111 w0 (mxF 4) ⟨mxH S X W,p66⟩) (Exit.then (At gs 111 w0 (mxF 5) ⟨mxH S (rnd (getN kW 4) (W 4) X) W,p66⟩) Q) :=
 Tri.stepV okM (k := 40) (fuel := 40) (l := v5) (ks := mxK) gs_lt' (by kernel_rfl) (by unfold Alike; kernel_rfl) (by kernel_rfl) (by kernel_rfl) (by kernel_rfl)
theorem mx_5 (S X : H8) (W : Nat → Nat) (w0 : World) (Q : Exit → Act → World → Prop) : Tri Tryz.prog E 111 mxB (At gs 111 w0 (mxF 5) ⟨mxH S X W,p66⟩) (Exit.then (At gs 111 w0 (mxF 6) ⟨mxH S (rnd (getN kW 5) (W 5) X) W,p66⟩) Q) :=
 Tri.stepV okM (k := 40) (fuel := 40) (l := v5) (ks := mxK) gs_lt' (by kernel_rfl) (by unfold Alike; kernel_rfl) (by kernel_rfl) (by kernel_rfl) (by kernel_rfl)
theorem mx_6 (S X : H8) (W : Nat → Nat) (w0 : World) (Q : Exit → Act → World → Prop) : Tri Tryz.prog E 111 mxB (At gs 111 w0 (mxF 6) ⟨mxH S X W,p66⟩) (Exit.then (At gs 111 w0 (mxF 7) ⟨mxH S (rnd (getN kW 6) (W 6) X) W,p66⟩) Q) :=
 Tri.stepV okM (k := 40) (fuel := 40) (l := v5) (ks := mxK) gs_lt' (by kernel_rfl) (by unfold Alike; kernel_rfl) (by kernel_rfl) (by kernel_rfl) (by kernel_rfl)
theorem mx_7 (S X : H8) (W : Nat → Nat) (w0 : World) (Q : Exit → Act → World → Prop) : Tri Tryz.prog E 111 mxB (At gs 111 w0 (mxF 7) ⟨mxH S X W,p66⟩) (Exit.then (At gs 111 w0 (mxF 8) ⟨mxH S (rnd (getN kW 7) (W 7) X) W,p66⟩) Q) :=
 Tri.stepV okM (k := 40) (fuel := 40) (l := v5) (ks := mxK) gs_lt' (by kernel_rfl) (by unfold Alike; kernel_rfl) (by kernel_rfl) (by kernel_rfl) (by kernel_rfl)
theorem mx_8 (S X : H8) (W : Nat → Nat) (w0 : World) (Q : Exit → Act → World → Prop) : Tri Tryz.prog E 111 mxB (At gs 111 w0 (mxF 8) ⟨mxH S X W,p66⟩) (Exit.then (At gs 111 w0 (mxF 9) ⟨mxH S (rnd (getN kW 8) (W 8) X) W,p66⟩) Q) :=
 Tri.stepV okM (k := 40) (fuel := 40) (l := v5) (ks := mxK) gs_lt' (by kernel_rfl) (by unfold Alike; kernel_rfl) (by kernel_rfl) (by kernel_rfl) (by kernel_rfl)
theorem mx_9 (S X : H8) (W : Nat → Nat) (w0 : World) (Q : Exit → Act → World → Prop) : Tri Tryz.prog E 111 mxB (At gs 111 w0 (mxF 9) ⟨mxH S X W,p66⟩) (Exit.then (At gs 111 w0 (mxF 10) ⟨mxH S (rnd (getN kW 9) (W 9) X) W,p66⟩) Q) :=
 Tri.stepV okM (k := 40) (fuel := 40) (l := v5) (ks := mxK) gs_lt' (by kernel_rfl) (by unfold Alike; kernel_rfl) (by kernel_rfl) (by kernel_rfl) (by kernel_rfl)
theorem mx_10 (S X : H8) (W : Nat → Nat) (w0 : World) (Q : Exit → Act → World → Prop) : Tri Tryz.prog E 111 mxB (At gs 111 w0 (mxF 10) ⟨mxH S X W,p66⟩) (Exit.then (At gs 111 w0 (mxF 11) ⟨mxH S (rnd (getN kW 10) (W 10) X) W,p66⟩) Q) :=
 Tri.stepV okM (k := 40) (fuel := 40) (l := v5) (ks := mxK) gs_lt' (by kernel_rfl) (by unfold Alike; kernel_rfl) (by kernel_rfl) (by kernel_rfl) (by kernel_rfl)
theorem mx_11 (S X : H8) (W : Nat → Nat) (w0 : World) (Q : Exit → Act → World → Prop) : Tri Tryz.prog E 111 mxB (At gs 111 w0 (mxF 11) ⟨mxH S X W,p66⟩) (Exit.then (At gs 111 w0 (mxF 12) ⟨mxH S (rnd (getN kW 11) (W 11) X) W,p66⟩) Q) :=
 Tri.stepV okM (k := 40) (fuel := 40) (l := v5) (ks := mxK) gs_lt' (by kernel_rfl) (by unfold Alike; kernel_rfl) (by kernel_rfl) (by kernel_rfl) (by kernel_rfl)
theorem mx_12 (S X : H8) (W : Nat → Nat) (w0 : World) (Q : Exit → Act → World → Prop) : Tri Tryz.prog E 111 mxB (At gs 111 w0 (mxF 12) ⟨mxH S X W,p66⟩) (Exit.then (At gs 111 w0 (mxF 13) ⟨mxH S (rnd (getN kW 12) (W 12) X) W,p66⟩) Q) :=
 Tri.stepV okM (k := 40) (fuel := 40) (l := v5) (ks := mxK) gs_lt' (by kernel_rfl) (by unfold Alike; kernel_rfl) (by kernel_rfl) (by kernel_rfl) (by kernel_rfl)
theorem mx_13 (S X : H8) (W : Nat → Nat) (w0 : World) (Q : Exit → Act → World → Prop) : Tri Tryz.prog E 111 mxB (At gs 111 w0 (mxF 13) ⟨mxH S X W,p66⟩) (Exit.then (At gs 111 w0 (mxF 14) ⟨mxH S (rnd (getN kW 13) (W 13) X) W,p66⟩) Q) :=
 Tri.stepV okM (k := 40) (fuel := 40) (l := v5) (ks := mxK) gs_lt' (by kernel_rfl) (by unfold Alike; kernel_rfl) (by kernel_rfl) (by kernel_rfl) (by kernel_rfl)
theorem mx_14 (S X : H8) (W : Nat → Nat) (w0 : World) (Q : Exit → Act → World → Prop) : Tri Tryz.prog E 111 mxB (At gs 111 w0 (mxF 14) ⟨mxH S X W,p66⟩) (Exit.then (At gs 111 w0 (mxF 15) ⟨mxH S (rnd (getN kW 14) (W 14) X) W,p66⟩) Q) :=
 Tri.stepV okM (k := 40) (fuel := 40) (l := v5) (ks := mxK) gs_lt' (by kernel_rfl) (by unfold Alike; kernel_rfl) (by kernel_rfl) (by kernel_rfl) (by kernel_rfl)
theorem mx_15 (S X : H8) (W : Nat → Nat) (w0 : World) (Q : Exit → Act → World → Prop) : Tri Tryz.prog E 111 mxB (At gs 111 w0 (mxF 15) ⟨mxH S X W,p66⟩) (Exit.then (At gs 111 w0 (mxF 16) ⟨mxH S (rnd (getN kW 15) (W 15) X) W,p66⟩) Q) :=
 Tri.stepV okM (k := 40) (fuel := 40) (l := v5) (ks := mxK) gs_lt' (by kernel_rfl) (by unfold Alike; kernel_rfl) (by kernel_rfl) (by kernel_rfl) (by kernel_rfl)
theorem mx_16 (S X : H8) (W : Nat → Nat) (w0 : World) (Q : Exit → Act → World → Prop) : Tri Tryz.prog E 111 mxB (At gs 111 w0 (mxF 16) ⟨mxH S X W,p66⟩) (Exit.then (At gs 111 w0 (mxF 17) ⟨mxH S (rnd (getN kW 16) (W 16) X) W,p66⟩) Q) :=
 Tri.stepV okM (k := 40) (fuel := 40) (l := v5) (ks := mxK) gs_lt' (by kernel_rfl) (by unfold Alike; kernel_rfl) (by kernel_rfl) (by kernel_rfl) (by kernel_rfl)
theorem mx_17 (S X : H8) (W : Nat → Nat) (w0 : World) (Q : Exit → Act → World → Prop) : Tri Tryz.prog E 111 mxB (At gs 111 w0 (mxF 17) ⟨mxH S X W,p66⟩) (Exit.then (At gs 111 w0 (mxF 18) ⟨mxH S (rnd (getN kW 17) (W 17) X) W,p66⟩) Q) :=
 Tri.stepV okM (k := 40) (fuel := 40) (l := v5) (ks := mxK) gs_lt' (by kernel_rfl) (by unfold Alike; kernel_rfl) (by kernel_rfl) (by kernel_rfl) (by kernel_rfl)
theorem mx_18 (S X : H8) (W : Nat → Nat) (w0 : World) (Q : Exit → Act → World → Prop) : Tri Tryz.prog E 111 mxB (At gs 111 w0 (mxF 18) ⟨mxH S X W,p66⟩) (Exit.then (At gs 111 w0 (mxF 19) ⟨mxH S (rnd (getN kW 18) (W 18) X) W,p66⟩) Q) :=
 Tri.stepV okM (k := 40) (fuel := 40) (l := v5) (ks := mxK) gs_lt' (by kernel_rfl) (by unfold Alike; kernel_rfl) (by kernel_rfl) (by kernel_rfl) (by kernel_rfl)
theorem mx_19 (S X : H8) (W : Nat → Nat) (w0 : World) (Q : Exit → Act → World → Prop) : Tri Tryz.prog E 111 mxB (At gs 111 w0 (mxF 19) ⟨mxH S X W,p66⟩) (Exit.then (At gs 111 w0 (mxF 20) ⟨mxH S (rnd (getN kW 19) (W 19) X) W,p66⟩) Q) :=
 Tri.stepV okM (k := 40) (fuel := 40) (l := v5) (ks := mxK) gs_lt' (by kernel_rfl) (by unfold Alike; kernel_rfl) (by kernel_rfl) (by kernel_rfl) (by kernel_rfl)
theorem mx_20 (S X : H8) (W : Nat → Nat) (w0 : World) (Q : Exit → Act → World → Prop) : Tri Tryz.prog E 111 mxB (At gs 111 w0 (mxF 20) ⟨mxH S X W,p66⟩) (Exit.then (At gs 111 w0 (mxF 21) ⟨mxH S (rnd (getN kW 20) (W 20) X) W,p66⟩) Q) :=
 Tri.stepV okM (k := 40) (fuel := 40) (l := v5) (ks := mxK) gs_lt' (by kernel_rfl) (by unfold Alike; kernel_rfl) (by kernel_rfl) (by kernel_rfl) (by kernel_rfl)
theorem mx_21 (S X : H8) (W : Nat → Nat) (w0 : World) (Q : Exit → Act → World → Prop) : Tri Tryz.prog E 111 mxB (At gs 111 w0 (mxF 21) ⟨mxH S X W,p66⟩) (Exit.then (At gs 111 w0 (mxF 22) ⟨mxH S (rnd (getN kW 21) (W 21) X) W,p66⟩) Q) :=
 Tri.stepV okM (k := 40) (fuel := 40) (l := v5) (ks := mxK) gs_lt' (by kernel_rfl) (by unfold Alike; kernel_rfl) (by kernel_rfl) (by kernel_rfl) (by kernel_rfl)
theorem mx_22 (S X : H8) (W : Nat → Nat) (w0 : World) (Q : Exit → Act → World → Prop) : Tri Tryz.prog E 111 mxB (At gs 111 w0 (mxF 22) ⟨mxH S X W,p66⟩) (Exit.then (At gs 111 w0 (mxF 23) ⟨mxH S (rnd (getN kW 22) (W 22) X) W,p66⟩) Q) :=
 Tri.stepV okM (k := 40) (fuel := 40) (l := v5) (ks := mxK) gs_lt' (by kernel_rfl) (by unfold Alike; kernel_rfl) (by kernel_rfl) (by kernel_rfl) (by kernel_rfl)
theorem mx_23 (S X : H8) (W : Nat → Nat) (w0 : World) (Q : Exit → Act → World → Prop) : Tri Tryz.prog E 111 mxB (At gs 111 w0 (mxF 23) ⟨mxH S X W,p66⟩) (Exit.then (At gs 111 w0 (mxF 24) ⟨mxH S (rnd (getN kW 23) (W 23) X) W,p66⟩) Q) :=
 Tri.stepV okM (k := 40) (fuel := 40) (l := v5) (ks := mxK) gs_lt' (by kernel_rfl) (by unfold Alike; kernel_rfl) (by kernel_rfl) (by kernel_rfl) (by kernel_rfl)
theorem mx_24 (S X : H8) (W : Nat → Nat) (w0 : World) (Q : Exit → Act → World → Prop) : Tri Tryz.prog E 111 mxB (At gs 111 w0 (mxF 24) ⟨mxH S X W,p66⟩) (Exit.then (At gs 111 w0 (mxF 25) ⟨mxH S (rnd (getN kW 24) (W 24) X) W,p66⟩) Q) :=
 Tri.stepV okM (k := 40) (fuel := 40) (l := v5) (ks := mxK) gs_lt' (by kernel_rfl) (by unfold Alike; kernel_rfl) (by kernel_rfl) (by kernel_rfl) (by kernel_rfl)
theorem mx_25 (S X : H8) (W : Nat → Nat) (w0 : World) (Q : Exit → Act → World → Prop) : Tri Tryz.prog E 111 mxB (At gs 111 w0 (mxF 25) ⟨mxH S X W,p66⟩) (Exit.then (At gs 111 w0 (mxF 26) ⟨mxH S (rnd (getN kW 25) (W 25) X) W,p66⟩) Q) :=
 Tri.stepV okM (k := 40) (fuel := 40) (l := v5) (ks := mxK) gs_lt' (by kernel_rfl) (by unfold Alike; kernel_rfl) (by kernel_rfl) (by kernel_rfl) (by kernel_rfl)
theorem mx_26 (S X : H8) (W : Nat → Nat) (w0 : World) (Q : Exit → Act → World → Prop) : Tri Tryz.prog E 111 mxB (At gs 111 w0 (mxF 26) ⟨mxH S X W,p66⟩) (Exit.then (At gs 111 w0 (mxF 27) ⟨mxH S (rnd (getN kW 26) (W 26) X) W,p66⟩) Q) :=
 Tri.stepV okM (k := 40) (fuel := 40) (l := v5) (ks := mxK) gs_lt' (by kernel_rfl) (by unfold Alike; kernel_rfl) (by kernel_rfl) (by kernel_rfl) (by kernel_rfl)
theorem mx_27 (S X : H8) (W : Nat → Nat) (w0 : World) (Q : Exit → Act → World → Prop) : Tri Tryz.prog E 111 mxB (At gs 111 w0 (mxF 27) ⟨mxH S X W,p66⟩) (Exit.then (At gs 111 w0 (mxF 28) ⟨mxH S (rnd (getN kW 27) (W 27) X) W,p66⟩) Q) :=
 Tri.stepV okM (k := 40) (fuel := 40) (l := v5) (ks := mxK) gs_lt' (by kernel_rfl) (by unfold Alike; kernel_rfl) (by kernel_rfl) (by kernel_rfl) (by kernel_rfl)
theorem mx_28 (S X : H8) (W : Nat → Nat) (w0 : World) (Q : Exit → Act → World → Prop) : Tri Tryz.prog E 111 mxB (At gs 111 w0 (mxF 28) ⟨mxH S X W,p66⟩) (Exit.then (At gs 111 w0 (mxF 29) ⟨mxH S (rnd (getN kW 28) (W 28) X) W,p66⟩) Q) :=
 Tri.stepV okM (k := 40) (fuel := 40) (l := v5) (ks := mxK) gs_lt' (by kernel_rfl) (by unfold Alike; kernel_rfl) (by kernel_rfl) (by kernel_rfl) (by kernel_rfl)
theorem mx_29 (S X : H8) (W : Nat → Nat) (w0 : World) (Q : Exit → Act → World → Prop) : Tri Tryz.prog E 111 mxB (At gs 111 w0 (mxF 29) ⟨mxH S X W,p66⟩) (Exit.then (At gs 111 w0 (mxF 30) ⟨mxH S (rnd (getN kW 29) (W 29) X) W,p66⟩) Q) :=
 Tri.stepV okM (k := 40) (fuel := 40) (l := v5) (ks := mxK) gs_lt' (by kernel_rfl) (by unfold Alike; kernel_rfl) (by kernel_rfl) (by kernel_rfl) (by kernel_rfl)
theorem mx_30 (S X : H8) (W : Nat → Nat) (w0 : World) (Q : Exit → Act → World → Prop) : Tri Tryz.prog E 111 mxB (At gs 111 w0 (mxF 30) ⟨mxH S X W,p66⟩) (Exit.then (At gs 111 w0 (mxF 31) ⟨mxH S (rnd (getN kW 30) (W 30) X) W,p66⟩) Q) :=
 Tri.stepV okM (k := 40) (fuel := 40) (l := v5) (ks := mxK) gs_lt' (by kernel_rfl) (by unfold Alike; kernel_rfl) (by kernel_rfl) (by kernel_rfl) (by kernel_rfl)
theorem mx_31 (S X : H8) (W : Nat → Nat) (w0 : World) (Q : Exit → Act → World → Prop) : Tri Tryz.prog E 111 mxB (At gs 111 w0 (mxF 31) ⟨mxH S X W,p66⟩) (Exit.then (At gs 111 w0 (mxF 32) ⟨mxH S (rnd (getN kW 31) (W 31) X) W,p66⟩) Q) :=
 Tri.stepV okM (k := 40) (fuel := 40) (l := v5) (ks := mxK) gs_lt' (by kernel_rfl) (by unfold Alike; kernel_rfl) (by kernel_rfl) (by kernel_rfl) (by kernel_rfl)
theorem mx_32 (S X : H8) (W : Nat → Nat) (w0 : World) (Q : Exit → Act → World → Prop) : Tri Tryz.prog E 111 mxB (At gs 111 w0 (mxF 32) ⟨mxH S X W,p66⟩) (Exit.then (At gs 111 w0 (mxF 33) ⟨mxH S (rnd (getN kW 32) (W 32) X) W,p66⟩) Q) :=
 Tri.stepV okM (k := 40) (fuel := 40) (l := v5) (ks := mxK) gs_lt' (by kernel_rfl) (by unfold Alike; kernel_rfl) (by kernel_rfl) (by kernel_rfl) (by kernel_rfl)
theorem mx_33 (S X : H8) (W : Nat → Nat) (w0 : World) (Q : Exit → Act → World → Prop) : Tri Tryz.prog E 111 mxB (At gs 111 w0 (mxF 33) ⟨mxH S X W,p66⟩) (Exit.then (At gs 111 w0 (mxF 34) ⟨mxH S (rnd (getN kW 33) (W 33) X) W,p66⟩) Q) :=
 Tri.stepV okM (k := 40) (fuel := 40) (l := v5) (ks := mxK) gs_lt' (by kernel_rfl) (by unfold Alike; kernel_rfl) (by kernel_rfl) (by kernel_rfl) (by kernel_rfl)
theorem mx_34 (S X : H8) (W : Nat → Nat) (w0 : World) (Q : Exit → Act → World → Prop) : Tri Tryz.prog E 111 mxB (At gs 111 w0 (mxF 34) ⟨mxH S X W,p66⟩) (Exit.then (At gs 111 w0 (mxF 35) ⟨mxH S (rnd (getN kW 34) (W 34) X) W,p66⟩) Q) :=
 Tri.stepV okM (k := 40) (fuel := 40) (l := v5) (ks := mxK) gs_lt' (by kernel_rfl) (by unfold Alike; kernel_rfl) (by kernel_rfl) (by kernel_rfl) (by kernel_rfl)
theorem mx_35 (S X : H8) (W : Nat → Nat) (w0 : World) (Q : Exit → Act → World → Prop) : Tri Tryz.prog E 111 mxB (At gs 111 w0 (mxF 35) ⟨mxH S X W,p66⟩) (Exit.then (At gs 111 w0 (mxF 36) ⟨mxH S (rnd (getN kW 35) (W 35) X) W,p66⟩) Q) :=
 Tri.stepV okM (k := 40) (fuel := 40) (l := v5) (ks := mxK) gs_lt' (by kernel_rfl) (by unfold Alike; kernel_rfl) (by kernel_rfl) (by kernel_rfl) (by kernel_rfl)
theorem mx_36 (S X : H8) (W : Nat → Nat) (w0 : World) (Q : Exit → Act → World → Prop) : Tri Tryz.prog E 111 mxB (At gs 111 w0 (mxF 36) ⟨mxH S X W,p66⟩) (Exit.then (At gs 111 w0 (mxF 37) ⟨mxH S (rnd (getN kW 36) (W 36) X) W,p66⟩) Q) :=
 Tri.stepV okM (k := 40) (fuel := 40) (l := v5) (ks := mxK) gs_lt' (by kernel_rfl) (by unfold Alike; kernel_rfl) (by kernel_rfl) (by kernel_rfl) (by kernel_rfl)
theorem mx_37 (S X : H8) (W : Nat → Nat) (w0 : World) (Q : Exit → Act → World → Prop) : Tri Tryz.prog E 111 mxB (At gs 111 w0 (mxF 37) ⟨mxH S X W,p66⟩) (Exit.then (At gs 111 w0 (mxF 38) ⟨mxH S (rnd (getN kW 37) (W 37) X) W,p66⟩) Q) :=
 Tri.stepV okM (k := 40) (fuel := 40) (l := v5) (ks := mxK) gs_lt' (by kernel_rfl) (by unfold Alike; kernel_rfl) (by kernel_rfl) (by kernel_rfl) (by kernel_rfl)
theorem mx_38 (S X : H8) (W : Nat → Nat) (w0 : World) (Q : Exit → Act → World → Prop) : Tri Tryz.prog E 111 mxB (At gs 111 w0 (mxF 38) ⟨mxH S X W,p66⟩) (Exit.then (At gs 111 w0 (mxF 39) ⟨mxH S (rnd (getN kW 38) (W 38) X) W,p66⟩) Q) :=
 Tri.stepV okM (k := 40) (fuel := 40) (l := v5) (ks := mxK) gs_lt' (by kernel_rfl) (by unfold Alike; kernel_rfl) (by kernel_rfl) (by kernel_rfl) (by kernel_rfl)
theorem mx_39 (S X : H8) (W : Nat → Nat) (w0 : World) (Q : Exit → Act → World → Prop) : Tri Tryz.prog E 111 mxB (At gs 111 w0 (mxF 39) ⟨mxH S X W,p66⟩) (Exit.then (At gs 111 w0 (mxF 40) ⟨mxH S (rnd (getN kW 39) (W 39) X) W,p66⟩) Q) :=
 Tri.stepV okM (k := 40) (fuel := 40) (l := v5) (ks := mxK) gs_lt' (by kernel_rfl) (by unfold Alike; kernel_rfl) (by kernel_rfl) (by kernel_rfl) (by kernel_rfl)
theorem mx_40 (S X : H8) (W : Nat → Nat) (w0 : World) (Q : Exit → Act → World → Prop) : Tri Tryz.prog E 111 mxB (At gs 111 w0 (mxF 40) ⟨mxH S X W,p66⟩) (Exit.then (At gs 111 w0 (mxF 41) ⟨mxH S (rnd (getN kW 40) (W 40) X) W,p66⟩) Q) :=
 Tri.stepV okM (k := 40) (fuel := 40) (l := v5) (ks := mxK) gs_lt' (by kernel_rfl) (by unfold Alike; kernel_rfl) (by kernel_rfl) (by kernel_rfl) (by kernel_rfl)
theorem mx_41 (S X : H8) (W : Nat → Nat) (w0 : World) (Q : Exit → Act → World → Prop) : Tri Tryz.prog E 111 mxB (At gs 111 w0 (mxF 41) ⟨mxH S X W,p66⟩) (Exit.then (At gs 111 w0 (mxF 42) ⟨mxH S (rnd (getN kW 41) (W 41) X) W,p66⟩) Q) :=
 Tri.stepV okM (k := 40) (fuel := 40) (l := v5) (ks := mxK) gs_lt' (by kernel_rfl) (by unfold Alike; kernel_rfl) (by kernel_rfl) (by kernel_rfl) (by kernel_rfl)
theorem mx_42 (S X : H8) (W : Nat → Nat) (w0 : World) (Q : Exit → Act → World → Prop) : Tri Tryz.prog E 111 mxB (At gs 111 w0 (mxF 42) ⟨mxH S X W,p66⟩) (Exit.then (At gs 111 w0 (mxF 43) ⟨mxH S (rnd (getN kW 42) (W 42) X) W,p66⟩) Q) :=
 Tri.stepV okM (k := 40) (fuel := 40) (l := v5) (ks := mxK) gs_lt' (by kernel_rfl) (by unfold Alike; kernel_rfl) (by kernel_rfl) (by kernel_rfl) (by kernel_rfl)
theorem mx_43 (S X : H8) (W : Nat → Nat) (w0 : World) (Q : Exit → Act → World → Prop) : Tri Tryz.prog E 111 mxB (At gs 111 w0 (mxF 43) ⟨mxH S X W,p66⟩) (Exit.then (At gs 111 w0 (mxF 44) ⟨mxH S (rnd (getN kW 43) (W 43) X) W,p66⟩) Q) :=
 Tri.stepV okM (k := 40) (fuel := 40) (l := v5) (ks := mxK) gs_lt' (by kernel_rfl) (by unfold Alike; kernel_rfl) (by kernel_rfl) (by kernel_rfl) (by kernel_rfl)
theorem mx_44 (S X : H8) (W : Nat → Nat) (w0 : World) (Q : Exit → Act → World → Prop) : Tri Tryz.prog E 111 mxB (At gs 111 w0 (mxF 44) ⟨mxH S X W,p66⟩) (Exit.then (At gs 111 w0 (mxF 45) ⟨mxH S (rnd (getN kW 44) (W 44) X) W,p66⟩) Q) :=
 Tri.stepV okM (k := 40) (fuel := 40) (l := v5) (ks := mxK) gs_lt' (by kernel_rfl) (by unfold Alike; kernel_rfl) (by kernel_rfl) (by kernel_rfl) (by kernel_rfl)
theorem mx_45 (S X : H8) (W : Nat → Nat) (w0 : World) (Q : Exit → Act → World → Prop) : Tri Tryz.prog E 111 mxB (At gs 111 w0 (mxF 45) ⟨mxH S X W,p66⟩) (Exit.then (At gs 111 w0 (mxF 46) ⟨mxH S (rnd (getN kW 45) (W 45) X) W,p66⟩) Q) :=
 Tri.stepV okM (k := 40) (fuel := 40) (l := v5) (ks := mxK) gs_lt' (by kernel_rfl) (by unfold Alike; kernel_rfl) (by kernel_rfl) (by kernel_rfl) (by kernel_rfl)
theorem mx_46 (S X : H8) (W : Nat → Nat) (w0 : World) (Q : Exit → Act → World → Prop) : Tri Tryz.prog E 111 mxB (At gs 111 w0 (mxF 46) ⟨mxH S X W,p66⟩) (Exit.then (At gs 111 w0 (mxF 47) ⟨mxH S (rnd (getN kW 46) (W 46) X) W,p66⟩) Q) :=
 Tri.stepV okM (k := 40) (fuel := 40) (l := v5) (ks := mxK) gs_lt' (by kernel_rfl) (by unfold Alike; kernel_rfl) (by kernel_rfl) (by kernel_rfl) (by kernel_rfl)
theorem mx_47 (S X : H8) (W : Nat → Nat) (w0 : World) (Q : Exit → Act → World → Prop) : Tri Tryz.prog E 111 mxB (At gs 111 w0 (mxF 47) ⟨mxH S X W,p66⟩) (Exit.then (At gs 111 w0 (mxF 48) ⟨mxH S (rnd (getN kW 47) (W 47) X) W,p66⟩) Q) :=
 Tri.stepV okM (k := 40) (fuel := 40) (l := v5) (ks := mxK) gs_lt' (by kernel_rfl) (by unfold Alike; kernel_rfl) (by kernel_rfl) (by kernel_rfl) (by kernel_rfl)
theorem mx_48 (S X : H8) (W : Nat → Nat) (w0 : World) (Q : Exit → Act → World → Prop) : Tri Tryz.prog E 111 mxB (At gs 111 w0 (mxF 48) ⟨mxH S X W,p66⟩) (Exit.then (At gs 111 w0 (mxF 49) ⟨mxH S (rnd (getN kW 48) (W 48) X) W,p66⟩) Q) :=
 Tri.stepV okM (k := 40) (fuel := 40) (l := v5) (ks := mxK) gs_lt' (by kernel_rfl) (by unfold Alike; kernel_rfl) (by kernel_rfl) (by kernel_rfl) (by kernel_rfl)
theorem mx_49 (S X : H8) (W : Nat → Nat) (w0 : World) (Q : Exit → Act → World → Prop) : Tri Tryz.prog E 111 mxB (At gs 111 w0 (mxF 49) ⟨mxH S X W,p66⟩) (Exit.then (At gs 111 w0 (mxF 50) ⟨mxH S (rnd (getN kW 49) (W 49) X) W,p66⟩) Q) :=
 Tri.stepV okM (k := 40) (fuel := 40) (l := v5) (ks := mxK) gs_lt' (by kernel_rfl) (by unfold Alike; kernel_rfl) (by kernel_rfl) (by kernel_rfl) (by kernel_rfl)
theorem mx_50 (S X : H8) (W : Nat → Nat) (w0 : World) (Q : Exit → Act → World → Prop) : Tri Tryz.prog E 111 mxB (At gs 111 w0 (mxF 50) ⟨mxH S X W,p66⟩) (Exit.then (At gs 111 w0 (mxF 51) ⟨mxH S (rnd (getN kW 50) (W 50) X) W,p66⟩) Q) :=
 Tri.stepV okM (k := 40) (fuel := 40) (l := v5) (ks := mxK) gs_lt' (by kernel_rfl) (by unfold Alike; kernel_rfl) (by kernel_rfl) (by kernel_rfl) (by kernel_rfl)
theorem mx_51 (S X : H8) (W : Nat → Nat) (w0 : World) (Q : Exit → Act → World → Prop) : Tri Tryz.prog E 111 mxB (At gs 111 w0 (mxF 51) ⟨mxH S X W,p66⟩) (Exit.then (At gs 111 w0 (mxF 52) ⟨mxH S (rnd (getN kW 51) (W 51) X) W,p66⟩) Q) :=
 Tri.stepV okM (k := 40) (fuel := 40) (l := v5) (ks := mxK) gs_lt' (by kernel_rfl) (by unfold Alike; kernel_rfl) (by kernel_rfl) (by kernel_rfl) (by kernel_rfl)
theorem mx_52 (S X : H8) (W : Nat → Nat) (w0 : World) (Q : Exit → Act → World → Prop) : Tri Tryz.prog E 111 mxB (At gs 111 w0 (mxF 52) ⟨mxH S X W,p66⟩) (Exit.then (At gs 111 w0 (mxF 53) ⟨mxH S (rnd (getN kW 52) (W 52) X) W,p66⟩) Q) :=
 Tri.stepV okM (k := 40) (fuel := 40) (l := v5) (ks := mxK) gs_lt' (by kernel_rfl) (by unfold Alike; kernel_rfl) (by kernel_rfl) (by kernel_rfl) (by kernel_rfl)
theorem mx_53 (S X : H8) (W : Nat → Nat) (w0 : World) (Q : Exit → Act → World → Prop) : Tri Tryz.prog E 111 mxB (At gs 111 w0 (mxF 53) ⟨mxH S X W,p66⟩) (Exit.then (At gs 111 w0 (mxF 54) ⟨mxH S (rnd (getN kW 53) (W 53) X) W,p66⟩) Q) :=
 Tri.stepV okM (k := 40) (fuel := 40) (l := v5) (ks := mxK) gs_lt' (by kernel_rfl) (by unfold Alike; kernel_rfl) (by kernel_rfl) (by kernel_rfl) (by kernel_rfl)
theorem mx_54 (S X : H8) (W : Nat → Nat) (w0 : World) (Q : Exit → Act → World → Prop) : Tri Tryz.prog E 111 mxB (At gs 111 w0 (mxF 54) ⟨mxH S X W,p66⟩) (Exit.then (At gs 111 w0 (mxF 55) ⟨mxH S (rnd (getN kW 54) (W 54) X) W,p66⟩) Q) :=
 Tri.stepV okM (k := 40) (fuel := 40) (l := v5) (ks := mxK) gs_lt' (by kernel_rfl) (by unfold Alike; kernel_rfl) (by kernel_rfl) (by kernel_rfl) (by kernel_rfl)
theorem mx_55 (S X : H8) (W : Nat → Nat) (w0 : World) (Q : Exit → Act → World → Prop) : Tri Tryz.prog E 111 mxB (At gs 111 w0 (mxF 55) ⟨mxH S X W,p66⟩) (Exit.then (At gs 111 w0 (mxF 56) ⟨mxH S (rnd (getN kW 55) (W 55) X) W,p66⟩) Q) :=
 Tri.stepV okM (k := 40) (fuel := 40) (l := v5) (ks := mxK) gs_lt' (by kernel_rfl) (by unfold Alike; kernel_rfl) (by kernel_rfl) (by kernel_rfl) (by kernel_rfl)
theorem mx_56 (S X : H8) (W : Nat → Nat) (w0 : World) (Q : Exit → Act → World → Prop) : Tri Tryz.prog E 111 mxB (At gs 111 w0 (mxF 56) ⟨mxH S X W,p66⟩) (Exit.then (At gs 111 w0 (mxF 57) ⟨mxH S (rnd (getN kW 56) (W 56) X) W,p66⟩) Q) :=
 Tri.stepV okM (k := 40) (fuel := 40) (l := v5) (ks := mxK) gs_lt' (by kernel_rfl) (by unfold Alike; kernel_rfl) (by kernel_rfl) (by kernel_rfl) (by kernel_rfl)
theorem mx_57 (S X : H8) (W : Nat → Nat) (w0 : World) (Q : Exit → Act → World → Prop) : Tri Tryz.prog E 111 mxB (At gs 111 w0 (mxF 57) ⟨mxH S X W,p66⟩) (Exit.then (At gs 111 w0 (mxF 58) ⟨mxH S (rnd (getN kW 57) (W 57) X) W,p66⟩) Q) :=
 Tri.stepV okM (k := 40) (fuel := 40) (l := v5) (ks := mxK) gs_lt' (by kernel_rfl) (by unfold Alike; kernel_rfl) (by kernel_rfl) (by kernel_rfl) (by kernel_rfl)
theorem mx_58 (S X : H8) (W : Nat → Nat) (w0 : World) (Q : Exit → Act → World → Prop) : Tri Tryz.prog E 111 mxB (At gs 111 w0 (mxF 58) ⟨mxH S X W,p66⟩) (Exit.then (At gs 111 w0 (mxF 59) ⟨mxH S (rnd (getN kW 58) (W 58) X) W,p66⟩) Q) :=
 Tri.stepV okM (k := 40) (fuel := 40) (l := v5) (ks := mxK) gs_lt' (by kernel_rfl) (by unfold Alike; kernel_rfl) (by kernel_rfl) (by kernel_rfl) (by kernel_rfl)
theorem mx_59 (S X : H8) (W : Nat → Nat) (w0 : World) (Q : Exit → Act → World → Prop) : Tri Tryz.prog E 111 mxB (At gs 111 w0 (mxF 59) ⟨mxH S X W,p66⟩) (Exit.then (At gs 111 w0 (mxF 60) ⟨mxH S (rnd (getN kW 59) (W 59) X) W,p66⟩) Q) :=
 Tri.stepV okM (k := 40) (fuel := 40) (l := v5) (ks := mxK) gs_lt' (by kernel_rfl) (by unfold Alike; kernel_rfl) (by kernel_rfl) (by kernel_rfl) (by kernel_rfl)
theorem mx_60 (S X : H8) (W : Nat → Nat) (w0 : World) (Q : Exit → Act → World → Prop) : Tri Tryz.prog E 111 mxB (At gs 111 w0 (mxF 60) ⟨mxH S X W,p66⟩) (Exit.then (At gs 111 w0 (mxF 61) ⟨mxH S (rnd (getN kW 60) (W 60) X) W,p66⟩) Q) :=
 Tri.stepV okM (k := 40) (fuel := 40) (l := v5) (ks := mxK) gs_lt' (by kernel_rfl) (by unfold Alike; kernel_rfl) (by kernel_rfl) (by kernel_rfl) (by kernel_rfl)
theorem mx_61 (S X : H8) (W : Nat → Nat) (w0 : World) (Q : Exit → Act → World → Prop) : Tri Tryz.prog E 111 mxB (At gs 111 w0 (mxF 61) ⟨mxH S X W,p66⟩) (Exit.then (At gs 111 w0 (mxF 62) ⟨mxH S (rnd (getN kW 61) (W 61) X) W,p66⟩) Q) :=
 Tri.stepV okM (k := 40) (fuel := 40) (l := v5) (ks := mxK) gs_lt' (by kernel_rfl) (by unfold Alike; kernel_rfl) (by kernel_rfl) (by kernel_rfl) (by kernel_rfl)
theorem mx_62 (S X : H8) (W : Nat → Nat) (w0 : World) (Q : Exit → Act → World → Prop) : Tri Tryz.prog E 111 mxB (At gs 111 w0 (mxF 62) ⟨mxH S X W,p66⟩) (Exit.then (At gs 111 w0 (mxF 63) ⟨mxH S (rnd (getN kW 62) (W 62) X) W,p66⟩) Q) :=
 Tri.stepV okM (k := 40) (fuel := 40) (l := v5) (ks := mxK) gs_lt' (by kernel_rfl) (by unfold Alike; kernel_rfl) (by kernel_rfl) (by kernel_rfl) (by kernel_rfl)
theorem mx_63 (S X : H8) (W : Nat → Nat) (w0 : World) (Q : Exit → Act → World → Prop) : Tri Tryz.prog E 111 mxB (At gs 111 w0 (mxF 63) ⟨mxH S X W,p66⟩) (Exit.then (At gs 111 w0 (mxF 64) ⟨mxH S (rnd (getN kW 63) (W 63) X) W,p66⟩) Q) :=
 Tri.stepV okM (k := 40) (fuel := 40) (l := v5) (ks := mxK) gs_lt' (by kernel_rfl) (by unfold Alike; kernel_rfl) (by kernel_rfl) (by kernel_rfl) (by kernel_rfl)
theorem mx_all (S X : H8) (W : Nat → Nat) (w0 : World) (Q : Exit → Act → World → Prop) : ∀ t,t < 64 → Tri Tryz.prog E 111 mxB (At gs 111 w0 (mxF t) ⟨mxH S X W,p66⟩) (Exit.then (At gs 111 w0 (mxF (t + 1)) ⟨mxH S (rnd (getN kW t) (W t) X) W,p66⟩) Q)
 | 0,_ => mx_0 S X W w0 Q
 | 1,_ => mx_1 S X W w0 Q
 | 2,_ => mx_2 S X W w0 Q
 | 3,_ => mx_3 S X W w0 Q
 | 4,_ => mx_4 S X W w0 Q
 | 5,_ => mx_5 S X W w0 Q
 | 6,_ => mx_6 S X W w0 Q
 | 7,_ => mx_7 S X W w0 Q
 | 8,_ => mx_8 S X W w0 Q
 | 9,_ => mx_9 S X W w0 Q
 | 10,_ => mx_10 S X W w0 Q
 | 11,_ => mx_11 S X W w0 Q
 | 12,_ => mx_12 S X W w0 Q
 | 13,_ => mx_13 S X W w0 Q
 | 14,_ => mx_14 S X W w0 Q
 | 15,_ => mx_15 S X W w0 Q
 | 16,_ => mx_16 S X W w0 Q
 | 17,_ => mx_17 S X W w0 Q
 | 18,_ => mx_18 S X W w0 Q
 | 19,_ => mx_19 S X W w0 Q
 | 20,_ => mx_20 S X W w0 Q
 | 21,_ => mx_21 S X W w0 Q
 | 22,_ => mx_22 S X W w0 Q
 | 23,_ => mx_23 S X W w0 Q
 | 24,_ => mx_24 S X W w0 Q
 | 25,_ => mx_25 S X W w0 Q
 | 26,_ => mx_26 S X W w0 Q
 | 27,_ => mx_27 S X W w0 Q
 | 28,_ => mx_28 S X W w0 Q
 | 29,_ => mx_29 S X W w0 Q
 | 30,_ => mx_30 S X W w0 Q
 | 31,_ => mx_31 S X W w0 Q
 | 32,_ => mx_32 S X W w0 Q
 | 33,_ => mx_33 S X W w0 Q
 | 34,_ => mx_34 S X W w0 Q
 | 35,_ => mx_35 S X W w0 Q
 | 36,_ => mx_36 S X W w0 Q
 | 37,_ => mx_37 S X W w0 Q
 | 38,_ => mx_38 S X W w0 Q
 | 39,_ => mx_39 S X W w0 Q
 | 40,_ => mx_40 S X W w0 Q
 | 41,_ => mx_41 S X W w0 Q
 | 42,_ => mx_42 S X W w0 Q
 | 43,_ => mx_43 S X W w0 Q
 | 44,_ => mx_44 S X W w0 Q
 | 45,_ => mx_45 S X W w0 Q
 | 46,_ => mx_46 S X W w0 Q
 | 47,_ => mx_47 S X W w0 Q
 | 48,_ => mx_48 S X W w0 Q
 | 49,_ => mx_49 S X W w0 Q
 | 50,_ => mx_50 S X W w0 Q
 | 51,_ => mx_51 S X W w0 Q
 | 52,_ => mx_52 S X W w0 Q
 | 53,_ => mx_53 S X W w0 Q
 | 54,_ => mx_54 S X W w0 Q
 | 55,_ => mx_55 S X W w0 Q
 | 56,_ => mx_56 S X W w0 Q
 | 57,_ => mx_57 S X W w0 Q
 | 58,_ => mx_58 S X W w0 Q
 | 59,_ => mx_59 S X W w0 Q
 | 60,_ => mx_60 S X W w0 Q
 | 61,_ => mx_61 S X W w0 Q
 | 62,_ => mx_62 S X W w0 Q
 | 63,_ => mx_63 S X W w0 Q
 | t + 64,h => by omega
theorem mx_loop (S X : H8) (W : Nat → Nat) (w0 : World) (Q : Exit → Act → World → Prop) : Tri Tryz.prog E 111 (.blk 0 (.loop mxB)) (At gs 111 w0 (mxF 0) ⟨mxH S X W,p66⟩) (Exit.then (At gs 111 w0 (mxF 64) ⟨mxH S (rnds W X 64) W,p66⟩) Q) :=
 Tri.blk (Tri.loop (I := fun t => At gs 111 w0 (mxF t) ⟨mxH S (rnds W X t) W,p66⟩) 64
  (fun t ht => mx_all S (rnds W X t) W w0 _ t ht)
  (Tri.lastV okM (k := 40) (fuel := 40) (l := v5) (ks := mxK) gs_lt' (by kernel_rfl) (by unfold Alike; kernel_rfl) (by kernel_rfl) (by kernel_rfl) (by kernel_rfl) (fun _ _ h => h)))
noncomputable def z8 : H8 := ⟨0,0,0,0,0,0,0,0⟩
noncomputable def y0 (S : H8) (B : Nat → Nat) := xr machM 40 40 mx0 (mxA S) ⟨bH B,p61⟩
theorem y0_x (S : H8) (B : Nat → Nat) : isX .nrm (y0 S B) = true := by kernel_rfl
theorem y0_c (S : H8) (B : Nat → Nat) : Alike (rC (y0 S B)) := by unfold Alike; kernel_rfl
noncomputable def y1 (S : H8) (B : Nat → Nat) := xr machM 40 40 mx1 (rA (y0 S B)) (rS (y0 S B))
theorem y1_x (S : H8) (B : Nat → Nat) : isX .nrm (y1 S B) = true := by kernel_rfl
theorem y1_c (S : H8) (B : Nat → Nat) : Alike (rC (y1 S B)) := by unfold Alike; kernel_rfl
noncomputable def y2 (S : H8) (B : Nat → Nat) := xr machM 40 40 mx2 (rA (y1 S B)) (rS (y1 S B))
theorem y2_x (S : H8) (B : Nat → Nat) : isX .nrm (y2 S B) = true := by kernel_rfl
theorem y2_c (S : H8) (B : Nat → Nat) : Alike (rC (y2 S B)) := by unfold Alike; kernel_rfl
noncomputable def nmP (v : Option V) : Pos := match v with | some (.ptr p _) => p | _ => .H
noncomputable def v5b : Vw := [(p61,nmP (T.get p2 (rA (y2 z8 (fun _ => 0))))),(p62,nmP (T.get p4 (rA (y2 z8 (fun _ => 0))))),(p63,nmP (T.get p5 (rA (y2 z8 (fun _ => 0))))),(p64,nmP (T.get p6 (rA (y2 z8 (fun _ => 0))))),(p65,nmP (T.get p7 (rA (y2 z8 (fun _ => 0)))))]
theorem mx_shape : mxI = .seq mx0 (.seq mx1 (.seq mx2 (.seq (.seq mx3 (.blk 0 (.loop mxB))) mxT))) := by kernel_rfl
theorem mx_tri (S : H8) (B : Nat → Nat) (w0 : World) : Tri Tryz.prog E 111 mxI (At gs 111 w0 (mxA S) ⟨bH B,p61⟩) (fun e a' w' => e = .ret ∧ ∃ A' σ',At gs 111 w0 A' σ' a' w' ∧ resF (resI f103) A' σ' = some [.agg (h8V (mixF S (getN (lmap B ix64))))]) := by
 rw [mx_shape]
 refine Tri.seq (J := At gs 111 w0 (rA (y0 S B)) (rS (y0 S B))) (Tri.runX okM (y0_x S B) (y0_c S B) (fun a w h => h)) ?_
 refine Tri.seq (J := At gs 111 w0 (rA (y1 S B)) (rS (y1 S B))) (Tri.runX okM (y1_x S B) (y1_c S B) (fun a w h => h)) ?_
 refine Tri.seq (J := At gs 111 w0 (rA (y2 S B)) (rS (y2 S B))) (Tri.runX okM (y2_x S B) (y2_c S B) (fun a w h => h)) ?_
 refine Tri.seq (J := At gs 111 w0 (mxF 64) ⟨mxH S (rnds (wAt (getN (lmap B ix64)) 64) S 64) (wAt (getN (lmap B ix64)) 64),p66⟩) ?_ ?_
 ·refine Tri.seq (J := At gs 111 w0 (mxF 0) ⟨mxH S S (wAt (getN (lmap B ix64)) 64),p66⟩) ?_ (mx_loop S S _ w0 _)
  exact Tri.stepV okM (k := 40) (fuel := 40) (l := v5b) (ks := mxK) gs_lt' (by kernel_rfl) (by unfold Alike; kernel_rfl) (by kernel_rfl) (by kernel_rfl) (by kernel_rfl)
 ·exact Tri.retV okM (k := 40) (fuel := 40) (by kernel_rfl) (by unfold Alike; kernel_rfl) (by kernel_rfl)
end Go.Proofs.YtldidldbhngmnaaGreatDoor.Ir
