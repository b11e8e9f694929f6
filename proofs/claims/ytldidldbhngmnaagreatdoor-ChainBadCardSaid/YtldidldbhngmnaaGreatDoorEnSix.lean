/-
  Part of the proof, joined from several texts.
-/
import Derived.Test.YtldidldbhngmnaaGreatDoorEnFive
import Derived.Shelf.SlMaps.Clone
import Derived.Test.YtldidldbhngmnaaGreatDoorProg
import Derived.Test.YtldidldbhngmnaaGreatDoorEnFour
import Derived.Shelf.Spec.SlicesGrow
import Derived.Lib.SlBytesRow
import Derived.Test.YtldidldbhngmnaaGreatDoorEnThree
import Derived.Below
import Derived.Carry
import Derived.ChangeSame
import Derived.ProofKit
import Derived.OpenShut
import Derived.WideKeyArgs
set_option linter.unusedVariables false
set_option linter.unusedSimpArgs false
set_option linter.unusedSectionVars false
namespace Go.Proofs.YtldidldbhngmnaaGreatDoor.Hot
open Go Go.Proofs.YtldidldbhngmnaaGreatDoor
structure LG where
 bits : List Bool
 log : List (Bool × Bool)
 vs : List (V × V)
def Ob (L : LG) : Prop := (∀ x ∈ L.log,x.1 = x.2) ∧ ∀ x ∈ L.vs,x.1 = x.2
inductive RTo where
 | no | ok (v : V) (σ : St) (L : LG)
abbrev CFo := Pos → List V → St → LG → RTo
abbrev CXo := CFo → List Pos → FJ → St → LG → RTo
inductive RJo where
 | no | nrm (F : FJ) (σ : St) (L : LG) | ext (i : Nat) (F : FJ) (σ : St) (L : LG) | ret (F : FJ) (σ : St) (L : LG)
abbrev CRo := CFo → List Pos → FJ → St → LG → RJo
abbrev CJo := CFo → Nat → FJ → St → LG → RJo
def GoodC (call : CF) (co : CFo) : Prop := ∀ f vs σ L v σ' L',co f vs σ L = .ok v σ' L' → Ob L' → call f vs σ = some (v,σ') ∧ Ob L
noncomputable def toO (r : RT) (L : LG) : RTo := Option.rec (motive := fun _ => RTo) .no (Prod.rec (motive := fun _ => RTo) (fun v σ => .ok v σ L)) r
theorem toO_ok {r : RT} {L : LG} {v : V} {σ' : St} {L' : LG} (h : toO r L = .ok v σ' L') : r = some (v,σ') ∧ L' = L := by
 cases r with
 | none => cases h
 | some p => obtain ⟨a,b⟩ := p; cases h; exact ⟨rfl,rfl⟩
noncomputable def xO (pt : List Nat) (mt : List (Nat × String × Pos)) (x : XOp) : Bx CXo := XOp.rec (motive := fun _ => Bx CXo)
 (fun o => ub (qB pt o) fun q => ⟨fun call nms F σ L => Option.rec (motive := fun _ => St → LG → RTo) (fun _ _ => .no) (fun v σ L => .ok v σ L) (q F σ) σ L⟩)
 (fun o => ub (eB o) fun e => ⟨fun call nms F σ L => toO (e none F σ) L⟩)
 (fun o j => ub (eB o) fun e => ⟨fun call nms F σ L => toO (match lget nms j with | some p => (match T.get p σ.h with | none => e (some p) F σ | some _ => (match isPv o with | true => e (some p) F σ | false => none)) | none => none) L⟩)
 (fun f l => ub (lsB l) fun ls => ⟨fun call nms F σ L => call f (ls F) σ L⟩)
 (fun g l => ub (argB g) fun ga => ub (lsB l) fun ls => ⟨fun call nms F σ L => match ga F with | .fn f x y => call (natPos f) (lapp x (lapp (ls F) y)) σ L | _ => .no⟩)
 (fun r name l => ub (argB r) fun gr => ub (lsB l) fun ls => ⟨fun call nms F σ L => match gr F with | .iface t v => (match mtFind mt t name with | some f => call f (v :: ls F) σ L | none => .no) | _ => .no⟩)
 ⟨fun _ _ _ _ _ => .no⟩ x
theorem xO_ok {A : T V} {F : FJ} (h : FA A F) (M : Mach) {call : CF} {co : CFo} (hc : GoodC call co) (nms : List Pos) (x : XOp) (σ : St) (L : LG) {v : V} {σ' : St} {L' : LG} (hr : un (xO M.pt M.mt x) co nms F σ L = .ok v σ' L') (hL : Ob L') : xop M call nms x A σ = some (v,σ') ∧ Ob L := by
 cases x with
 | q o =>
  have hr : un (ub (qB M.pt o) fun q => (⟨fun call nms F σ L => Option.rec (motive := fun _ => St → LG → RTo) (fun _ _ => .no) (fun v σ L => .ok v σ L) (q F σ) σ L⟩ : Bx CXo)) co nms F σ L = .ok v σ' L' := hr
  simp only [un_ub,un_mk] at hr
  rw [h.q] at hr
  show xQ M o A σ = _ ∧ _
  unfold xQ
  rw [qevF_eq]
  cases hq : qev M.pt o A σ with
  | none => rw [hq] at hr; cases hr
  | some x => rw [hq] at hr; cases hr; exact ⟨rfl,hL⟩
 | e o =>
  have hr : un (ub (eB o) fun e => (⟨fun call nms F σ L => toO (e none F σ) L⟩ : Bx CXo)) co nms F σ L = .ok v σ' L' := hr
  simp only [un_ub,un_mk] at hr
  obtain ⟨h1,rfl⟩ := toO_ok hr
  rw [h.e] at h1
  exact ⟨h1,hL⟩
 | l o j =>
  have hr : un (ub (eB o) fun e => (⟨fun call nms F σ L => toO (match lget nms j with | some p => (match T.get p σ.h with | none => e (some p) F σ | some _ => (match isPv o with | true => e (some p) F σ | false => none)) | none => none) L⟩ : Bx CXo)) co nms F σ L = .ok v σ' L' := hr
  simp only [un_ub,un_mk] at hr
  obtain ⟨h1,rfl⟩ := toO_ok hr
  simp only [h.e] at h1
  exact ⟨h1,hL⟩
 | call f l =>
  have hr : un (ub (lsB l) fun ls => (⟨fun call nms F σ L => call f (ls F) σ L⟩ : Bx CXo)) co nms F σ L = .ok v σ' L' := hr
  simp only [un_ub,un_mk,h.ls] at hr
  exact hc _ _ _ _ _ _ _ hr hL
 | callv g l =>
  have hr : un (ub (argB g) fun ga => ub (lsB l) fun ls => (⟨fun call nms F σ L => match ga F with | .fn f x y => call (natPos f) (lapp x (lapp (ls F) y)) σ L | _ => .no⟩ : Bx CXo)) co nms F σ L = .ok v σ' L' := hr
  simp only [un_ub,un_mk,h.ls] at hr
  rw [show un (argB g) F = ev A g from h.arg g] at hr
  show xCallv call g l A σ = _ ∧ _
  unfold xCallv
  cases hg : ev A g <;> rw [hg] at hr <;> try (cases hr; done)
  exact hc _ _ _ _ _ _ _ hr hL
 | inv r n l =>
  have hr : un (ub (argB r) fun gr => ub (lsB l) fun ls => (⟨fun call nms F σ L => match gr F with | .iface t v => (match mtFind M.mt t n with | some f => call f (v :: ls F) σ L | none => .no) | _ => .no⟩ : Bx CXo)) co nms F σ L = .ok v σ' L' := hr
  simp only [un_ub,un_mk,h.ls] at hr
  rw [show un (argB r) F = ev A r from h.arg r] at hr
  show xInv M call r n l A σ = _ ∧ _
  unfold xInv
  cases hg : ev A r <;> rw [hg] at hr <;> try (cases hr; done)
  rename_i t v0
  simp only at hr ⊢
  cases hm : mtFind M.mt t n with
  | none => rw [hm] at hr; cases hr
  | some f => rw [hm] at hr; exact hc _ _ _ _ _ _ _ hr hL
 | bad => cases hr
def SimO (r : RE) (L : LG) : RJo → Prop
 | .no => True
 | .nrm F σ L' => Ob L' → (∃ A,r = some (.nrm,A,σ) ∧ FA A F) ∧ Ob L
 | .ext i F σ L' => Ob L' → (∃ A,r = some (.ext i,A,σ) ∧ FA A F) ∧ Ob L
 | .ret F σ L' => Ob L' → (∃ A,r = some (.ret,A,σ) ∧ FA A F) ∧ Ob L
noncomputable def dsO (d : Option Pos) (K : CRo) : Bx (V → CRo) := Option.rec (motive := fun _ => Bx (V → CRo)) ⟨fun v call nms F σ L => K call nms F σ L⟩ (fun p => ub (putB p) fun pt => ⟨fun v call nms F σ L => K call nms (pt v F) σ L⟩) d
noncomputable def roQo (k : V → CRo) (q : FJ → St → Option V) : Bx CRo := ⟨fun call nms F σ L => Option.rec (motive := fun _ => CRo) (fun _ _ _ _ _ => .no) (fun v call nms F σ L => k v call nms F σ L) (q F σ) call nms F σ L⟩
noncomputable def roXo (k : V → CRo) (x : CXo) : Bx CRo := ⟨fun call nms F σ L => RTo.rec (motive := fun _ => CFo → List Pos → FJ → RJo) (fun _ _ _ => .no) (fun v σ' L' call nms F => k v call nms F σ' L') (x call nms F σ L) call nms F⟩
noncomputable def vok0 (x : V) : Bool := match x with
 | .bool _ | .int _ _ | .str _ | .nilp | .ptr _ _ | .nils | .slice _ _ _ _ _ | .nilm | .map _ | .nilf | .fn _ [] [] | .nili => true
 | _ => false
noncomputable def vokS (f : V → Bool) (x : V) : Bool := match x with | .agg l => lall f l | .iface _ v => f v | .tup l => lall f l | x => vok0 x
noncomputable def vok (x : V) : Bool := vokS (vokS (vokS vok0)) x
theorem pbeq_self (p : Pos) : p.beq p = true := by rw [Pos.beq_eq]; simp
theorem nbeq_self (n : Nat) : Nat.beq n n = true := by rw [nbeq_eq]; simp
theorem vok0_eq (x : V) (h : vok0 x = true) : veq0 x x = true := by
 cases x with
 | u => cases h
 | bool b => cases b <;> rfl
 | int k n =>
  show (match beqK k k with | true => ieq n n | false => false) = true
  have : beqK k k = true := by cases k <;> rfl
  rw [this]
  show ieq n n = true
  rw [ieq_eq]; simp
 | str l => show nateq l l = true; rw [nateq_eq]; simp
 | nilp => rfl
 | ptr p o => show (match p.beq p with | true => Nat.beq o o | false => false) = true; rw [pbeq_self]; exact nbeq_self o
 | nils => rfl
 | slice p o l c e =>
  clear h
  show (match p.beq p && Nat.beq o o && Nat.beq l l && Nat.beq e e with
   | true => (match c with | none => (match c with | none => true | some _ => false) | some a => (match c with | none => false | some b => Nat.beq a b))
   | false => false) = true
  rw [pbeq_self,nbeq_self,nbeq_self,nbeq_self]
  cases c with
  | none => rfl
  | some a => exact nbeq_self a
 | nilm => rfl
 | map p => exact pbeq_self p
 | nilf => rfl
 | fn f a b =>
  cases a with
  | cons y a => cases h
  | nil =>
   cases b with
   | cons y b => cases h
   | nil => exact nbeq_self f
 | nili => rfl
 | iface t v => cases h
 | agg l => cases h
 | tup l => cases h
 | itr p => cases h
theorem veqL_self {f g : V → Bool} {e : V → V → Bool} (he : ∀ x,f x = true → e x x = true) : ∀ l,lall f l = true → veqL e l l = true
 | [],_ => rfl
 | x :: l,h => by
  rw [lall_eq,List.all_cons,Bool.and_eq_true] at h
  show (match e x x with | true => veqL e l l | false => false) = true
  rw [he x h.1]
  exact veqL_self (g := g) he l (by rw [lall_eq]; exact h.2)
theorem vokS_eq {f : V → Bool} {e : V → V → Bool} (he : ∀ x,f x = true → e x x = true) (x : V) (h : vokS f x = true) : veqS e x x = true := by
 cases x with
 | agg l => exact veqL_self (g := f) he l h
 | tup l => exact veqL_self (g := f) he l h
 | iface t v =>
  show (match Nat.beq t t with | true => e v v | false => false) = true
  rw [nbeq_self]
  exact he v h
 | u => exact vok0_eq .u h
 | bool b => exact vok0_eq (.bool b) h
 | int k n => exact vok0_eq (.int k n) h
 | str l => exact vok0_eq (.str l) h
 | nilp => exact vok0_eq .nilp h
 | ptr p o => exact vok0_eq (.ptr p o) h
 | nils => exact vok0_eq .nils h
 | slice p o l c e => exact vok0_eq (.slice p o l c e) h
 | nilm => exact vok0_eq .nilm h
 | map p => exact vok0_eq (.map p) h
 | nilf => exact vok0_eq .nilf h
 | fn f a b => exact vok0_eq (.fn f a b) h
 | nili => exact vok0_eq .nili h
 | itr p => exact vok0_eq (.itr p) h
theorem vok_eq (x : V) (h : vok x = true) : veq x x = true := vokS_eq (vokS_eq (vokS_eq vok0_eq)) x h
noncomputable def noteV (v g : V) (L : LG) : LG := LG.rec (motive := fun _ => LG) (fun bits log vs => ⟨bits,log,(v,g) :: vs⟩) L
noncomputable def rcO (orc : Bool) (pt : List Nat) (l : List (Pos × QOp × Option (Pos × Bool))) : Bx (FJ → St → LG → Option LG) := List.rec (motive := fun _ => Bx (FJ → St → LG → Option LG)) ⟨fun _ _ L => some L⟩
 (fun r _ ih => ub (wtB r.2.2) fun w => ub (qB pt r.2.1) fun q => ub (getB r.1) fun g => ub ih fun rest => Bool.rec (motive := fun _ => Bx (FJ → St → LG → Option LG))
  ⟨fun F σ L => match w F with
   | none => none
   | some false => rest F σ L
   | some true => (match q F σ with | some v => (match vok v with | true => rest F σ (noteV v (g F) L) | false => none) | none => none)⟩
  ⟨fun F σ L => match w F with
   | none => none
   | some c => LG.rec (motive := fun _ => Option LG) (fun bits log vs => List.rec (motive := fun _ => Option LG) none (fun b bs _ => Bool.rec (motive := fun _ => Option LG) (rest F σ ⟨bs,(c,b) :: log,vs⟩)
    (match q F σ with | some v => (match vok v with | true => rest F σ (noteV v (g F) ⟨bs,(c,b) :: log,vs⟩) | false => none) | none => none) b) bits) L⟩
  (Bool.and orc (Option.isSome r.2.2))) l
theorem rcO_ok (orc : Bool) {A : T V} {F : FJ} (h : FA A F) (pt : List Nat) (σ : St) : ∀ l L L',un (rcO orc pt l) F σ L = some L' → Ob L' → rechk pt A σ l = true ∧ Ob L
 | [],L,L',e,hL => by cases e; exact ⟨rfl,hL⟩
 | r :: l,L,L',e,hL => by
  have e2 : rechk pt A σ (r :: l) = match wantG A r.2.2 with
   | none => false
   | some false => rechk pt A σ l
   | some true => (match qevF pt r.2.1 A σ with | some v => (match veq v (ev A (.s r.1)) with | true => rechk pt A σ l | false => false) | none => false) := rfl
  rw [e2,qevF_eq]
  have look : ∀ L0 : LG,(match qev pt r.2.1 A σ with | some v => (match vok v with | true => un (rcO orc pt l) F σ (noteV v (ev A (.s r.1)) L0) | false => none) | none => none) = some L' →
    (match qev pt r.2.1 A σ with | some v => (match veq v (ev A (.s r.1)) with | true => rechk pt A σ l | false => false) | none => false) = true ∧ Ob L0 := fun L0 e => by
   cases hq : qev pt r.2.1 A σ with
   | none => rw [hq] at e; cases e
   | some v =>
    rw [hq] at e
    simp only at e ⊢
    cases hv : vok v with
    | false => rw [hv] at e; cases e
    | true =>
     rw [hv] at e
     obtain ⟨h1,h2⟩ := rcO_ok orc h pt σ l _ L' e hL
     obtain ⟨bits,log,vs⟩ := L0
     have h3 : v = ev A (.s r.1) := h2.2 (v,ev A (.s r.1)) (List.mem_cons_self ..)
     rw [← h3,vok_eq v hv]
     exact ⟨h1,h2.1,fun y hy => h2.2 y (List.mem_cons_of_mem _ hy)⟩
  cases ho : Bool.and orc (Option.isSome r.2.2) with
  | false =>
   have e : un (ub (wtB r.2.2) fun w => ub (qB pt r.2.1) fun q => ub (getB r.1) fun g => ub (rcO orc pt l) fun rest => (Bool.rec (motive := fun _ => Bx (FJ → St → LG → Option LG))
    ⟨fun F σ L => match w F with
     | none => none
     | some false => rest F σ L
     | some true => (match q F σ with | some v => (match vok v with | true => rest F σ (noteV v (g F) L) | false => none) | none => none)⟩
    ⟨fun F σ L => match w F with
     | none => none
     | some c => LG.rec (motive := fun _ => Option LG) (fun bits log vs => List.rec (motive := fun _ => Option LG) none (fun b bs _ => Bool.rec (motive := fun _ => Option LG) (rest F σ ⟨bs,(c,b) :: log,vs⟩)
      (match q F σ with | some v => (match vok v with | true => rest F σ (noteV v (g F) ⟨bs,(c,b) :: log,vs⟩) | false => none) | none => none) b) bits) L⟩
    (Bool.and orc (Option.isSome r.2.2)) : Bx (FJ → St → LG → Option LG))) F σ L = some L' := e
   rw [ho] at e
   simp only [un_ub,un_mk] at e
   rw [h.want,h.q,show un (getB r.1) F = ev A (.s r.1) from (h r.1).symm] at e
   cases hw : wantG A r.2.2 with
   | none => rw [hw] at e; cases e
   | some b =>
    rw [hw] at e
    cases b with
    | false => exact rcO_ok orc h pt σ l L L' e hL
    | true => exact look L e
  | true =>
   have e : un (ub (wtB r.2.2) fun w => ub (qB pt r.2.1) fun q => ub (getB r.1) fun g => ub (rcO orc pt l) fun rest => (Bool.rec (motive := fun _ => Bx (FJ → St → LG → Option LG))
    ⟨fun F σ L => match w F with
     | none => none
     | some false => rest F σ L
     | some true => (match q F σ with | some v => (match vok v with | true => rest F σ (noteV v (g F) L) | false => none) | none => none)⟩
    ⟨fun F σ L => match w F with
     | none => none
     | some c => LG.rec (motive := fun _ => Option LG) (fun bits log vs => List.rec (motive := fun _ => Option LG) none (fun b bs _ => Bool.rec (motive := fun _ => Option LG) (rest F σ ⟨bs,(c,b) :: log,vs⟩)
      (match q F σ with | some v => (match vok v with | true => rest F σ (noteV v (g F) ⟨bs,(c,b) :: log,vs⟩) | false => none) | none => none) b) bits) L⟩
    (Bool.and orc (Option.isSome r.2.2)) : Bx (FJ → St → LG → Option LG))) F σ L = some L' := e
   rw [ho] at e
   simp only [un_ub,un_mk] at e
   rw [h.want,h.q,show un (getB r.1) F = ev A (.s r.1) from (h r.1).symm] at e
   cases hw : wantG A r.2.2 with
   | none => rw [hw] at e; cases e
   | some c =>
    rw [hw] at e
    obtain ⟨bits,log,vs⟩ := L
    cases bits with
    | nil => cases e
    | cons b bs =>
     cases b with
     | false =>
      obtain ⟨h1,h2⟩ := rcO_ok orc h pt σ l _ L' e hL
      have h3 : c = false := h2.1 (c,false) (List.mem_cons_self ..)
      subst h3
      exact ⟨h1,fun y hy => h2.1 y (List.mem_cons_of_mem _ hy),h2.2⟩
     | true =>
      obtain ⟨h1,h2⟩ := look ⟨bs,(c,true) :: log,vs⟩ e
      have h3 : c = true := h2.1 (c,true) (List.mem_cons_self ..)
      subst h3
      exact ⟨h1,fun y hy => h2.1 y (List.mem_cons_of_mem _ hy),h2.2⟩
noncomputable def gJ (k k2 : V → CRo) (x : CXo) (b : Bool) : CRo := fun call nms F σ L => Bool.rec (motive := fun _ => RJo) (k (.tup []) call nms F σ L) (match x call nms F σ L with | .no => .no | .ok v σ' L' => k2 v call nms F σ' L') b
noncomputable def roGo (orc : Bool) (d : Option Pos) (K : CRo) (k : V → CRo) (rc : FJ → St → LG → Option LG) (w : FJ → Option Bool) (x : CXo) : Bx CRo := ub (dsO d (fun call nms F σ L => Option.rec (motive := fun _ => RJo) .no (fun L => K call nms F σ L) (rc F σ L))) fun k2 => Bool.rec (motive := fun _ => Bx CRo)
 ⟨fun call nms F σ L => match w F with | none => .no | some c => gJ k k2 x c call nms F σ L⟩
 ⟨fun call nms F σ L => match w F with | none => .no | some c => LG.rec (motive := fun _ => RJo) (fun bits log vs => List.rec (motive := fun _ => RJo) .no (fun b bs _ => gJ k k2 x b call nms F σ ⟨bs,(c,b) :: log,vs⟩) bits) L⟩ orc
noncomputable def roPo (k : V → CRo) (gc ga gb : FJ → V) : Bx CRo := ⟨fun call nms F σ L => V.rec (motive_1 := fun _ => List Pos → FJ → St → LG → RJo) (motive_2 := fun _ => PUnit) (fun _ _ _ _ => .no) (fun t nms F σ L => LG.rec (motive := fun _ => RJo) (fun bits log vs => List.rec (motive := fun _ => RJo) .no (fun b bs _ => k (Bool.rec (motive := fun _ => V) (gb F) (ga F) b) call nms F σ ⟨bs,(t,b) :: log,vs⟩) bits) L) (fun _ _ => fun _ _ _ _ => .no) (fun _ => fun _ _ _ _ => .no) (fun _ _ _ _ => .no) (fun _ _ => fun _ _ _ _ => .no) (fun _ _ _ _ => .no) (fun _ _ _ _ _ => fun _ _ _ _ => .no) (fun _ _ _ _ => .no) (fun _ => fun _ _ _ _ => .no) (fun _ _ _ _ => .no) (fun _ _ _ _ _ => fun _ _ _ _ => .no) (fun _ _ _ _ => .no) (fun _ _ _ => fun _ _ _ _ => .no) (fun _ _ => fun _ _ _ _ => .no) (fun _ _ => fun _ _ _ _ => .no) (fun _ => fun _ _ _ _ => .no) ⟨⟩ (fun _ _ _ _ => ⟨⟩) (gc F) nms F σ L⟩
noncomputable def isPick (x : XOp) : Option (Arg × Arg × Arg) := match x with | .q (.pick c a b) => some (c,a,b) | _ => none
noncomputable def roOo (pt : List Nat) (mt : List (Nat × String × Pos)) (k : V → CRo) (op : XOp) : Bx CRo := XOp.rec (motive := fun _ => Bx CXo → Bx CRo) (fun o _ => ub (qB pt o) fun q => roQo k q) (fun _ b => ub b fun x => roXo k x) (fun _ _ b => ub b fun x => roXo k x) (fun _ _ b => ub b fun x => roXo k x) (fun _ _ b => ub b fun x => roXo k x) (fun _ _ _ b => ub b fun x => roXo k x) (fun b => ub b fun x => roXo k x) op (xO pt mt op)
noncomputable def roBo (orc : Bool) (pt : List Nat) (mt : List (Nat × String × Pos)) (ro : RO) (K : CRo) : Bx CRo := RO.rec (motive := fun _ => Bx CRo) (fun i d op gd re =>
 Option.rec (motive := fun _ => Bx CRo)
  (List.rec (motive := fun _ => Bx CRo) (ub (dsO d K) fun k => Option.rec (motive := fun _ => Bx CRo) (roOo pt mt k op) (fun y => ub (argB y.1) fun gc => ub (argB y.2.1) fun ga => ub (argB y.2.2) fun gb => roPo k gc ga gb) (Bool.rec (motive := fun _ => Option (Arg × Arg × Arg)) none (isPick op) orc)) (fun _ _ _ => ub (dsO d K) fun k => ub (rcO orc pt re) fun rc => ub (wtB gd) fun w => ub (xO pt mt op) fun x => roGo orc d K k rc w x) re)
  (fun _ => ub (dsO d K) fun k => ub (rcO orc pt re) fun rc => ub (wtB gd) fun w => ub (xO pt mt op) fun x => roGo orc d K k rc w x) gd) ro
noncomputable def rgBo (orc : Bool) (pt : List Nat) (mt : List (Nat × String × Pos)) (l : List RO) : Bx CRo := List.rec (motive := fun _ => Bx CRo) ⟨fun call nms F σ L => .nrm F σ L⟩ (fun ro _ ih => ub ih fun K => roBo orc pt mt ro K) l
theorem dsO_ok {K : CRo} {A : T V} {F : FJ} (h : FA A F) (d : Option Pos) (v : V) (call : CFo) (nms : List Pos) (σ : St) (L : LG) : ∃ F',FA (putD A d v) F' ∧ un (dsO d K) v call nms F σ L = K call nms F' σ L := by
 cases d with
 | none => exact ⟨F,h,rfl⟩
 | some p => exact ⟨putV p v F,h.put p v,by show un (ub (putB p) fun pt => (⟨fun v call nms F σ L => K call nms (pt v F) σ L⟩ : Bx (V → CRo))) v call nms F σ L = _; rw [un_ub]; rfl⟩
noncomputable def stepW (M : Mach) (call : CF) (nms : List Pos) (ro : RO) (kk : T V → St → RS) (A : T V) (σ : St) (w : Option Bool) : RS :=
 match (match w with | none => none | some false => some (putD A ro.dst (.tup []),σ) | some true => xfin M ro A (xop M call nms ro.op A σ) : Option (T V × St)) with | none => none | some (A',σ') => kk A' σ'
theorem Ob.tail {bits : List Bool} {log : List (Bool × Bool)} {vs : List (V × V)} {bs : List Bool} {x : Bool × Bool} (h : Ob ⟨bs,x :: log,vs⟩) : x.1 = x.2 ∧ Ob ⟨bits,log,vs⟩ := ⟨h.1 x (by simp),fun y hy => h.1 y (by simp [hy]),h.2⟩
theorem SimO.told {r r' : RE} {bits bs : List Bool} {log : List (Bool × Bool)} {vs : List (V × V)} {x : Bool × Bool} {q : RJo} (hs : SimO r ⟨bs,x :: log,vs⟩ q) (hr : x.1 = x.2 → r' = r) : SimO r' ⟨bits,log,vs⟩ q := by
 cases q with
 | no => trivial
 | nrm F σ L' => exact fun h' => ⟨by rw [hr ((hs h').2.tail (bits := bits)).1]; exact (hs h').1,((hs h').2.tail (bits := bits)).2⟩
 | ext i F σ L' => exact fun h' => ⟨by rw [hr ((hs h').2.tail (bits := bits)).1]; exact (hs h').1,((hs h').2.tail (bits := bits)).2⟩
 | ret F σ L' => exact fun h' => ⟨by rw [hr ((hs h').2.tail (bits := bits)).1]; exact (hs h').1,((hs h').2.tail (bits := bits)).2⟩
theorem gJ_ok {orc : Bool} {M : Mach} {call : CF} {co : CFo} (hc : GoodC call co) {nms : List Pos} {d : Option Pos} {op : XOp} {gd : Option (Pos × Bool)} {re : List (Pos × QOp × Option (Pos × Bool))} {i : Nat} {K : CRo} {kk : T V → St → RS}
  (hK : ∀ A F σ L,FA A F → SimO (eRg (kk A σ)) L (K co nms F σ L)) {A : T V} {F : FJ} (h : FA A F) (σ : St) (L : LG) (b : Bool) :
  SimO (eRg (stepW M call nms ⟨i,d,op,gd,re⟩ kk A σ (some b))) L (gJ (un (dsO d K)) (un (dsO d (fun call nms F σ L => Option.rec (motive := fun _ => RJo) .no (fun L => K call nms F σ L) (un (rcO orc M.pt re) F σ L)))) (un (xO M.pt M.mt op)) b co nms F σ L) := by
 unfold gJ
 cases b with
 | false =>
  obtain ⟨F',hF,e⟩ := dsO_ok (K := K) h d (.tup []) co nms σ L
  show SimO _ L (un (dsO d K) (.tup []) co nms F σ L)
  rw [e]
  exact hK _ _ _ _ hF
 | true =>
   simp only
   cases hx : un (xO M.pt M.mt op) co nms F σ L with
   | no => trivial
   | ok v σ' L' =>
    obtain ⟨F',hF,e⟩ := dsO_ok (K := fun call nms F σ L => Option.rec (motive := fun _ => RJo) .no (fun L => K call nms F σ L) (un (rcO orc M.pt re) F σ L)) h d v co nms σ' L'
    simp only
    rw [e]
    cases hre : un (rcO orc M.pt re) F' σ' L' with
    | none => trivial
    | some L1 =>
     show SimO _ L (K co nms F' σ' L1)
     have hk := hK _ _ σ' L1 hF
     revert hk
     have hob : Ob L1 → (xop M call nms op A σ = some (v,σ') ∧ Ob L) ∧ rechk M.pt (putD A d v) σ' re = true := fun h1 => by
      obtain ⟨h2,h3⟩ := rcO_ok orc hF M.pt σ' re L' L1 hre h1
      exact ⟨xO_ok h M hc nms op σ L hx h3,h2⟩
     have key : Ob L1 → eRg (stepW M call nms ⟨i,d,op,gd,re⟩ kk A σ (some true)) = eRg (kk (putD A d v) σ') := fun hL => by
      unfold stepW
      simp only
      rw [(hob hL).1.1]
      unfold xfin
      simp only [(hob hL).2]
     generalize K co nms F' σ' L1 = q
     intro hk
     cases q with
     | no => trivial
     | nrm F2 σ2 L2 => exact fun h2 => ⟨by obtain ⟨A2,e2,f2⟩ := (hk h2).1; exact ⟨A2,(key (hk h2).2).trans e2,f2⟩,(hob (hk h2).2).1.2⟩
     | ext j F2 σ2 L2 => exact fun h2 => ⟨by obtain ⟨A2,e2,f2⟩ := (hk h2).1; exact ⟨A2,(key (hk h2).2).trans e2,f2⟩,(hob (hk h2).2).1.2⟩
     | ret F2 σ2 L2 => exact fun h2 => ⟨by obtain ⟨A2,e2,f2⟩ := (hk h2).1; exact ⟨A2,(key (hk h2).2).trans e2,f2⟩,(hob (hk h2).2).1.2⟩
theorem roGo_ok (orc : Bool) {M : Mach} {call : CF} {co : CFo} (hc : GoodC call co) {nms : List Pos} {d : Option Pos} {op : XOp} {gd : Option (Pos × Bool)} {re : List (Pos × QOp × Option (Pos × Bool))} {i : Nat} {K : CRo} {kk : T V → St → RS}
  (hK : ∀ A F σ L,FA A F → SimO (eRg (kk A σ)) L (K co nms F σ L)) {A : T V} {F : FJ} (h : FA A F) (σ : St) (L : LG) :
  SimO (eRg (match xstep M call nms ⟨i,d,op,gd,re⟩ A σ with | none => none | some (A',σ') => kk A' σ')) L (un (roGo orc d K (un (dsO d K)) (un (rcO orc M.pt re)) (un (wtB gd)) (un (xO M.pt M.mt op))) co nms F σ L) := by
 have e0 : (match xstep M call nms ⟨i,d,op,gd,re⟩ A σ with | none => none | some (A',σ') => kk A' σ') = stepW M call nms ⟨i,d,op,gd,re⟩ kk A σ (wantG A gd) := rfl
 rw [e0]
 unfold roGo
 simp only [un_ub]
 cases orc with
 | false =>
  simp only [un_mk]
  rw [h.want]
  cases wantG A gd with
  | none => trivial
  | some c => exact gJ_ok hc hK h σ L c
 | true =>
  simp only [un_mk]
  rw [h.want]
  cases wantG A gd with
  | none => trivial
  | some c =>
   obtain ⟨bits,log,vs⟩ := L
   cases bits with
   | nil => trivial
   | cons b bs => exact SimO.told (gJ_ok hc hK h σ ⟨bs,(c,b) :: log,vs⟩ b) (fun e => by rw [show c = b from e])
theorem roPo_ok {M : Mach} {call : CF} {co : CFo} {nms : List Pos} {d : Option Pos} {c a b : Arg} {i : Nat} {K : CRo} {kk : T V → St → RS}
  (hK : ∀ A F σ L,FA A F → SimO (eRg (kk A σ)) L (K co nms F σ L)) {A : T V} {F : FJ} (h : FA A F) (σ : St) (L : LG) :
  SimO (eRg (match xstep M call nms ⟨i,d,.q (.pick c a b),none,[]⟩ A σ with | none => none | some (A',σ') => kk A' σ')) L (un (roPo (un (dsO d K)) (un (argB c)) (un (argB a)) (un (argB b))) co nms F σ L) := by
 have hx : xstep M call nms ⟨i,d,.q (.pick c a b),none,[]⟩ A σ = xfin M ⟨i,d,.q (.pick c a b),none,[]⟩ A (xQ M (.pick c a b) A σ) := rfl
 rw [hx]
 unfold xQ
 rw [qevF_eq]
 unfold roPo
 simp only [un_mk]
 show SimO _ L (V.rec (motive_1 := fun _ => List Pos → FJ → St → LG → RJo) (motive_2 := fun _ => PUnit) (fun _ _ _ _ => .no) (fun t nms F σ L => LG.rec (motive := fun _ => RJo) (fun bits log vs => List.rec (motive := fun _ => RJo) .no (fun bt bs _ => un (dsO d K) (Bool.rec (motive := fun _ => V) (un (argB b) F) (un (argB a) F) bt) co nms F σ ⟨bs,(t,bt) :: log,vs⟩) bits) L) (fun _ _ => fun _ _ _ _ => .no) (fun _ => fun _ _ _ _ => .no) (fun _ _ _ _ => .no) (fun _ _ => fun _ _ _ _ => .no) (fun _ _ _ _ => .no) (fun _ _ _ _ _ => fun _ _ _ _ => .no) (fun _ _ _ _ => .no) (fun _ => fun _ _ _ _ => .no) (fun _ _ _ _ => .no) (fun _ _ _ _ _ => fun _ _ _ _ => .no) (fun _ _ _ _ => .no) (fun _ _ _ => fun _ _ _ _ => .no) (fun _ _ => fun _ _ _ _ => .no) (fun _ _ => fun _ _ _ _ => .no) (fun _ => fun _ _ _ _ => .no) ⟨⟩ (fun _ _ _ _ => ⟨⟩) (un (argB c) F) nms F σ L)
 rw [show un (argB c) F = ev A c from h.arg c]
 simp only [qev]
 cases ev A c <;> try trivial
 rename_i t
 obtain ⟨bits,log,vs⟩ := L
 cases bits with
 | nil => trivial
 | cons bt bs =>
  obtain ⟨F',hF,e⟩ := dsO_ok (K := K) h d (Bool.rec (motive := fun _ => V) (un (argB b) F) (un (argB a) F) bt) co nms σ ⟨bs,(t,bt) :: log,vs⟩
  show SimO _ _ (un (dsO d K) (Bool.rec (motive := fun _ => V) (un (argB b) F) (un (argB a) F) bt) co nms F σ ⟨bs,(t,bt) :: log,vs⟩)
  rw [e]
  refine SimO.told (hK _ _ σ _ hF) (fun e1 => ?_)
  have e1 : t = bt := e1
  subst e1
  rw [show un (argB a) F = ev A a from h.arg a,show un (argB b) F = ev A b from h.arg b]
  cases t <;> rfl
theorem roXo_ok {M : Mach} {call : CF} {co : CFo} (hc : GoodC call co) {nms : List Pos} {d : Option Pos} {op : XOp} {i : Nat} {K : CRo} {kk : T V → St → RS}
  (hK : ∀ A F σ L,FA A F → SimO (eRg (kk A σ)) L (K co nms F σ L)) {A : T V} {F : FJ} (h : FA A F) (σ : St) (L : LG) :
  SimO (eRg (match xstep M call nms ⟨i,d,op,none,[]⟩ A σ with | none => none | some (A',σ') => kk A' σ')) L (un (roXo (un (dsO d K)) (un (xO M.pt M.mt op))) co nms F σ L) := by
 unfold roXo
 simp only [un_mk]
 cases hx : un (xO M.pt M.mt op) co nms F σ L with
 | no => trivial
 | ok v σ' L' =>
  obtain ⟨F',hF,e⟩ := dsO_ok (K := K) h d v co nms σ' L'
  show SimO _ L (un (dsO d K) v co nms F σ' L')
  rw [e]
  have hk := hK _ _ σ' L' hF
  revert hk
  have hob : Ob L' → xop M call nms op A σ = some (v,σ') ∧ Ob L := fun hL => xO_ok h M hc nms op σ L hx hL
  have key : Ob L' → eRg (match xstep M call nms ⟨i,d,op,none,[]⟩ A σ with | none => none | some (A',σ') => kk A' σ') = eRg (kk (putD A d v) σ') := fun hL => by
   have e1 : xstep M call nms ⟨i,d,op,none,[]⟩ A σ = xfin M ⟨i,d,op,none,[]⟩ A (xop M call nms op A σ) := rfl
   rw [e1,(hob hL).1]
   rfl
  generalize K co nms F' σ' L' = q
  intro hk
  cases q with
  | no => trivial
  | nrm F2 σ2 L2 => exact fun h2 => ⟨by obtain ⟨A2,e2,f2⟩ := (hk h2).1; exact ⟨A2,(key (hk h2).2).trans e2,f2⟩,(hob (hk h2).2).2⟩
  | ext j F2 σ2 L2 => exact fun h2 => ⟨by obtain ⟨A2,e2,f2⟩ := (hk h2).1; exact ⟨A2,(key (hk h2).2).trans e2,f2⟩,(hob (hk h2).2).2⟩
  | ret F2 σ2 L2 => exact fun h2 => ⟨by obtain ⟨A2,e2,f2⟩ := (hk h2).1; exact ⟨A2,(key (hk h2).2).trans e2,f2⟩,(hob (hk h2).2).2⟩
theorem roQo_ok {M : Mach} {call : CF} {co : CFo} {nms : List Pos} {d : Option Pos} {o : QOp} {i : Nat} {K : CRo} {kk : T V → St → RS}
  (hK : ∀ A F σ L,FA A F → SimO (eRg (kk A σ)) L (K co nms F σ L)) {A : T V} {F : FJ} (h : FA A F) (σ : St) (L : LG) :
  SimO (eRg (match xstep M call nms ⟨i,d,.q o,none,[]⟩ A σ with | none => none | some (A',σ') => kk A' σ')) L (un (roQo (un (dsO d K)) (un (qB M.pt o))) co nms F σ L) := by
 unfold roQo
 simp only [un_mk]
 rw [h.q]
 have hx : xstep M call nms ⟨i,d,.q o,none,[]⟩ A σ = xfin M ⟨i,d,.q o,none,[]⟩ A (xQ M o A σ) := rfl
 rw [hx]
 unfold xQ
 rw [qevF_eq]
 cases qev M.pt o A σ with
 | none => trivial
 | some v =>
  obtain ⟨F',hF,e⟩ := dsO_ok (K := K) h d v co nms σ L
  show SimO _ L (un (dsO d K) v co nms F σ L)
  rw [e]
  exact hK _ _ _ _ hF
theorem roO_ok (orc : Bool) {M : Mach} {call : CF} {co : CFo} (hc : GoodC call co) {nms : List Pos} {ro : RO} {K : CRo} {kk : T V → St → RS}
  (hK : ∀ A F σ L,FA A F → SimO (eRg (kk A σ)) L (K co nms F σ L)) {A : T V} {F : FJ} (h : FA A F) (σ : St) (L : LG) :
  SimO (eRg (match xstep M call nms ro A σ with | none => none | some (A',σ') => kk A' σ')) L (un (roBo orc M.pt M.mt ro K) co nms F σ L) := by
 obtain ⟨i,d,op,gd,re⟩ := ro
 cases gd with
 | some g =>
  show SimO _ L (un (ub (dsO d K) fun k => ub (rcO orc M.pt re) fun rc => ub (wtB (some g)) fun w => ub (xO M.pt M.mt op) fun x => roGo orc d K k rc w x) co nms F σ L)
  simp only [un_ub]
  exact roGo_ok orc hc hK h σ L
 | none =>
  cases re with
  | cons r re =>
   show SimO _ L (un (ub (dsO d K) fun k => ub (rcO orc M.pt (r :: re)) fun rc => ub (wtB none) fun w => ub (xO M.pt M.mt op) fun x => roGo orc d K k rc w x) co nms F σ L)
   simp only [un_ub]
   exact roGo_ok orc hc hK h σ L
  | nil =>
   cases op with
   | q o =>
    have hq : SimO (eRg (match xstep M call nms ⟨i,d,.q o,none,[]⟩ A σ with | none => none | some (A',σ') => kk A' σ')) L (un (ub (dsO d K) fun k => ub (qB M.pt o) fun q => roQo k q) co nms F σ L) := by
     simp only [un_ub]
     exact roQo_ok hK h σ L
    cases orc with
    | false => exact hq
    | true =>
     cases o
     case pick c a b =>
      show SimO _ L (un (ub (dsO d K) fun k => ub (argB c) fun gc => ub (argB a) fun ga => ub (argB b) fun gb => roPo k gc ga gb) co nms F σ L)
      simp only [un_ub]
      exact roPo_ok hK h σ L
     all_goals exact hq
   | e o =>
    have e9 : Bool.rec (motive := fun _ => Option (Arg × Arg × Arg)) none (isPick (.e o)) orc = none := by cases orc <;> rfl
    show SimO _ L (un (ub (dsO d K) fun k => Option.rec (motive := fun _ => Bx CRo) (roOo M.pt M.mt k (.e o)) (fun y => ub (argB y.1) fun gc => ub (argB y.2.1) fun ga => ub (argB y.2.2) fun gb => roPo k gc ga gb) (Bool.rec (motive := fun _ => Option (Arg × Arg × Arg)) none (isPick (.e o)) orc)) co nms F σ L)
    rw [e9]
    show SimO _ L (un (ub (dsO d K) fun k => ub (xO M.pt M.mt (.e o)) fun x => roXo k x) co nms F σ L)
    simp only [un_ub]
    exact roXo_ok (M := M) (op := (.e o)) (i := i) hc hK h σ L
   | l o j =>
    have e9 : Bool.rec (motive := fun _ => Option (Arg × Arg × Arg)) none (isPick (.l o j)) orc = none := by cases orc <;> rfl
    show SimO _ L (un (ub (dsO d K) fun k => Option.rec (motive := fun _ => Bx CRo) (roOo M.pt M.mt k (.l o j)) (fun y => ub (argB y.1) fun gc => ub (argB y.2.1) fun ga => ub (argB y.2.2) fun gb => roPo k gc ga gb) (Bool.rec (motive := fun _ => Option (Arg × Arg × Arg)) none (isPick (.l o j)) orc)) co nms F σ L)
    rw [e9]
    show SimO _ L (un (ub (dsO d K) fun k => ub (xO M.pt M.mt (.l o j)) fun x => roXo k x) co nms F σ L)
    simp only [un_ub]
    exact roXo_ok (M := M) (op := (.l o j)) (i := i) hc hK h σ L
   | call f l =>
    have e9 : Bool.rec (motive := fun _ => Option (Arg × Arg × Arg)) none (isPick (.call f l)) orc = none := by cases orc <;> rfl
    show SimO _ L (un (ub (dsO d K) fun k => Option.rec (motive := fun _ => Bx CRo) (roOo M.pt M.mt k (.call f l)) (fun y => ub (argB y.1) fun gc => ub (argB y.2.1) fun ga => ub (argB y.2.2) fun gb => roPo k gc ga gb) (Bool.rec (motive := fun _ => Option (Arg × Arg × Arg)) none (isPick (.call f l)) orc)) co nms F σ L)
    rw [e9]
    show SimO _ L (un (ub (dsO d K) fun k => ub (xO M.pt M.mt (.call f l)) fun x => roXo k x) co nms F σ L)
    simp only [un_ub]
    exact roXo_ok (M := M) (op := (.call f l)) (i := i) hc hK h σ L
   | callv g l =>
    have e9 : Bool.rec (motive := fun _ => Option (Arg × Arg × Arg)) none (isPick (.callv g l)) orc = none := by cases orc <;> rfl
    show SimO _ L (un (ub (dsO d K) fun k => Option.rec (motive := fun _ => Bx CRo) (roOo M.pt M.mt k (.callv g l)) (fun y => ub (argB y.1) fun gc => ub (argB y.2.1) fun ga => ub (argB y.2.2) fun gb => roPo k gc ga gb) (Bool.rec (motive := fun _ => Option (Arg × Arg × Arg)) none (isPick (.callv g l)) orc)) co nms F σ L)
    rw [e9]
    show SimO _ L (un (ub (dsO d K) fun k => ub (xO M.pt M.mt (.callv g l)) fun x => roXo k x) co nms F σ L)
    simp only [un_ub]
    exact roXo_ok (M := M) (op := (.callv g l)) (i := i) hc hK h σ L
   | inv r n l =>
    have e9 : Bool.rec (motive := fun _ => Option (Arg × Arg × Arg)) none (isPick (.inv r n l)) orc = none := by cases orc <;> rfl
    show SimO _ L (un (ub (dsO d K) fun k => Option.rec (motive := fun _ => Bx CRo) (roOo M.pt M.mt k (.inv r n l)) (fun y => ub (argB y.1) fun gc => ub (argB y.2.1) fun ga => ub (argB y.2.2) fun gb => roPo k gc ga gb) (Bool.rec (motive := fun _ => Option (Arg × Arg × Arg)) none (isPick (.inv r n l)) orc)) co nms F σ L)
    rw [e9]
    show SimO _ L (un (ub (dsO d K) fun k => ub (xO M.pt M.mt (.inv r n l)) fun x => roXo k x) co nms F σ L)
    simp only [un_ub]
    exact roXo_ok (M := M) (op := (.inv r n l)) (i := i) hc hK h σ L
   | bad  =>
    have e9 : Bool.rec (motive := fun _ => Option (Arg × Arg × Arg)) none (isPick .bad) orc = none := by cases orc <;> rfl
    show SimO _ L (un (ub (dsO d K) fun k => Option.rec (motive := fun _ => Bx CRo) (roOo M.pt M.mt k .bad) (fun y => ub (argB y.1) fun gc => ub (argB y.2.1) fun ga => ub (argB y.2.2) fun gb => roPo k gc ga gb) (Bool.rec (motive := fun _ => Option (Arg × Arg × Arg)) none (isPick .bad) orc)) co nms F σ L)
    rw [e9]
    show SimO _ L (un (ub (dsO d K) fun k => ub (xO M.pt M.mt .bad) fun x => roXo k x) co nms F σ L)
    simp only [un_ub]
    exact roXo_ok (M := M) (op := .bad) (i := i) hc hK h σ L
theorem rgO_ok (orc : Bool) (M : Mach) {call : CF} {co : CFo} (hc : GoodC call co) (nms : List Pos) : ∀ (l : List RO) (A : T V) (F : FJ) (σ : St) (L : LG),FA A F → SimO (eRg (runR M call nms l A σ)) L (un (rgBo orc M.pt M.mt l) co nms F σ L)
 | [],A,F,σ,L,h => fun hL => ⟨⟨A,rfl,h⟩,hL⟩
 | ro :: l,A,F,σ,L,h => by
  show SimO _ L (un (ub (rgBo orc M.pt M.mt l) fun K => roBo orc M.pt M.mt ro K) co nms F σ L)
  rw [un_ub]
  exact roO_ok orc hc (kk := fun A σ => runR M call nms l A σ) (fun A F σ L h => rgO_ok orc M hc nms l A F σ L h) h σ L
noncomputable def lpO (b : CJo) (m : Nat) : CJo := Nat.rec (motive := fun _ => CJo) (fun _ _ _ _ _ => .no)
 (fun _ ih call n F σ L => RJo.rec (motive := fun _ => CFo → Nat → RJo) (fun _ _ => .no) (fun F σ L call n => ih call n F σ L) (fun i F σ L _ _ => .ext i F σ L) (fun F σ L _ _ => .ret F σ L) (b call n F σ L) call n) m
noncomputable def cndB (orc : Bool) (gc : FJ → V) (ja jb : CJo) : Bx CJo := Bool.rec (motive := fun _ => Bx CJo)
 ⟨fun call n F σ L => V.rec (motive_1 := fun _ => CFo → Nat → FJ → St → LG → RJo) (motive_2 := fun _ => PUnit) (fun _ _ _ _ _ => .no) (fun t call n F σ L => Bool.rec (motive := fun _ => CJo) jb ja t call n F σ L) (fun _ _ => fun _ _ _ _ _ => .no) (fun _ => fun _ _ _ _ _ => .no) (fun _ _ _ _ _ => .no) (fun _ _ => fun _ _ _ _ _ => .no) (fun _ _ _ _ _ => .no) (fun _ _ _ _ _ => fun _ _ _ _ _ => .no) (fun _ _ _ _ _ => .no) (fun _ => fun _ _ _ _ _ => .no) (fun _ _ _ _ _ => .no) (fun _ _ _ _ _ => fun _ _ _ _ _ => .no) (fun _ _ _ _ _ => .no) (fun _ _ _ => fun _ _ _ _ _ => .no) (fun _ _ => fun _ _ _ _ _ => .no) (fun _ _ => fun _ _ _ _ _ => .no) (fun _ => fun _ _ _ _ _ => .no) ⟨⟩ (fun _ _ _ _ => ⟨⟩) (gc F) call n F σ L⟩
 ⟨fun call n F σ L => V.rec (motive_1 := fun _ => CFo → Nat → FJ → St → LG → RJo) (motive_2 := fun _ => PUnit) (fun _ _ _ _ _ => .no) (fun t call n F σ L => LG.rec (motive := fun _ => RJo) (fun bits log vs => List.rec (motive := fun _ => RJo) .no (fun b bs _ => Bool.rec (motive := fun _ => CJo) jb ja b call n F σ ⟨bs,(t,b) :: log,vs⟩) bits) L) (fun _ _ => fun _ _ _ _ _ => .no) (fun _ => fun _ _ _ _ _ => .no) (fun _ _ _ _ _ => .no) (fun _ _ => fun _ _ _ _ _ => .no) (fun _ _ _ _ _ => .no) (fun _ _ _ _ _ => fun _ _ _ _ _ => .no) (fun _ _ _ _ _ => .no) (fun _ => fun _ _ _ _ _ => .no) (fun _ _ _ _ _ => .no) (fun _ _ _ _ _ => fun _ _ _ _ _ => .no) (fun _ _ _ _ _ => .no) (fun _ _ _ => fun _ _ _ _ _ => .no) (fun _ _ => fun _ _ _ _ _ => .no) (fun _ _ => fun _ _ _ _ _ => .no) (fun _ => fun _ _ _ _ _ => .no) ⟨⟩ (fun _ _ _ _ => ⟨⟩) (gc F) call n F σ L⟩ orc
noncomputable def jito (orc : Bool) (pt : List Nat) (mt : List (Nat × String × Pos)) (c : IR) : Bx CJo := IR.rec (motive := fun _ => Bx CJo)
 ⟨fun call n F σ L => .nrm F σ L⟩
 (fun l => ub (rgBo orc pt mt l) fun r => ⟨fun call n F σ L => r call [] F σ L⟩)
 (fun k l => ub (rgBo orc pt mt l) fun r => ⟨fun call n F σ L => Prod.rec (motive := fun _ => CFo → FJ → St → LG → RJo) (fun nms nx call F σ L => r call nms F ⟨σ.h,nx⟩ L) (namesOf k σ.nx) call F σ L⟩)
 (fun _ _ a b => ub a fun ja => ub b fun jb => ⟨fun call n F σ L => RJo.rec (motive := fun _ => CFo → Nat → RJo) (fun _ _ => .no) (fun F σ L call n => jb call n F σ L) (fun i F σ L _ _ => .ext i F σ L) (fun F σ L _ _ => .ret F σ L) (ja call n F σ L) call n⟩)
 (fun c _ _ a b => ub (argB c) fun gc => ub a fun ja => ub b fun jb => cndB orc gc ja jb)
 (fun i _ a => ub a fun ja => ⟨fun call n F σ L => RJo.rec (motive := fun _ => RJo) .no (fun F σ L => .nrm F σ L) (fun j F σ L => Bool.rec (motive := fun _ => RJo) (.ext j F σ L) (.nrm F σ L) (Nat.beq j i)) (fun F σ L => .ret F σ L) (ja call n F σ L)⟩)
 (fun _ a => ub a fun ja => ⟨fun call n F σ L => lpO ja n call n F σ L⟩)
 (fun i => ⟨fun call n F σ L => .ext i F σ L⟩)
 ⟨fun call n F σ L => .ret F σ L⟩
 ⟨fun call n F σ L => .no⟩ c
noncomputable def absL (F : FJ) : List Pos → T V
 | [] => F.hi
 | p :: l => T.set (getV p F) p (absL F l)
theorem absL_ev (F : FJ) (q : Pos) : ∀ l : List Pos,ev (absL F l) (.s q) = if q ∈ l then getV q F else evS F.hi q
 | [] => by rw [ev_s]; simp [absL]
 | p :: l => by
  have e : ev (absL F (p :: l)) (.s q) = if q = p then getV p F else ev (absL F l) (.s q) := by
   show ev (T.set (getV p F) p (absL F l)) (.s q) = _
   rw [ev_s,← setQ_eq,evS_set,← ev_s]
  rw [e,absL_ev F q l]
  by_cases h : q = p
  ·subst h; simp
  ·simp [h]
theorem natPos_nat' (n : Nat) : (natPos n).nat = n + 1 := by
 induction n with
 | zero => rfl
 | succ n ih => show (natPos n).succ.nat = _; rw [Pos.succ_nat,ih]
theorem FA.ex (F : FJ) : ∃ A,FA A F := by
 refine ⟨absL F ((List.range 511).map natPos),fun q => ?_⟩
 rw [absL_ev]
 split
 ·rfl
 ·rename_i h
  rw [getV_hi]
  intro hq
  apply h
  rw [List.mem_map]
  have := q.nat_pos
  refine ⟨q.nat - 1,List.mem_range.2 (by omega),Pos.nat_inj ?_⟩
  rw [natPos_nat']
  omega
noncomputable def sqR (f : T V → St → RE) (r : RE) : RE := match r with | none => none | some (x,A',σ') => (match x with | .nrm => f A' σ' | x => some (x,A',σ'))
theorem SimO.seq {r : RE} {L : LG} {f : T V → St → RE} {g : FJ → St → LG → RJo} {q : RJo} (hs : SimO r L q) (hg : ∀ A F σ L1,FA A F → SimO (f A σ) L1 (g F σ L1)) :
  SimO (sqR f r) L (RJo.rec (motive := fun _ => RJo) .no (fun F σ L => g F σ L) (fun i F σ L => .ext i F σ L) (fun F σ L => .ret F σ L) q) := by
 cases q with
 | no => trivial
 | nrm F σ L1 =>
  show SimO _ L (g F σ L1)
  have hs : Ob L1 → (∃ A,r = some (.nrm,A,σ) ∧ FA A F) ∧ Ob L := hs
  have hk : ∀ A,FA A F → SimO (f A σ) L1 (g F σ L1) := fun A hA => hg A F σ L1 hA
  obtain ⟨A0,h0⟩ := FA.ex F
  have hk0 := hk A0 h0
  revert hk hk0
  generalize g F σ L1 = q
  intro hk hk0
  cases q with
  | no => trivial
  | nrm F2 σ2 L2 =>
   intro h2
   obtain ⟨⟨A,e,hA⟩,hL⟩ := hs (hk0 h2).2
   obtain ⟨⟨A2,e2,f2⟩,_⟩ := hk A hA h2
   subst e
   exact ⟨⟨A2,e2,f2⟩,hL⟩
  | ext j F2 σ2 L2 =>
   intro h2
   obtain ⟨⟨A,e,hA⟩,hL⟩ := hs (hk0 h2).2
   obtain ⟨⟨A2,e2,f2⟩,_⟩ := hk A hA h2
   subst e
   exact ⟨⟨A2,e2,f2⟩,hL⟩
  | ret F2 σ2 L2 =>
   intro h2
   obtain ⟨⟨A,e,hA⟩,hL⟩ := hs (hk0 h2).2
   obtain ⟨⟨A2,e2,f2⟩,_⟩ := hk A hA h2
   subst e
   exact ⟨⟨A2,e2,f2⟩,hL⟩
 | ext j F σ L1 => intro h1; obtain ⟨⟨A,e,hA⟩,hL⟩ := hs h1; subst e; exact ⟨⟨A,rfl,hA⟩,hL⟩
 | ret F σ L1 => intro h1; obtain ⟨⟨A,e,hA⟩,hL⟩ := hs h1; subst e; exact ⟨⟨A,rfl,hA⟩,hL⟩
theorem lpO_ok {co : CFo} {n : Nat} {b : T V → St → RE} {jb : CJo} (hb : ∀ A F σ L,FA A F → SimO (b A σ) L (jb co n F σ L)) : ∀ m A F σ L,FA A F → SimO (loopF b m A σ) L (lpO jb m co n F σ L)
 | 0,A,F,σ,L,h => trivial
 | m + 1,A,F,σ,L,h => by
  have e : loopF b (m + 1) A σ = match b A σ with | none => none | some (x,A',σ') => (match x with | .nrm => loopF b m A' σ' | x => some (x,A',σ')) := rfl
  have e2 : lpO jb (m + 1) co n F σ L = RJo.rec (motive := fun _ => RJo) .no (fun F σ L => lpO jb m co n F σ L) (fun i F σ L => .ext i F σ L) (fun F σ L => .ret F σ L) (jb co n F σ L) := by
   have e3 : lpO jb (m + 1) co n F σ L = RJo.rec (motive := fun _ => CFo → Nat → RJo) (fun _ _ => .no) (fun F σ L call n => lpO jb m call n F σ L) (fun i F σ L _ _ => .ext i F σ L) (fun F σ L _ _ => .ret F σ L) (jb co n F σ L) co n := rfl
   rw [e3]
   cases jb co n F σ L <;> rfl
  rw [e,e2]
  exact SimO.seq (f := loopF b m) (hb A F σ L h) (fun A F σ L1 h1 => lpO_ok hb m A F σ L1 h1)
theorem jito_ok (orc : Bool) (M : Mach) {call : CF} {co : CFo} (hc : GoodC call co) (n : Nat) : ∀ (c : IR) (A : T V) (F : FJ) (σ : St) (L : LG),FA A F → SimO (exec M call n c A σ) L (un (jito orc M.pt M.mt c) co n F σ L) := by
 intro c
 induction c with
 | skip => intro A F σ L h; exact fun hL => ⟨⟨A,rfl,h⟩,hL⟩
 | reg l =>
  intro A F σ L h
  show SimO (eReg M call l A σ) L (un (ub (rgBo orc M.pt M.mt l) fun r => (⟨fun call n F σ L => r call [] F σ L⟩ : Bx CJo)) co n F σ L)
  rw [un_ub]
  have := rgO_ok orc M hc [] l A F σ L h
  unfold eReg
  unfold eRg at this
  exact this
 | rgd k l =>
  intro A F σ L h
  show SimO (eRgd M call k l A σ) L (un (ub (rgBo orc M.pt M.mt l) fun r => (⟨fun call n F σ L => Prod.rec (motive := fun _ => CFo → FJ → St → LG → RJo) (fun nms nx call F σ L => r call nms F ⟨σ.h,nx⟩ L) (namesOf k σ.nx) call F σ L⟩ : Bx CJo)) co n F σ L)
  rw [un_ub]
  unfold eRgd
  have := rgO_ok orc M hc (namesOf k σ.nx).1 l A F ⟨σ.h,(namesOf k σ.nx).2⟩ L h
  unfold eRg at this
  exact this
 | seq a b iha ihb =>
  intro A F σ L h
  show SimO (eSeq (exec M call n a) (exec M call n b) A σ) L (un (ub (jito orc M.pt M.mt a) fun ja => ub (jito orc M.pt M.mt b) fun jb => (⟨fun call n F σ L => RJo.rec (motive := fun _ => CFo → Nat → RJo) (fun _ _ => .no) (fun F σ L call n => jb call n F σ L) (fun i F σ L _ _ => .ext i F σ L) (fun F σ L _ _ => .ret F σ L) (ja call n F σ L) call n⟩ : Bx CJo)) co n F σ L)
  simp only [un_ub,un_mk]
  unfold eSeq
  have e : RJo.rec (motive := fun _ => CFo → Nat → RJo) (fun _ _ => .no) (fun F σ L call n => un (jito orc M.pt M.mt b) call n F σ L) (fun i F σ L _ _ => .ext i F σ L) (fun F σ L _ _ => .ret F σ L) (un (jito orc M.pt M.mt a) co n F σ L) co n = RJo.rec (motive := fun _ => RJo) .no (fun F σ L => un (jito orc M.pt M.mt b) co n F σ L) (fun i F σ L => .ext i F σ L) (fun F σ L => .ret F σ L) (un (jito orc M.pt M.mt a) co n F σ L) := by
   cases un (jito orc M.pt M.mt a) co n F σ L <;> rfl
  rw [e]
  exact SimO.seq (f := exec M call n b) (iha A F σ L h) (fun A F σ L1 h1 => ihb A F σ L1 h1)
 | cnd c ca cb iha ihb =>
  intro A F σ L h
  show SimO (eCnd c (exec M call n ca) (exec M call n cb) A σ) L (un (ub (argB c) fun gc => ub (jito orc M.pt M.mt ca) fun ja => ub (jito orc M.pt M.mt cb) fun jb => cndB orc gc ja jb) co n F σ L)
  simp only [un_ub]
  unfold eCnd
  have hv : un (argB c) F = ev A c := h.arg c
  cases orc with
  | false =>
   show SimO _ L (V.rec (motive_1 := fun _ => CFo → Nat → FJ → St → LG → RJo) (motive_2 := fun _ => PUnit) (fun _ _ _ _ _ => .no) (fun t call n F σ L => Bool.rec (motive := fun _ => CJo) (un (jito false M.pt M.mt cb)) (un (jito false M.pt M.mt ca)) t call n F σ L) (fun _ _ => fun _ _ _ _ _ => .no) (fun _ => fun _ _ _ _ _ => .no) (fun _ _ _ _ _ => .no) (fun _ _ => fun _ _ _ _ _ => .no) (fun _ _ _ _ _ => .no) (fun _ _ _ _ _ => fun _ _ _ _ _ => .no) (fun _ _ _ _ _ => .no) (fun _ => fun _ _ _ _ _ => .no) (fun _ _ _ _ _ => .no) (fun _ _ _ _ _ => fun _ _ _ _ _ => .no) (fun _ _ _ _ _ => .no) (fun _ _ _ => fun _ _ _ _ _ => .no) (fun _ _ => fun _ _ _ _ _ => .no) (fun _ _ => fun _ _ _ _ _ => .no) (fun _ => fun _ _ _ _ _ => .no) ⟨⟩ (fun _ _ _ _ => ⟨⟩) (un (argB c) F) co n F σ L)
   rw [hv]
   cases ev A c <;> try trivial
   rename_i t
   cases t with
   | true => exact iha A F σ L h
   | false => exact ihb A F σ L h
  | true =>
   show SimO _ L (V.rec (motive_1 := fun _ => CFo → Nat → FJ → St → LG → RJo) (motive_2 := fun _ => PUnit) (fun _ _ _ _ _ => .no) (fun t call n F σ L => LG.rec (motive := fun _ => RJo) (fun bits log vs => List.rec (motive := fun _ => RJo) .no (fun b bs _ => Bool.rec (motive := fun _ => CJo) (un (jito true M.pt M.mt cb)) (un (jito true M.pt M.mt ca)) b call n F σ ⟨bs,(t,b) :: log,vs⟩) bits) L) (fun _ _ => fun _ _ _ _ _ => .no) (fun _ => fun _ _ _ _ _ => .no) (fun _ _ _ _ _ => .no) (fun _ _ => fun _ _ _ _ _ => .no) (fun _ _ _ _ _ => .no) (fun _ _ _ _ _ => fun _ _ _ _ _ => .no) (fun _ _ _ _ _ => .no) (fun _ => fun _ _ _ _ _ => .no) (fun _ _ _ _ _ => .no) (fun _ _ _ _ _ => fun _ _ _ _ _ => .no) (fun _ _ _ _ _ => .no) (fun _ _ _ => fun _ _ _ _ _ => .no) (fun _ _ => fun _ _ _ _ _ => .no) (fun _ _ => fun _ _ _ _ _ => .no) (fun _ => fun _ _ _ _ _ => .no) ⟨⟩ (fun _ _ _ _ => ⟨⟩) (un (argB c) F) co n F σ L)
   rw [hv]
   cases ev A c <;> try trivial
   rename_i t
   obtain ⟨bits,log,vs⟩ := L
   cases bits with
   | nil => trivial
   | cons bt bs =>
    cases bt with
    | true => exact SimO.told (iha A F σ ⟨bs,(t,true) :: log,vs⟩ h) (fun e => by rw [show t = true from e])
    | false => exact SimO.told (ihb A F σ ⟨bs,(t,false) :: log,vs⟩ h) (fun e => by rw [show t = false from e])
 | blk i b ih =>
  intro A F σ L h
  show SimO (eBlk i (exec M call n b) A σ) L (un (ub (jito orc M.pt M.mt b) fun ja => (⟨fun call n F σ L => RJo.rec (motive := fun _ => RJo) .no (fun F σ L => .nrm F σ L) (fun j F σ L => Bool.rec (motive := fun _ => RJo) (.ext j F σ L) (.nrm F σ L) (Nat.beq j i)) (fun F σ L => .ret F σ L) (ja call n F σ L)⟩ : Bx CJo)) co n F σ L)
  simp only [un_ub,un_mk]
  unfold eBlk
  have hs := ih A F σ L h
  revert hs
  generalize exec M call n b A σ = r
  generalize un (jito orc M.pt M.mt b) co n F σ L = r'
  intro hs
  cases r' with
  | no => trivial
  | nrm F1 σ1 L1 => intro h1; obtain ⟨⟨A1,e,hA⟩,hL⟩ := hs h1; subst e; exact ⟨⟨A1,rfl,hA⟩,hL⟩
  | ret F1 σ1 L1 => intro h1; obtain ⟨⟨A1,e,hA⟩,hL⟩ := hs h1; subst e; exact ⟨⟨A1,rfl,hA⟩,hL⟩
  | ext j F1 σ1 L1 =>
   show SimO _ L (Bool.rec (motive := fun _ => RJo) (.ext j F1 σ1 L1) (.nrm F1 σ1 L1) (Nat.beq j i))
   cases hj : Nat.beq j i with
   | true => intro h1; obtain ⟨⟨A1,e,hA⟩,hL⟩ := hs h1; subst e; exact ⟨⟨A1,by simp only [hj],hA⟩,hL⟩
   | false => intro h1; obtain ⟨⟨A1,e,hA⟩,hL⟩ := hs h1; subst e; exact ⟨⟨A1,by simp only [hj],hA⟩,hL⟩
 | loop b ih =>
  intro A F σ L h
  show SimO (loopF (exec M call n b) n A σ) L (un (ub (jito orc M.pt M.mt b) fun ja => (⟨fun call n F σ L => lpO ja n call n F σ L⟩ : Bx CJo)) co n F σ L)
  simp only [un_ub,un_mk]
  exact lpO_ok ih n A F σ L h
 | exit i => intro A F σ L h; exact fun hL => ⟨⟨A,rfl,h⟩,hL⟩
 | ret => intro A F σ L h; exact fun hL => ⟨⟨A,rfl,h⟩,hL⟩
 | bad => intro A F σ L h; trivial
noncomputable def posIn (p : Pos) (l : List Pos) : Bool := List.rec (motive := fun _ => Bool) false (fun q _ ih => Bool.rec (motive := fun _ => Bool) ih true (p.beq q)) l
inductive FnO where
 | no | spec (tell : Bool) (s : Nat) | code (tell : Bool) (nt : Nat) (b : CJo) (r : FJ → St → Option (List V))
noncomputable def fnO (oc oa : List Pos) (tab : T FnE) (pt : List Nat) (mt : List (Nat × String × Pos)) (f : Pos) : FnO := Option.rec (motive := fun _ => FnO) .no (FnE.rec (motive := fun _ => FnO)
 (fun nt b res => Bx.rec (motive := fun _ => FnO) (fun jb => Bx.rec (motive := fun _ => FnO) (fun r => .code (posIn f oa) nt jb r) (rsB res)) (jito (posIn f oc) pt mt b)) (fun s => .spec (posIn f oa) s)) (getQ f tab)
noncomputable def unB (bits : List Bool) : Option (Nat × List Bool) := List.rec (motive := fun _ => Option (Nat × List Bool)) none (fun b bs ih => Bool.rec (motive := fun _ => Option (Nat × List Bool)) (some (0,bs)) (match ih with | none => none | some (n,r) => some (Nat.add n 1,r)) b) bits
noncomputable def tellV (v : V) (σ : St) (L : LG) : RTo := (V.rec (motive_1 := fun _ => St → LG → RTo) (motive_2 := fun _ => PUnit) (fun _ _ => .no) (fun B σ L => LG.rec (motive := fun _ => RTo) (fun bits log vs => List.rec (motive := fun _ => RTo) .no (fun b bs _ => .ok (.bool b) σ ⟨bs,(B,b) :: log,vs⟩) bits) L) (fun k n σ L => LG.rec (motive := fun _ => RTo) (fun bits log vs => match unB bits with | none => .no | some (m,bs) => .ok (.int k (.ofNat m)) σ ⟨bs,log,(.int k n,.int k (.ofNat m)) :: vs⟩) L) (fun _ => fun _ _ => .no) (fun _ _ => .no) (fun _ _ => fun _ _ => .no) (fun _ _ => .no) (fun _ _ _ _ _ => fun _ _ => .no) (fun _ _ => .no) (fun _ => fun _ _ => .no) (fun _ _ => .no) (fun _ _ _ _ _ => fun _ _ => .no) (fun _ _ => .no) (fun _ _ _ => fun _ _ => .no) (fun _ _ => fun _ _ => .no) (fun _ _ => fun _ _ => .no) (fun _ => fun _ _ => .no) ⟨⟩ (fun _ _ _ _ => ⟨⟩) (v) σ L)
noncomputable def tellO (tell : Bool) (r : RTo) : RTo := Bool.rec (motive := fun _ => RTo) r (RTo.rec (motive := fun _ => RTo) .no (fun v σ L => tellV v σ L) r) tell
theorem tellO_ok {tell : Bool} {r : RTo} {v : V} {σ : St} {L' : LG} (h : tellO tell r = .ok v σ L') : ∃ x L1,r = .ok x σ L1 ∧ (Ob L' → Ob L1 ∧ x = v) := by
 cases tell with
 | false => exact ⟨v,L',h,fun h => ⟨h,rfl⟩⟩
 | true =>
  cases r with
  | no => cases h
  | ok v1 σ1 L1 =>
   have h : tellV v1 σ1 L1 = .ok v σ L' := h
   cases v1 <;> try (cases h; done)
   case bool b h0 =>
    obtain ⟨bits,log,vs⟩ := L1
    cases bits with
    | nil => cases h
    | cons bt bs =>
     have h : RTo.ok (.bool bt) σ1 ⟨bs,(b,bt) :: log,vs⟩ = .ok v σ L' := h
     cases h
     exact ⟨.bool b,⟨bt :: bs,log,vs⟩,rfl,fun h => ⟨h.tail.2,congrArg V.bool (h.tail (bits := bs)).1⟩⟩
   case int k n h0 =>
    obtain ⟨bits,log,vs⟩ := L1
    have h : (match unB bits with | none => RTo.no | some (m,bs) => RTo.ok (.int k (.ofNat m)) σ1 ⟨bs,log,(.int k n,.int k (.ofNat m)) :: vs⟩) = .ok v σ L' := h
    split at h
    ·cases h
    ·cases h
     exact ⟨.int k n,⟨bits,log,vs⟩,rfl,fun h => ⟨⟨h.1,fun y hy => h.2 y (by simp [hy])⟩,h.2 (.int k n,_) (by simp)⟩⟩
noncomputable def endO (r : FJ → St → Option (List V)) (F : FJ) (σ : St) (L : LG) : RTo := Option.rec (motive := fun _ => RTo) .no (fun l => .ok (one l) σ L) (r F σ)
noncomputable def goO (spec : Nat → List V → St → Option (V × St)) (e : FnO) : CFo → Nat → List V → St → LG → RTo := FnO.rec (motive := fun _ => CFo → Nat → List V → St → LG → RTo)
 (fun _ _ _ _ _ => .no) (fun tell s call n vs σ L => tellO tell (toO (spec s vs σ) L))
 (fun tell nt b r call n vs σ L => tellO tell (Bool.rec (motive := fun _ => RTo) .no (RJo.rec (motive := fun _ => RTo) .no (fun F σ L => endO r F σ L) (fun _ _ _ _ => .no) (fun F σ L => endO r F σ L) (b call n (frJ vs .H F0) σ L)) (Nat.ble (llen vs) nt))) e
noncomputable def runO1 (oc oa : List Pos) (tab : T FnE) (pt : List Nat) (mt : List (Nat × String × Pos)) (spec : Nat → List V → St → Option (V × St)) (call : CFo) (n : Nat) (f : Pos) (vs : List V) (σ : St) (L : LG) : RTo := goO spec (fnO oc oa tab pt mt f) call n vs σ L
theorem told_end {r : RT} {tell : Bool} {q : RTo} {L : LG} (hq : ∀ v σ L',q = .ok v σ L' → Ob L' → r = some (v,σ) ∧ Ob L) : ∀ v σ L',tellO tell q = .ok v σ L' → Ob L' → r = some (v,σ) ∧ Ob L := by
 intro v σ L' h hL
 obtain ⟨x,L1,h5,h2⟩ := tellO_ok h
 obtain ⟨h3,h4⟩ := h2 hL
 rw [← h4]
 exact hq _ _ _ h5 h3
theorem runO1_ok (oc oa : List Pos) (M : Mach) {call : CF} {co : CFo} (hc : GoodC call co) (n : Nat) (f : Pos) (vs : List V) (σ : St) (L : LG) : ∀ v σ' L',runO1 oc oa M.tab M.pt M.mt M.spec co n f vs σ L = .ok v σ' L' → Ob L' → runFn1 M call n f vs σ = some (v,σ') ∧ Ob L := by
 unfold runO1 runFn1 fnO
 rw [getQ_eq]
 cases T.get f M.tab with
 | none => intro v σ' L' h; cases h
 | some e =>
  cases e with
  | spec s =>
   refine told_end (q := toO (M.spec s vs σ) L) (fun v σ' L' h hL => ?_)
   obtain ⟨h1,rfl⟩ := toO_ok h
   exact ⟨h1,hL⟩
  | code nt b res =>
   have hj := jito_ok (posIn f oc) M hc n b (frameOf vs .H .nil) (frJ vs .H F0) σ L (FA.fr vs .H FA0)
   intro v σ' L' h hL
   have h : goO M.spec (Bx.rec (motive := fun _ => FnO) (fun jb => Bx.rec (motive := fun _ => FnO) (fun r => .code (posIn f oa) nt jb r) (rsB res)) (jito (posIn f oc) M.pt M.mt b)) co n vs σ L = .ok v σ' L' := h
   revert hj h
   have hr := @FA.rs
   cases hjb : jito (posIn f oc) M.pt M.mt b with
   | mk jb =>
    cases hrs : rsB res with
    | mk r =>
     intro hj h
     have hj : SimO (exec M call n b (frameOf vs .H .nil) σ) L (jb co n (frJ vs .H F0) σ L) := hj
     have hr : ∀ {A : T V} {F : FJ} (_ : FA A F) (σ : St),r F σ = resF res A σ := fun h σ => by
      have := h.rs σ res
      rw [hrs] at this
      exact this
     have h : tellO (posIn f oa) (Bool.rec (motive := fun _ => RTo) .no (RJo.rec (motive := fun _ => RTo) .no (fun F σ L => endO r F σ L) (fun _ _ _ _ => .no) (fun F σ L => endO r F σ L) (jb co n (frJ vs .H F0) σ L)) (Nat.ble (llen vs) nt)) = .ok v σ' L' := h
     refine told_end (fun v σ' L' h hL => ?_) v σ' L' h hL
     simp only
     cases hb : Nat.ble (llen vs) nt with
     | false => rw [hb] at h; cases h
     | true =>
      rw [hb] at h
      have h : RJo.rec (motive := fun _ => RTo) .no (fun F σ L => endO r F σ L) (fun _ _ _ _ => .no) (fun F σ L => endO r F σ L) (jb co n (frJ vs .H F0) σ L) = .ok v σ' L' := h
      revert hj h
      simp only
      generalize exec M call n b (frameOf vs .H .nil) σ = q
      generalize jb co n (frJ vs .H F0) σ L = q'
      intro hj h
      cases q' with
      | no => cases h
      | ext i F1 σ1 L1 => cases h
      | nrm F1 σ1 L1 =>
       have h : endO r F1 σ1 L1 = .ok v σ' L' := h
       unfold endO at h
       cases hres : r F1 σ1 with
       | none => rw [hres] at h; cases h
       | some l =>
        rw [hres] at h
        cases h
        obtain ⟨⟨A,e,hA⟩,hL2⟩ := hj hL
        subst e
        rw [hr hA] at hres
        exact ⟨by simp only [hres],hL2⟩
      | ret F1 σ1 L1 =>
       have h : endO r F1 σ1 L1 = .ok v σ' L' := h
       unfold endO at h
       cases hres : r F1 σ1 with
       | none => rw [hres] at h; cases h
       | some l =>
        rw [hres] at h
        cases h
        obtain ⟨⟨A,e,hA⟩,hL2⟩ := hj hL
        subst e
        rw [hr hA] at hres
        exact ⟨by simp only [hres],hL2⟩
noncomputable def runO (oc oa : List Pos) (M : Mach) (n : Nat) : CFo := Nat.rec (motive := fun _ => CFo) (fun _ _ _ _ => .no) (fun n ih => runO1 oc oa M.tab M.pt M.mt M.spec ih n) n
theorem runO_good (oc oa : List Pos) (M : Mach) : ∀ n,GoodC (runFn M n) (runO oc oa M n) := by
 intro n
 induction n with
 | zero => intro f vs σ L v σ' L' h; cases h
 | succ n ih =>
  intro f vs σ L v σ' L' h hL
  exact runO1_ok oc oa M ih n f vs σ L v σ' L' h hL
noncomputable def resO (r : RTo) : Option (V × List (Bool × Bool) × List (V × V)) := RTo.rec (motive := fun _ => Option (V × List (Bool × Bool) × List (V × V))) none (fun v _ L => some (v,L.log,L.vs)) r
theorem resO_run {oc oa : List Pos} {M : Mach} {n : Nat} {f : Pos} {vs : List V} {σ : St} {bits : List Bool} {v : V} {log : List (Bool × Bool)} {vv : List (V × V)} (h : resO (runO oc oa M n f vs σ ⟨bits,[],[]⟩) = some (v,log,vv)) (hl : ∀ x ∈ log,x.1 = x.2) (hv : ∀ x ∈ vv,x.1 = x.2) : ∃ σ',runFn M n f vs σ = some (v,σ') := by
 cases hr : runO oc oa M n f vs σ ⟨bits,[],[]⟩ with
 | no => rw [hr] at h; cases h
 | ok v1 σ1 L1 =>
  rw [hr] at h
  obtain ⟨bits1,log1,vs1⟩ := L1
  cases h
  exact ⟨σ1,(runO_good oc oa M n f vs σ ⟨bits,[],[]⟩ _ _ _ hr ⟨hl,hv⟩).1⟩
end Go.Proofs.YtldidldbhngmnaaGreatDoor.Hot
namespace Go.Proofs
open Go.Shelf
def Tryz.cloneP_ren : Go.Shelf.Ren := ⟨fun | 5 => 98 | 7 => 146 | n => n,fun | 23 => 75 | 25 => 114 | 3 => 116 | 4 => 4 | 20 => 20 | n => n,fun | n => n⟩
theorem Tryz.cloneP : Go.Proofs.SlLaysW.n5 Tryz.prog Tryz.cloneP_ren := {
 mixed := by kernel_rfl
 f5 := ⟨Tryz.f98.name,by decide,Tryz.func98.trans (congrArg some (by kernel_rfl))⟩
 f7 := Tryz.func146.trans (congrArg some (by kernel_rfl))
 t4 := Tryz.underlying4
 a4 := Tryz.isAgg4
 z4 := Tryz.sizeOf4
 v4 := Tryz.zeroValue4
 t20 := Tryz.underlying20
 a20 := Tryz.isAgg20
 z20 := Tryz.sizeOf20
 v20 := Tryz.zeroValue20
 t23 := Tryz.underlying75
 a23 := Tryz.isAgg75
 z23 := Tryz.sizeOf75
 v23 := Tryz.zeroValue75 }
end Go.Proofs
namespace Go.Proofs.YtldidldbhngmnaaGreatDoor
set_option maxRecDepth 100000
open Go Go.Proofs.YtldidldbhngmnaaGreatDoor Go.RowKit
theorem Rep.copyMap {ι : Nm} {σ : St} {w : World} (R : Rep ι σ w) {p : Pos} {es : List ME} {ck : Nat} {ks : KSh} (hp : T.get p σ.h = some (.map es ck ks)) {pl : Pl} {es' : Array MapEntry} (hι : ι p = some pl) (hb : w.heap[pl.blk]? = some (.map es' ck)) :
  Rep (nmSet ι σ.nx ⟨w.heap.size,0,0,1⟩) ⟨T.set (.map es ck ks) σ.nx σ.h,σ.nx.succ⟩ (w.alloc (.map es' ck)) ∧
  G σ.nx.nat ι σ w (nmSet ι σ.nx ⟨w.heap.size,0,0,1⟩) ⟨T.set (.map es ck ks) σ.nx σ.h,σ.nx.succ⟩ (w.alloc (.map es' ck)) := by
 obtain ⟨h1,h2⟩ := R.fresh
 have hn := Pos.succ_nat σ.nx
 have hx : Ext ι (nmSet ι σ.nx ⟨w.heap.size,0,0,1⟩) := nmSet_ext h1
 obtain ⟨pl2,es2,k1,k2,k3,k4,k5,k6,k7⟩ := R.ob p _ hp
 rw [hι] at k1; cases k1
 rw [hb] at k3; cases k3
 refine R.push (nx := σ.nx.succ) h1 h2 (by omega) (by omega) (fun q hq => by cases hq) ?_ ?_ (Nat.le_refl _)
 ·exact ⟨_,es',nmSet_self _ _ _,rfl,by rw [heap_alloc_if,if_pos rfl],k4,fun i x y hx' hy => ⟨(k5 i x y hx' hy).1.mono hx,(k5 i x y hx' hy).2.1.mono hx,(k5 i x y hx' hy).2.2⟩,k6,k7⟩
 ·exact ⟨(fun h => by cases h),(fun _ => ⟨es',ck,by rw [heap_alloc_if,if_pos rfl]⟩),(fun h => by cases h),(fun h => by cases h),(by show 1 ≤ 3; omega)⟩
noncomputable def mcSpec (vs : List V) (σ : St) : Option (V × St) := match vs with
 | [.nilm] => some (.nilm,σ)
 | [.map p] => (match T.get p σ.h with
  | some (.map es ck ks) => some (.map σ.nx,⟨T.set (.map es ck ks) σ.nx σ.h,σ.nx.succ⟩)
  | _ => none)
 | _ => none
theorem mc_ok {ρ : Go.Shelf.Ren} (L : Go.Proofs.SlLaysW.n5 Tryz.prog ρ) {vs : List V} {σ : St} {v : V} {σ' : St} (h : mcSpec vs σ = some (v,σ')) {ι : Nm} {w : World} {args : Array Value} (R : Rep ι σ w) (hv : VRs ι vs args.toList) : Calls Tryz.prog (ρ.f 5) args w (Post ι σ w v σ') := by
 unfold mcSpec at h
 split at h
 ·cases h
  obtain ⟨al⟩ := args
  have hl : 1 = al.length := hv.1
  match al,hl,hv with
  | [x],_,hv =>
   have hx := hv.head
   have hxv : x = .map none := by cases hx; rfl
   subst hxv
   refine (AnyW.maps_Clone_nil L w).mono ?_
   rintro e w' ⟨rfl,rfl⟩
   exact ⟨ι,_,rfl,.nilm,R,⟨.refl ι,fun _ _ => rfl,Nat.le_refl _,Nat.le_refl _,rfl,rfl,rfl,fun r hr _ => rfl,fun _ _ h => h,fun x y h1 h2 => by rw [h2] at h1; cases h1⟩⟩
 ·rename_i p
  split at h
  ·rename_i es ck ks hp
   cases h
   obtain ⟨al⟩ := args
   have hl : 1 = al.length := hv.1
   match al,hl,hv with
   | [x],_,hv =>
    have hx := hv.head
    obtain ⟨pl,es',k1,k2,k3,_⟩ := R.ob p _ hp
    have hxv : x = .map (some pl.blk) := by
     cases hx with
     | map _ pl' h1 _ => rw [k1] at h1; cases h1; rfl
    subst hxv
    refine (AnyW.maps_Clone L pl.blk es' ck w k3).mono ?_
    rintro e w' ⟨rfl,rfl⟩
    have hm := R.copyMap hp k1 k3
    exact ⟨_,_,rfl,.map _ _ (nmSet_self _ _ _) rfl,hm.1,hm.2⟩
  ·cases h
 ·cases h
end Go.Proofs.YtldidldbhngmnaaGreatDoor
namespace Go.Proofs.YtldidldbhngmnaaGreatDoor
set_option maxRecDepth 100000
open Go Go.Proofs.YtldidldbhngmnaaGreatDoor Go.RowKit
noncomputable def ggSpec (es : Nat) (vs : List V) (σ : St) : Option (V × St) := match vs with
 | [.nils,.int .i64 (.ofNat n)] => (match Nat.ble n 1000000 with
  | true => (match n with
   | 0 => some (.nils,σ)
   | _ + 1 => some (.slice σ.nx 0 0 none es,⟨T.set (.cells [] [] false false) σ.nx σ.h,σ.nx.succ⟩))
  | false => none)
 | _ => none
theorem gg_grow {ρ : Go.Shelf.Ren} (L : Go.Proofs.Lays8.n4 Tryz.prog ρ) {i0 : TypeInfo} {z : Value} {es : Nat} (hi0 : Tryz.prog.info? (ρ.t 25) = some i0) (hz0 : i0.zero = some z) (hs0 : i0.size = es) (hz : z.cells.size = es) (he : 0 < es) (hb0 : i0.bytes ≤ 10000)
  (k : Nat) (hk : 0 < k) (hk2 : k ≤ 1000001) (w : World) : Calls Tryz.prog (ρ.f 4) #[.slice none 0 0,.int .i64 (k : Nat)] w fun e w' => ∃ (C : Array Value) (g : Nat),C.size = g * es ∧ e = .returned (.slice (some ⟨w.heap.size,0,none⟩) 0 g) ∧ w' = w.drew.alloc (.cells C (ρ.t 25)) := by
 have hm : (0 + k) * i0.bytes ≤ 1000001 * 10000 := Nat.mul_le_mul (by omega) hb0
 have h := Any8.slices_Grow_grow L i0 z hi0 hz0 (by rw [hs0]; exact he) none 0 0 k [] w (Nat.le_refl _) (by omega) (by omega) (by omega) (by rw [Nat.zero_mul]; rfl) (fun _ => rfl) (fun a h => by cases h)
 have hG : 0 + k ≤ grownCap w (0 + k) 0 (ρ.t 25) := grownCap_ge w _ _ _
 generalize grownCap w (0 + k) 0 (ρ.t 25) = G at hG h
 refine h.mono ?_
 rintro e w' ⟨h1,h2⟩
 refine ⟨_,G,?_,h1,h2⟩
 rw [Array.size_append,Array.size_append,size_zeroCells,size_zeroCells,hz]
 show 0 + (0 + k - 0) * es + (G - (0 + k)) * es = G * es
 rw [Nat.zero_add,← Nat.add_mul]
 congr 1
 omega
theorem gg_ok {ρ : Go.Shelf.Ren} (L : Go.Proofs.Lays8.n4 Tryz.prog ρ) {i0 : TypeInfo} {z : Value} {es : Nat} (hi0 : Tryz.prog.info? (ρ.t 25) = some i0) (hz0 : i0.zero = some z) (hs0 : i0.size = es) (hz : z.cells.size = es) (he : 0 < es) (hb0 : i0.bytes ≤ 10000)
  {vs : List V} {σ : St} {v : V} {σ' : St} (h : ggSpec es vs σ = some (v,σ')) {ι : Nm} {w : World} {args : Array Value} (R : Rep ι σ w) (hv : VRs ι vs args.toList) : Calls Tryz.prog (ρ.f 4) args w (Post ι σ w v σ') := by
 unfold ggSpec at h
 split at h
 ·rename_i n
  split at h
  ·rename_i hn
   have hn : n ≤ 1000000 := Nat.le_of_ble_eq_true hn
   obtain ⟨al⟩ := args
   have hl : 2 = al.length := hv.1
   match al,hl,hv with
   | [x,y],_,hv =>
    have hx := hv.head
    have hy := hv.tail.head
    have hxv : x = .slice none 0 0 := by cases hx; rfl
    have hyv : y = .int .i64 (n : Nat) := by cases hy; rfl
    subst hxv; subst hyv
    cases n with
    | zero =>
     cases h
     refine (Any8.slices_Grow_room L none 0 0 0 w (by omega) (by omega) (by omega) (by omega)).mono ?_
     rintro e w' ⟨rfl,rfl⟩
     exact ⟨ι,_,rfl,.nils,R,⟨.refl ι,fun _ _ => rfl,Nat.le_refl _,Nat.le_refl _,rfl,rfl,rfl,fun r hr _ => rfl,fun _ _ h => h,fun x y h1 h2 => by rw [h2] at h1; cases h1⟩⟩
    | succ m =>
     cases h
     have hk : m + 1 ≤ 1000001 := by omega
     have hg := gg_grow L hi0 hz0 hs0 hz he hb0 (m + 1) (Nat.succ_pos m) hk w
     clear hn
     refine hg.mono ?_
     rintro e w' ⟨C,g,hC,rfl,rfl⟩
     have hb : Below w.heap.size w (w.drew.alloc (.cells C (ρ.t 25))) := (Below.refl _ w).drew.alloc (Nat.le_refl _) _
     have hm := R.meet hb (g := w.heap.size) (c := C) (Nat.le_refl _) (l := []) (e := ρ.t 25) (by show (w.heap.push _)[w.heap.size]? = _; simp) ⟨by simp,fun i a b ha => by simp at ha⟩ (Nat.zero_le _)
     refine ⟨_,_,rfl,?_,hm.1,hm.2⟩
     exact .slice _ _ _ _ _ ⟨w.heap.size,0,C.size,0⟩ _ _ (nmSet_self _ _ _) rfl (fun _ hn => by cases hn) (Nat.zero_le _) (fun _ => rfl) (by show 0 + 0 + g * es ≤ C.size; omega)
  ·cases h
 ·cases h
end Go.Proofs.YtldidldbhngmnaaGreatDoor
namespace Go.Proofs
open Go.Shelf
def Tryz.growB_ren : Go.Shelf.Ren := ⟨fun | 4 => 158 | n => n,fun | 22 => 48 | 25 => 5 | 3 => 3 | 4 => 4 | 9 => 9 | 20 => 20 | 0 => 0 | n => n,fun | n => n⟩
theorem Tryz.growB : Go.Proofs.Lays8.n4 Tryz.prog Tryz.growB_ren := {
 mixed := by kernel_rfl
 f4 := ⟨Tryz.f158.name,by decide,Tryz.func158.trans (congrArg some (by kernel_rfl))⟩
 t0 := Tryz.underlying0
 a0 := Tryz.isAgg0
 z0 := Tryz.sizeOf0
 v0 := Tryz.zeroValue0
 t3 := Tryz.underlying3
 a3 := Tryz.isAgg3
 z3 := Tryz.sizeOf3
 v3 := Tryz.zeroValue3
 t4 := Tryz.underlying4
 a4 := Tryz.isAgg4
 z4 := Tryz.sizeOf4
 v4 := Tryz.zeroValue4
 t9 := Tryz.underlying9
 a9 := Tryz.isAgg9
 z9 := Tryz.sizeOf9
 v9 := Tryz.zeroValue9
 t20 := Tryz.underlying20
 a20 := Tryz.isAgg20
 z20 := Tryz.sizeOf20
 v20 := Tryz.zeroValue20
 t22 := Tryz.underlying48
 a22 := Tryz.isAgg48
 z22 := Tryz.sizeOf48
 v22 := Tryz.zeroValue48 }
end Go.Proofs
namespace Go.Proofs.YtldidldbhngmnaaGreatDoor.Ir
set_option maxRecDepth 100000
open Go Go.Proofs.YtldidldbhngmnaaGreatDoor
noncomputable def bcSpec (vs : List V) (σ : St) : Option (V × St) := match vs with
 | [.slice p o n _ 1,.slice p' o' n' _ 1] => (match sliceB σ p o n with | some bl => (match sliceB σ p' o' n' with | some bl' => (match lall (fun b => Nat.blt b 256) bl && lall (fun b => Nat.blt b 256) bl' with | true => some (.int .i64 (cmpN bl bl'),σ) | false => none) | none => none) | none => none)
 | _ => none
theorem bytesV_of {ι : Nm} {w : World} {σ : St} (R : Rep ι σ w) {p : Pos} {o n : Nat} {cap : Option Nat} {bl : List Nat} (hb : sliceB σ p o n = some bl) {y : Value} (hv : VR ι (.slice p o n cap 1) y) : bytesV w y bl := by
 obtain ⟨L,kin,fz,ro,h1,h2,h3⟩ := sliceB_eq hb
 obtain ⟨pl,a,c,s1,s2,s3,s4,s5,s6,s7⟩ := hv.slice_inv
 obtain ⟨pl',cc,e,j1,j2,j3,j4,j5,j6⟩ := R.ob p _ h1
 rw [s1] at j1; cases j1
 refine ⟨a,c,by rw [h3]; exact s7,?_,fun i b hi => ?_⟩
 ·by_cases hn : bl = []
  ·exact .inl hn
  ·refine .inr ?_
   have : c ≠ 0 := fun hc => by
    have : bl.length = 0 := by omega
    exact hn (List.eq_nil_of_length_eq_zero this)
   rw [s5 this]
 ·have hlt : i < bl.length := (List.getElem?_eq_some_iff.1 hi).1
  have hc : c ≠ 0 := by omega
  rw [s5 hc]
  have hL : L[o + i]? = some (.int .u8 (.ofNat b)) := by
   have h4 : (bs bl)[i]? = some (.int .u8 (.ofNat b)) := by unfold bs; rw [lmap_eq,List.getElem?_map,hi]; rfl
   rw [← h2,List.getElem?_take,if_pos (by omega),List.getElem?_drop] at h4
   exact h4
  have hlen : o + i < L.length := (List.getElem?_eq_some_iff.1 hL).1
  have hin : pl.st + (o + i) < cc.size := by omega
  have := j6 (o + i) _ _ hL (Array.getElem?_eq_getElem hin)
  have e2 : w.cell? ⟨pl.blk,pl.st + o + i,none⟩ = some cc[pl.st + (o + i)] := by
   simp only [World.cell?,j3]
   rw [show pl.st + o + i = pl.st + (o + i) by omega,Array.getElem?_eq_getElem hin]
   simp
  show w.cell? ⟨pl.blk,pl.st + o + i,none⟩ = _
  rw [e2]
  generalize cc[pl.st + (o + i)] = z at this
  cases this
  rfl
theorem bcmp_ok {vs : List V} {σ : St} {v : V} {σ' : St} (h : bcSpec vs σ = some (v,σ')) {ι : Nm} {w : World} {args : Array Value} (R : Rep ι σ w) (hv : VRs ι vs args.toList) : Calls Tryz.prog (p175.nat - 1) args w (Post ι σ w v σ') := by
 unfold bcSpec at h
 split at h
 ·rename_i p o n cap p' o' n' cap'
  split at h
  ·rename_i bl h1
   split at h
   ·rename_i bl' h2
    split at h
    ·rename_i hb
     cases h
     simp only [Bool.and_eq_true] at hb
     rw [lall_eq,lall_eq] at hb
     obtain ⟨al⟩ := args
     have hl : 2 = al.length := hv.1
     match al,hl,hv with
     | [x,y],_,hv =>
      refine (bcmp_calls (bytesV_of R h1 hv.head) (bytesV_of R h2 hv.tail.head) (fun b hb1 => ?_) (fun b hb1 => ?_)).mono ?_
      ·have := List.all_eq_true.1 hb.1 b hb1
       rw [blt_eq] at this; simpa using this
      ·have := List.all_eq_true.1 hb.2 b hb1
       rw [blt_eq] at this; simpa using this
      ·rintro e w' ⟨rfl,rfl⟩
       refine ⟨ι,_,rfl,.int _ _ ?_,R,.refl _ _ _ _⟩
       rcases cmpN_range bl bl' with h | h | h <;> rw [h] <;> exact ⟨by decide,by decide⟩
    ·cases h
   ·cases h
  ·cases h
 ·cases h
end Go.Proofs.YtldidldbhngmnaaGreatDoor.Ir
namespace Go.Proofs.YtldidldbhngmnaaGreatDoor.Ir
set_option maxRecDepth 100000
open Go Go.Proofs Go.Proofs.YtldidldbhngmnaaGreatDoor Go.RowKit
theorem conv_bytes {w : World} {x : Value} {l : List Nat} (hx : bytesV w x l) (h0 : 0 < l.length) : (convert 48 9 x).run Tryz.prog w = .ok (.string (strOfNums (l.map Int.ofNat))) w := by
 obtain ⟨a,c,rfl,h1,h2⟩ := hx
 have hs : a.spot = none := by
  rcases h1 with rfl | h1
  ·simp at h0
  ·exact h1
 obtain ⟨blk,off,spot⟩ := a
 simp only at hs
 subst hs
 refine run_convert_bytes_arg (w := w) 48 5 Tryz.underlying48 Tryz.underlying5 blk off l.length c (l.map Int.ofNat) (by simp) (fun i hi => ?_) 9 Tryz.underlying9
 have := h2 i l[i] (List.getElem?_eq_getElem hi)
 rw [this]
 simp [List.getD,List.getElem?_map,List.getElem?_eq_getElem hi]
theorem str_beq {l m : List Nat} (hl : ∀ b ∈ l,b < 256) (hm : ∀ b ∈ m,b < 256) : strOfNums (l.map Int.ofNat) = strOfNums (m.map Int.ofNat) ↔ l = m := by
 constructor
 ·intro h
  have h2 : (strOfNums (l.map Int.ofNat)).data.toList.map (fun x => x.toNat) = (strOfNums (m.map Int.ofNat)).data.toList.map (fun x => x.toNat) := by rw [h]
  rw [strOfNums_data,strOfNums_data,List.map_map,List.map_map,List.map_map,List.map_map] at h2
  have e : ∀ k : List Nat,(∀ b ∈ k,b < 256) → k.map (((fun x : UInt8 => x.toNat) ∘ fun n : Int => UInt8.ofNat n.toNat) ∘ Int.ofNat) = k := fun k hk => by
   conv => rhs; rw [← List.map_id k]
   refine List.map_congr_left (fun x hx => ?_)
   have := hk x hx
   simp [Nat.mod_eq_of_lt this]
  rwa [e l hl,e m hm] at h2
 ·rintro rfl; rfl
set_option maxHeartbeats 1000000 in
theorem beq_calls {w : World} {x y : Value} {l m : List Nat} (hx : bytesV w x l) (hy : bytesV w y m) (h0 : 0 < l.length) (h1 : 0 < m.length) (hl : ∀ b ∈ l,b < 256) (hm : ∀ b ∈ m,b < 256) :
  Calls Tryz.prog 204 #[x,y] w fun e w' => e = .returned (.bool (decide (l = m))) ∧ w' = w := by
 have e1 := conv_bytes hx h0
 have e2 := conv_bytes hy h1
 have e3 := str_beq hl hm
 obtain ⟨s1,hs1⟩ : ∃ s,strOfNums (l.map Int.ofNat) = s := ⟨_,rfl⟩
 obtain ⟨s2,hs2⟩ : ∃ s,strOfNums (m.map Int.ofNat) = s := ⟨_,rfl⟩
 rw [hs1] at e1 e3
 rw [hs2] at e2 e3
 have e4 : (s1.toList == s2.toList) = decide (l = m) := by
  rw [Bool.eq_iff_iff,beq_iff_eq,decide_eq_true_iff,← e3,ByteArray.toList_eq,ByteArray.toList_eq]
  exact ⟨fun h => ByteArray.ext (Array.toList_inj.1 h),fun h => by rw [h]⟩
 rw [← e4]
 clear hx hy h0 h1 hl hm hs1 hs2 e3 e4
 go_enter Tryz.func204,Tryz.ntmps204
 go_wp2
 go_ret
 exact ⟨rfl,rfl⟩
noncomputable def leqN (l m : List Nat) : Bool := List.rec (motive := fun _ => List Nat → Bool) (fun m => match m with | [] => true | _ => false) (fun x _ ih m => match m with | [] => false | y :: m => (match Nat.beq x y with | true => ih m | false => false)) l m
theorem leqN_eq : ∀ l m,leqN l m = decide (l = m)
 | [],[] => rfl
 | [],_ :: _ => rfl
 | _ :: _,[] => rfl
 | x :: l,y :: m => by
  show (match Nat.beq x y with | true => leqN l m | false => false) = _
  rw [leqN_eq l m]
  cases h : Nat.beq x y with
  | true => have := Nat.eq_of_beq_eq_true h; subst this; simp
  | false =>
        have : x ≠ y := fun e => by subst e; simp at h
        simp [this]
noncomputable def beSpec (vs : List V) (σ : St) : Option (V × St) := match vs with
 | [.slice p o n _ 1,.slice p' o' n' _ 1] => (match sliceB σ p o n with | some bl => (match sliceB σ p' o' n' with | some bl' => (match lall (fun b => Nat.blt b 256) bl && lall (fun b => Nat.blt b 256) bl' && Nat.blt 0 (llen bl) && Nat.blt 0 (llen bl') with | true => some (.bool (leqN bl bl'),σ) | false => none) | none => none) | none => none)
 | _ => none
theorem beq_ok {vs : List V} {σ : St} {v : V} {σ' : St} (h : beSpec vs σ = some (v,σ')) {ι : Nm} {w : World} {args : Array Value} (R : Rep ι σ w) (hv : VRs ι vs args.toList) : Calls Tryz.prog (p204.nat - 1) args w (Post ι σ w v σ') := by
 unfold beSpec at h
 split at h
 ·rename_i p o n cap p' o' n' cap'
  split at h
  ·rename_i bl h1
   split at h
   ·rename_i bl' h2
    split at h
    ·rename_i hb
     cases h
     simp only [Bool.and_eq_true,blt_eq,decide_eq_true_eq] at hb
     rw [lall_eq,lall_eq,llen_eq,llen_eq] at hb
     obtain ⟨al⟩ := args
     have hl : 2 = al.length := hv.1
     match al,hl,hv with
     | [x,y],_,hv =>
      refine (beq_calls (bytesV_of R h1 hv.head) (bytesV_of R h2 hv.tail.head) hb.1.2 hb.2 (fun b hb1 => ?_) (fun b hb1 => ?_)).mono ?_
      ·have := List.all_eq_true.1 hb.1.1.1 b hb1
       simpa using this
      ·have := List.all_eq_true.1 hb.1.1.2 b hb1
       simpa using this
      ·rintro e w' ⟨rfl,rfl⟩
       rw [← leqN_eq]
       exact ⟨ι,_,rfl,.bool _,R,.refl _ _ _ _⟩
    ·cases h
   ·cases h
  ·cases h
 ·cases h
end Go.Proofs.YtldidldbhngmnaaGreatDoor.Ir
namespace Go.Proofs.YtldidldbhngmnaaGreatDoor.Ir
set_option maxRecDepth 100000
open Go Go.Proofs.YtldidldbhngmnaaGreatDoor
noncomputable def machI : Mach := ⟨tabA,fun _ _ _ => none,E.pt,mts⟩
theorem okI : MOk Tryz.prog E machI (okD E) := mok_of rfl mts_ok mixed tabA_ok (fun f s h => absurd h (noSpec_get tabA_no f s))
noncomputable def agH (vs : List V) (σ : St) : Option (V × St) := runG [] machI (Hot.runJ machI 300) 300 13 g200 g200r vs σ
theorem agH_ok {vs : List V} {σ : St} {v : V} {σ' : St} (h : agH vs σ = some (v,σ')) {ι : Nm} {w : World} {args : Array Value} (hG : Gl gs ι) (R : Rep ι σ w) (hv : VRs ι vs args.toList) : Calls Tryz.prog (p200.nat - 1) args w (Post ι σ w v σ') := by
 unfold agH at h
 rw [Hot.runJ_eq] at h
 exact runG_sound (fn := Tryz.f200) (c := (Tryz.f200.body).get!) okI.pt okI.mt mixed (fun x hx => by cases hx) (run_sound okI 300) Tryz.func200 rfl (by decide +kernel) (by decide +kernel) h hG R hv
noncomputable def tabQ : T FnE := T.set (.spec 7) p200 tabA
noncomputable def machQ : Mach := ⟨tabQ,fun s => match s with | 7 => agH | _ => fun _ _ => none,E.pt,mts⟩
theorem tabQ_is : TabIs E tabQ := TabIs.set (p := p200) (e := .spec 7) (tabIs_of tabA_ok) (by decide +kernel)
theorem okQ_ : MOk Tryz.prog E machQ (okD E) := mok_of2 rfl mts_ok mixed tabQ_is (fun f s h vs σ v σ' hs ι w args hG R hv => by
 have h : T.get f (T.set (.spec 7) p200 tabA) = some (.spec s) := h
 rw [T.get_set] at h
 split at h
 ·rename_i e; cases h; subst e; exact agH_ok hs hG R hv
 ·exact absurd h (noSpec_get tabA_no f s))
noncomputable def ssF (vs : List V) (σ : St) : Option (V × St) := match ssSpec vs σ with | some r => some r | none => Hot.runJ machQ 300 p132 vs σ
theorem ssF_ok {vs : List V} {σ : St} {v : V} {σ' : St} (h : ssF vs σ = some (v,σ')) {ι : Nm} {w : World} {args : Array Value} (hG : Gl gs ι) (R : Rep ι σ w) (hv : VRs ι vs args.toList) : Calls Tryz.prog (p132.nat - 1) args w (Post ι σ w v σ') := by
 unfold ssF at h
 split at h
 ·rename_i hr; cases h; exact ss_ok hr R hv
 ·rw [Hot.runJ_eq] at h
  exact (run_sound okQ_ 300 _ _ _ _ _ h).2 ι w args hG R hv
noncomputable def tabP : T FnE := T.set (.spec 1) p132 (T.set (.spec 5) p175 tabA)
noncomputable def machP : Mach := ⟨tabP,fun s => match s with | 1 => ssF | 5 => bcSpec | _ => fun _ _ => none,E.pt,mts⟩
theorem tabP_is : TabIs E tabP := TabIs.set (p := p132) (e := .spec 1) (TabIs.set (p := p175) (e := .spec 5) (tabIs_of tabA_ok) (by decide +kernel)) (by decide +kernel)
theorem okP_ : MOk Tryz.prog E machP (okD E) := mok_of2 rfl mts_ok mixed tabP_is (fun f s h vs σ v σ' hs ι w args hG R hv => by
 have h : T.get f (T.set (.spec 1) p132 (T.set (.spec 5) p175 tabA)) = some (.spec s) := h
 rw [T.get_set,T.get_set] at h
 split at h
 ·rename_i e; cases h; subst e; exact ssF_ok hs hG R hv
 ·split at h
  ·rename_i e; cases h; subst e; exact bcmp_ok hs R hv
  ·exact absurd h (noSpec_get tabA_no f s))
noncomputable def its : List (Nat × List IntKind) := [(172,kk .u8 32)]
theorem its_ok : ∀ x ∈ its,KeysOne Tryz.prog x.1 x.2 := fun x hx => by
 have : x = (172,kk .u8 32) := by simpa [its] using hx
 subst this
 exact keys_one
noncomputable def ptd (vs : List V) (σ : St) : Option (V × St) := runG its machP (Hot.runJ machP 300) 300 60 g86 g86r vs σ
theorem ptd_ok {vs : List V} {σ : St} {v : V} {σ' : St} (h : ptd vs σ = some (v,σ')) {ι : Nm} {w : World} {args : Array Value} (hG : Gl gs ι) (R : Rep ι σ w) (hv : VRs ι vs args.toList) : Calls Tryz.prog (p86.nat - 1) args w (Post ι σ w v σ') := by
 unfold ptd at h
 rw [Hot.runJ_eq] at h
 exact runG_sound (fn := Tryz.f86) (c := (Tryz.f86.body).get!) okP_.pt okP_.mt mixed its_ok (run_sound okP_ 300) Tryz.func86 rfl (by decide +kernel) (by decide +kernel) h hG R hv
theorem gr_ok {vs : List V} {σ : St} {v : V} {σ' : St} (h : ggSpec 1 vs σ = some (v,σ')) {ι : Nm} {w : World} {args : Array Value} (R : Rep ι σ w) (hv : VRs ι vs args.toList) : Calls Tryz.prog (p158.nat - 1) args w (Post ι σ w v σ') :=
 gg_ok (i0 := (Tryz.prog.info? 5).get!) (z := ((Tryz.prog.info? 5).get!.zero).get!) (es := 1) Tryz.growB (by kernel_rfl) (by kernel_rfl) (by kernel_rfl) (by kernel_rfl) (by decide) (Nat.le_of_ble_eq_true (by kernel_rfl)) h R hv
noncomputable def specB (s : Nat) : List V → St → Option (V × St) := match s with
 | 0 => shSpecK lens (some shE)
 | 2 => ggSpec 1
 | 4 => numSpecN
 | 5 => bcSpec
 | 6 => ptd
 | 8 => mcSpec
 | 9 => beSpec
 | 3 => onceSpec sg0 (.bool true)
 | _ => fun _ _ => none
noncomputable def tabB : T FnE := T.set (.spec 0) p35 (T.set (.spec 0) p114 (T.set (.spec 2) p158 (T.set (.spec 4) p8 (T.set (.spec 5) p175 (T.set (.spec 6) p86 (T.set (.spec 8) p98 (T.set (.spec 9) p204 tabA)))))))
noncomputable def machB : Mach := ⟨tabB,specB,E.pt,mts⟩
theorem tabB_is : TabIs E tabB := TabIs.set (p := p35) (e := .spec 0) (TabIs.set (p := p114) (e := .spec 0) (TabIs.set (p := p158) (e := .spec 2) (TabIs.set (p := p8) (e := .spec 4) (TabIs.set (p := p175) (e := .spec 5) (TabIs.set (p := p86) (e := .spec 6) (TabIs.set (p := p98) (e := .spec 8) (TabIs.set (p := p204) (e := .spec 9) (tabIs_of tabA_ok) (by decide +kernel)) (by decide +kernel)) (by decide +kernel)) (by decide +kernel)) (by decide +kernel)) (by decide +kernel)) (by decide +kernel)) (by decide +kernel)
theorem specB_ok {f : Pos} {s : Nat} (h : T.get f tabB = some (.spec s)) {vs : List V} {σ : St} {v : V} {σ' : St} (hs : specB s vs σ = some (v,σ')) {ι : Nm} {w : World} {args : Array Value} (hG : Gl gs ι) (R : Rep ι σ w) (hv : VRs ι vs args.toList) : Calls Tryz.prog (f.nat - 1) args w (Post ι σ w v σ') := by
 unfold tabB at h
 rw [T.get_set,T.get_set,T.get_set,T.get_set,T.get_set,T.get_set,T.get_set,T.get_set] at h
 split at h
 ·rename_i e; cases h; subst e; exact sha_ref (by rw [← shSpecK_eq]; exact hs) hG R hv
 ·split at h
  ·rename_i e; cases h; subst e; exact sha_dig (by rw [← shSpecK_eq]; exact hs) hG R hv
  ·split at h
   ·rename_i e; cases h; subst e; exact gr_ok hs R hv
   ·split at h
    ·rename_i e; cases h; subst e; exact num_sound (f := p8) (fun n b h1 h2 h3 h4 w => number_calls n b h1 h2 h3 h4 w) (numSpecN_eq hs) R hv
    ·split at h
     ·rename_i e; cases h; subst e; exact bcmp_ok hs R hv
     ·split at h
      ·rename_i e; cases h; subst e; exact ptd_ok hs hG R hv
      ·split at h
       ·rename_i e; cases h; subst e; exact mc_ok Tryz.cloneP hs R hv
       ·split at h
        ·rename_i e; cases h; subst e; exact beq_ok hs R hv
        ·exact absurd h (noSpec_get tabA_no f s)
theorem okB : MOk Tryz.prog E machB (okD E) := mok_of2 rfl mts_ok mixed tabB_is (fun f s h vs σ v σ' hs ι w args hG R hv => specB_ok h hs hG R hv)
noncomputable def tabC : T FnE := T.set (.spec 3) p5 tabB
noncomputable def machC : Mach := ⟨tabC,specB,E.pt,mts⟩
theorem tabC_is : TabIs E tabC := TabIs.set (p := p5) (e := .spec 3) tabB_is (by decide +kernel)
theorem first_run : okV (Hot.runJ machB 300 p5 [] sg0) (.bool true) = true := by decide +kernel
theorem okC_ : MOk Tryz.prog E machC (okD E) := mok_of2 rfl mts_ok mixed tabC_is (fun f s h vs σ v σ' hs ι w args hG R hv => by
 have h : T.get f (T.set (.spec 3) p5 tabB) = some (.spec s) := h
 rw [T.get_set] at h
 split at h
 ·rename_i e; cases h; subst e
  exact once_sound (f := p5) (s0 := sg0) (call := Hot.runJ machB 300) (by rw [Hot.runJ_eq]; exact run_sound okB 300) gs_lt' sg0_ro (bare_bool _) (okV_run first_run) hs hG R hv
 ·exact specB_ok h hs hG R hv)
theorem specC_lt {f : Pos} {s : Nat} (h : T.get f tabC = some (.spec s)) : Nat.blt s 10 = true := by
 unfold tabC tabB at h
 rw [T.get_set,T.get_set,T.get_set,T.get_set,T.get_set,T.get_set,T.get_set,T.get_set,T.get_set] at h
 repeat' (split at h)
 all_goals first | (cases h; rfl) | exact absurd h (noSpec_get tabA_no f s)
end Go.Proofs.YtldidldbhngmnaaGreatDoor.Ir
namespace Go.Proofs.YtldidldbhngmnaaGreatDoor
open Go Go.RowKit
noncomputable def nmsV (v : V) : List Pos → List Pos := V.rec (motive_1 := fun _ => List Pos → List Pos) (motive_2 := fun _ => List Pos → List Pos) (fun l => l) (fun _ l => l) (fun _ _ l => l) (fun _ l => l) (fun l => l)
 (fun p _ l => p :: l) (fun l => l) (fun p _ _ _ _ l => p :: l) (fun l => l) (fun p l => p :: l)
 (fun l => l) (fun _ _ _ _ _ l => l) (fun l => l) (fun _ _ ih l => ih l) (fun _ ih l => ih l) (fun _ ih l => ih l) (fun _ l => l) (fun l => l) (fun _ _ ih ih2 l => ih (ih2 l)) v
noncomputable def nmsL (vs : List V) (l : List Pos) : List Pos := List.rec (motive := fun _ => List Pos) l (fun v _ ih => nmsV v ih) vs
noncomputable def memP (p : Pos) (l : List Pos) : Bool := List.rec (motive := fun _ => Bool) false (fun x _ ih => match x.beq p with | true => true | false => ih) l
noncomputable def reachN (h : T Ob) (n : Nat) : List Pos → List Pos → List Pos := Nat.rec (motive := fun _ => List Pos → List Pos → List Pos) (fun _ acc => acc) (fun _ ih todo acc => match todo with
 | [] => acc
 | p :: l => (match memP p acc with
  | true => ih l acc
  | false => (match T.get p h with | some (.cells c _ _ _) => ih (nmsL c l) (p :: acc) | _ => ih l (p :: acc)))) n
noncomputable def mkVw (l : List Pos) : Pos → Vw := List.rec (motive := fun _ => Pos → Vw) (fun _ => []) (fun p _ ih q => (q,p) :: ih q.succ) l
noncomputable def endVw (l : List Pos) : Pos → Pos := List.rec (motive := fun _ => Pos → Pos) (fun q => q) (fun _ _ ih q => ih q.succ) l
noncomputable def frz (o : Ob) : Ob := match o with | .cells l _ _ _ => .cells l [] false true | _ => .dead
noncomputable def hViewF (l0 : Vw) (h : T Ob) (l : Vw) : T Ob := List.rec (motive := fun _ => T Ob) .nil (fun x _ ih => match T.get x.2 h with | some o => T.set (frz (renO (bwd l0) o)) x.1 ih | none => ih) l
theorem hViewF_get {l0 : Vw} {h : T Ob} {q : Pos} : ∀ (l : Vw),T.get q (hViewF l0 h l) = (T.get q (hView l0 h l)).map frz
 | [] => by show T.get q (.nil : T Ob) = (T.get q (.nil : T Ob)).map frz; rw [T.get_nil]; rfl
 | x :: l => by
  show T.get q (match T.get x.2 h with | some o => T.set (frz (renO (bwd l0) o)) x.1 (hViewF l0 h l) | none => hViewF l0 h l) = (T.get q (match T.get x.2 h with | some o => T.set (renO (bwd l0) o) x.1 (hView l0 h l) | none => hView l0 h l)).map frz
  split
  ·rw [T.get_set,T.get_set]
   split
   ·rfl
   ·exact hViewF_get l
  ·exact hViewF_get l
noncomputable def pureV (call : Pos → List V → St → Option (V × St)) (f : Pos) (N : Nat) (l : Vw) (nx : Pos) (vs : List V) (σ : St) : Option (V × St) := match vwOk N nx l && hVwOk l σ.h l && Nat.ble N nx.nat with
 | true => (match call f (renL (bwd l) vs) ⟨hViewF l σ.h l,nx⟩ with
  | some (out,_) => some (ren (fun _ => none) out,σ)
  | none => none)
 | false => none
section
variable {P : Program}
theorem frz_wr (o : Ob) : (frz o).wr = false := by cases o <;> rfl
theorem frz_kin (o : Ob) : (frz o).kin = [] := by cases o <;> rfl
theorem Rep.frozen {ι : Nm} {h h' : T Ob} {nx : Pos} {w : World} (R : Rep ι ⟨h,nx⟩ w) (hk : ∀ p o,T.get p h = some o → o.kin = []) (hh : ∀ p,T.get p h' = (T.get p h).map frz) : Rep ι ⟨h',nx⟩ w := by
 have inv : ∀ p o,T.get p h' = some o → ∃ o',T.get p h = some o' ∧ o = frz o' := fun p o ho => by
  rw [hh] at ho
  cases hg : T.get p h with
  | none => rw [hg] at ho; cases ho
  | some o' => rw [hg] at ho; cases ho; exact ⟨o',rfl,rfl⟩
 constructor
 ·intro p o ho
  obtain ⟨o',h1,rfl⟩ := inv p o ho
  have := R.ob p o' h1
  cases o' with
  | cells l kin fz ro => exact this
  | map es ck ks => trivial
  | mit m a b c => trivial
  | sit l n => trivial
  | dead => trivial
 ·exact R.pl
 ·exact R.dom
 ·intro p o ho
  obtain ⟨o',h1,rfl⟩ := inv p o ho
  exact R.hdom p o' h1
 ·intro p o q o2 a b h1 l1 h2 l2 i1 i2 hab hne
  obtain ⟨o',g1,rfl⟩ := inv p o h1
  obtain ⟨o2',g2,rfl⟩ := inv q o2 h2
  have lv : ∀ o : Ob,(frz o).live = true → o.live = true := fun o h => by cases o <;> first | rfl | (cases h)
  have ln : ∀ o : Ob,(frz o).live = true → (frz o).len = o.len := fun o h => by cases o <;> first | rfl | (cases h)
  rcases R.sep2 p o' q o2' a b g1 (lv _ l1) g2 (lv _ l2) i1 i2 hab hne with h | h | h
  ·rw [hk p o' g1] at h; cases h
  ·rw [hk q o2' g2] at h; cases h
  ·refine .inr (.inr ⟨frz_wr _,frz_wr _,?_⟩)
   rw [ln _ l1,ln _ l2]
   exact h.2.2
 ·intro p o q o2 h1 hq
  obtain ⟨o',g1,rfl⟩ := inv p o h1
  rw [frz_kin] at hq; cases hq
 ·intro p o q h1 hq
  obtain ⟨o',g1,rfl⟩ := inv p o h1
  rw [frz_kin] at hq; cases hq
 ·intro p o q o2 a b h1 hw hq
  obtain ⟨o',g1,rfl⟩ := inv p o h1
  rw [frz_kin] at hq; cases hq
theorem pureV_sound {ng : GS} {call : Pos → List V → St → Option (V × St)} (hc : CallOK P ng call) {f : Pos} {N : Nat} (hng : ∀ g ∈ ng,g + 1 < N) {l : Vw} {nx : Pos} {vs : List V} {σ : St} {v : V} {σ' : St} (h : pureV call f N l nx vs σ = some (v,σ'))
  {ι : Nm} {w : World} {args : Array Value} (hG : Gl ng ι) (R : Rep ι σ w) (hv : VRs ι vs args.toList) : Calls P (f.nat - 1) args w (Post ι σ w v σ') := by
 unfold pureV at h
 split at h
 ·rename_i hl
  simp only [Bool.and_eq_true] at hl
  obtain ⟨⟨hl1,hl2⟩,hl3⟩ := hl
  have hN := ble_le hl3
  split at h
  ·rename_i out σ2 hr
   cases h
   have hok : ∀ q p,(q,p) ∈ l → fwd l q = some p ∧ bwd l p = some q ∧ N ≤ q.nat := fun q p h => by
    unfold vwOk at hl1
    rw [lall_eq] at hl1
    have := List.all_eq_true.1 hl1 (q,p) h
    simp only [Bool.and_eq_true] at this
    exact ⟨isP_eq this.1.1.1,isP_eq this.1.1.2,ble_le this.1.2⟩
   have hri : ∀ p q,bwd l p = some q → nmView N l ι q = ι p := fun p q h => by
    unfold nmView
    rw [(hok q p (bwd_mem h)).1]
   have R2 := R.view hl1 hN hl2
   have R3 : Rep (nmView N l ι) ⟨hViewF l σ.h l,nx⟩ w := R2.frozen (fun p o ho => by
    obtain ⟨p',o',_,_,rfl⟩ := hView_get ho
    exact renO_kin _ _) (fun p => hViewF_get l)
   have G2 : Gl ng (nmView N l ι) := fun g p hg hp => by
    obtain ⟨pl,h1,h2⟩ := hG g p hg hp
    refine ⟨pl,?_,h2⟩
    unfold nmView
    have hlt := hng g hg
    cases hf : fwd l p with
    | some z => have := (hok p z (fwd_mem hf)).2.2; omega
    | none => simp only; rw [if_pos (by omega)]; exact h1
   have V2 : VRs (nmView N l ι) (renL (bwd l) vs) args.toList := by
    refine ⟨by rw [renL_eq]; simpa using hv.1,fun i a b ha hb => ?_⟩
    rw [renL_eq,List.getElem?_map] at ha
    cases hx : vs[i]? with
    | none => rw [hx] at ha; cases ha
    | some z => rw [hx] at ha; cases ha; exact (hv.2 i z b hx hb).ren hri
   refine ((hc _ _ _ _ _ hr).2 _ w args G2 R3 V2).mono ?_
   rintro e w' ⟨ι',v',rfl,q1,q2,q3⟩
   have hno : ∀ r,¬ Img (nmView N l ι) ⟨hViewF l σ.h l,nx⟩ r := fun r ⟨p,o,pl,h1,h2,_,_⟩ => by
    have h1 : T.get p (hViewF l σ.h l) = some o := h1
    rw [hViewF_get] at h1
    cases hg : T.get p (hView l σ.h l) with
    | none => rw [hg] at h1; cases h1
    | some o' => rw [hg] at h1; cases h1; rw [frz_wr] at h2; cases h2
   refine ⟨ι,v',rfl,q1.ren (fun p q h => by cases h),R.stays (fun r hr => q3.keep r hr (hno r)),⟨.refl ι,fun _ _ => rfl,Nat.le_refl _,q3.size,q3.os,q3.tape,q3.out,fun r hr _ => q3.keep r hr (hno r),fun _ _ h => h,fun x y h1 h2 => by rw [h2] at h1; cases h1⟩⟩
  ·cases h
 ·cases h
end
end Go.Proofs.YtldidldbhngmnaaGreatDoor
namespace Go.Proofs.YtldidldbhngmnaaGreatDoor
open Go Go.RowKit
abbrev RT0 := Option (V × St)
noncomputable def nN (n : Nat) (k : Nat → RT0) : RT0 := Nat.rec (motive := fun _ => RT0) (k 0) (fun m _ => k (Nat.succ m)) n
theorem nN_eq (n : Nat) (k : Nat → RT0) : nN n k = k n := by cases n <;> rfl
noncomputable def nI (n : Int) (k : Int → RT0) : RT0 := Int.rec (motive := fun _ => RT0) (fun m => nN m fun m => k (.ofNat m)) (fun m => nN m fun m => k (.negSucc m)) n
theorem nI_eq (n : Int) (k : Int → RT0) : nI n k = k n := by
 cases n with
 | ofNat m => exact nN_eq m fun m => k (.ofNat m)
 | negSucc m => exact nN_eq m fun m => k (.negSucc m)
noncomputable def nP (p : Pos) : (Pos → RT0) → RT0 := Pos.rec (motive := fun _ => (Pos → RT0) → RT0) (fun k => k .H) (fun _ ih k => ih fun p => k (.O p)) (fun _ ih k => ih fun p => k (.I p)) p
theorem nP_eq (p : Pos) : ∀ k,nP p k = k p := by
 induction p with
 | H => exact fun k => rfl
 | O p ih => exact fun k => ih _
 | I p ih => exact fun k => ih _
noncomputable def nON (o : Option Nat) (k : Option Nat → RT0) : RT0 := Option.rec (motive := fun _ => RT0) (k none) (fun n => nN n fun n => k (some n)) o
theorem nON_eq (o : Option Nat) (k : Option Nat → RT0) : nON o k = k o := by
 cases o with
 | none => rfl
 | some n => exact nN_eq n fun n => k (some n)
noncomputable def nV (v : V) : (V → RT0) → RT0 := V.rec (motive_1 := fun _ => (V → RT0) → RT0) (motive_2 := fun _ => (List V → RT0) → RT0)
 (fun k => k .u) (fun b k => Bool.rec (motive := fun _ => RT0) (k (.bool false)) (k (.bool true)) b) (fun kd n k => nI n fun n => k (.int kd n)) (fun l k => k (.str l)) (fun k => k .nilp)
 (fun p o k => nP p fun p => nN o fun o => k (.ptr p o)) (fun k => k .nils) (fun p o len cap esz k => nP p fun p => nN o fun o => nN len fun len => nON cap fun cap => nN esz fun esz => k (.slice p o len cap esz)) (fun k => k .nilm) (fun p k => nP p fun p => k (.map p))
 (fun k => k .nilf) (fun f _ _ x y k => nN f fun f => x fun x => y fun y => k (.fn f x y)) (fun k => k .nili) (fun t _ x k => nN t fun t => x fun x => k (.iface t x)) (fun _ x k => x fun x => k (.agg x)) (fun _ x k => x fun x => k (.tup x)) (fun p k => nP p fun p => k (.itr p))
 (fun k => k []) (fun _ _ x xs k => x fun x => xs fun xs => k (x :: xs)) v
noncomputable def nL (l : List V) : (List V → RT0) → RT0 := List.rec (motive := fun _ => (List V → RT0) → RT0) (fun k => k []) (fun v _ ih k => nV v fun v => ih fun l => k (v :: l)) l
noncomputable def nVs (l : List V) : (List V → RT0) → RT0 := V.rec_1 (motive_1 := fun _ => (V → RT0) → RT0) (motive_2 := fun _ => (List V → RT0) → RT0)
 (fun k => k .u) (fun b k => Bool.rec (motive := fun _ => RT0) (k (.bool false)) (k (.bool true)) b) (fun kd n k => nI n fun n => k (.int kd n)) (fun l k => k (.str l)) (fun k => k .nilp)
 (fun p o k => nP p fun p => nN o fun o => k (.ptr p o)) (fun k => k .nils) (fun p o len cap esz k => nP p fun p => nN o fun o => nN len fun len => nON cap fun cap => nN esz fun esz => k (.slice p o len cap esz)) (fun k => k .nilm) (fun p k => nP p fun p => k (.map p))
 (fun k => k .nilf) (fun f _ _ x y k => nN f fun f => x fun x => y fun y => k (.fn f x y)) (fun k => k .nili) (fun t _ x k => nN t fun t => x fun x => k (.iface t x)) (fun _ x k => x fun x => k (.agg x)) (fun _ x k => x fun x => k (.tup x)) (fun p k => nP p fun p => k (.itr p))
 (fun k => k []) (fun _ _ x xs k => x fun x => xs fun xs => k (x :: xs)) l
theorem nV_eq (v : V) : ∀ k,nV v k = k v := by
 refine V.rec (motive_1 := fun v => ∀ k,nV v k = k v) (motive_2 := fun l => ∀ k,nVs l k = k l) ?_ ?_ ?_ ?_ ?_ ?_ ?_ ?_ ?_ ?_ ?_ ?_ ?_ ?_ ?_ ?_ ?_ ?_ ?_ v
 ·exact fun k => rfl
 ·intro b k; cases b <;> rfl
 ·intro kd n k; exact nI_eq n fun n => k (.int kd n)
 ·exact fun l k => rfl
 ·exact fun k => rfl
 ·intro p o k; exact (nP_eq p fun p => nN o fun o => k (.ptr p o)).trans (nN_eq o fun o => k (.ptr p o))
 ·exact fun k => rfl
 ·intro p o len cap esz k
  exact (nP_eq p fun p => nN o fun o => nN len fun len => nON cap fun cap => nN esz fun esz => k (.slice p o len cap esz)).trans ((nN_eq o fun o => nN len fun len => nON cap fun cap => nN esz fun esz => k (.slice p o len cap esz)).trans ((nN_eq len fun len => nON cap fun cap => nN esz fun esz => k (.slice p o len cap esz)).trans ((nON_eq cap fun cap => nN esz fun esz => k (.slice p o len cap esz)).trans (nN_eq esz fun esz => k (.slice p o len cap esz)))))
 ·exact fun k => rfl
 ·intro p k; exact nP_eq p fun p => k (.map p)
 ·exact fun k => rfl
 ·intro f x y hx hy k; exact (nN_eq f fun f => nVs x fun x => nVs y fun y => k (.fn f x y)).trans ((hx fun x => nVs y fun y => k (.fn f x y)).trans (hy fun y => k (.fn f x y)))
 ·exact fun k => rfl
 ·intro t v hv k; exact (nN_eq t fun t => nV v fun v => k (.iface t v)).trans (hv fun v => k (.iface t v))
 ·intro l hl k; exact hl fun l => k (.agg l)
 ·intro l hl k; exact hl fun l => k (.tup l)
 ·intro p k; exact nP_eq p fun p => k (.itr p)
 ·exact fun k => rfl
 ·intro x xs hx hxs k; exact (hx fun x => nVs xs fun xs => k (x :: xs)).trans (hxs fun xs => k (x :: xs))
theorem nL_eq : ∀ (l : List V) (k),nL l k = k l
 | [],k => rfl
 | v :: l,k => (nV_eq v _).trans (nL_eq l _)
noncomputable def nO (o : Ob) (k : Ob → RT0) : RT0 := match o with | .cells l kin fz ro => nL l fun l => k (.cells l kin fz ro) | o => k o
theorem nO_eq (o : Ob) (k : Ob → RT0) : nO o k = k o := by cases o <;> first | rfl | exact nL_eq _ _
noncomputable def nH (l0 : Vw) (h : T Ob) (l : Vw) : T Ob → (T Ob → RT0) → RT0 := List.rec (motive := fun _ => T Ob → (T Ob → RT0) → RT0) (fun acc k => k acc)
 (fun x _ ih acc k => match T.get x.2 h with | some o => nO (frz (renO (bwd l0) o)) fun o => T.rec (motive := fun _ => RT0) (ih .nil k) (fun a b c _ _ => ih (.node a b c) k) (T.set o x.1 acc) | none => ih acc k) l
theorem nH_eq (l0 : Vw) (h : T Ob) : ∀ (l : Vw) (acc : T Ob) (k),nH l0 h l acc k = k (List.foldl (fun acc x => match T.get x.2 h with | some o => T.set (frz (renO (bwd l0) o)) x.1 acc | none => acc) acc l)
 | [],acc,k => rfl
 | x :: l,acc,k => by
  show (match T.get x.2 h with | some o => nO (frz (renO (bwd l0) o)) fun o => T.rec (motive := fun _ => RT0) (nH l0 h l .nil k) (fun a b c _ _ => nH l0 h l (.node a b c) k) (T.set o x.1 acc) | none => nH l0 h l acc k) = _
  rw [List.foldl_cons]
  split
  ·rename_i o ho
   rw [nO_eq]
   cases hs : T.set (frz (renO (bwd l0) o)) x.1 acc with
   | nil => exact nH_eq l0 h l _ k
   | node a b c => exact nH_eq l0 h l _ k
  ·exact nH_eq l0 h l acc k
noncomputable def vrevA (l : Vw) : Vw → Vw := List.rec (motive := fun _ => Vw → Vw) (fun a => a) (fun x _ ih a => ih (x :: a)) l
theorem vrevA_eq : ∀ (l a : Vw),vrevA l a = l.reverse ++ a
 | [],a => rfl
 | x :: l,a => by show vrevA l (x :: a) = _; rw [vrevA_eq l]; simp
noncomputable def vrev (l : Vw) : Vw := vrevA l []
theorem vrev_eq (l : Vw) : vrev l = l.reverse := by rw [vrev,vrevA_eq]; simp
noncomputable def pureV2 (call : Pos → List V → St → Option (V × St)) (f : Pos) (N : Nat) (l : Vw) (nx : Pos) (vs : List V) (σ : St) : RT0 := match vwOk N nx l && hVwOk l σ.h l && Nat.ble N nx.nat with
 | true => nL (renL (bwd l) vs) fun vs' => nH l σ.h (vrev l) .nil fun h' => nP nx fun nx' => (match call f vs' ⟨h',nx'⟩ with
  | some (out,_) => some (ren (fun _ => none) out,σ)
  | none => none)
 | false => none
noncomputable def pureSpec2 (call : Pos → List V → St → Option (V × St)) (f : Pos) (q0 : Pos) (vs : List V) (σ : St) : RT0 := (fun ns => pureV2 call f q0.nat (mkVw ns q0) (endVw ns q0) vs σ) (reachN σ.h 200 (nmsL vs []) [])
theorem foldl_hView (l0 : Vw) (h : T Ob) : ∀ (l : Vw),List.foldl (fun acc x => match T.get x.2 h with | some o => T.set (frz (renO (bwd l0) o)) x.1 acc | none => acc) .nil l.reverse = hViewF l0 h l
 | [] => rfl
 | x :: l => by
  rw [List.reverse_cons,List.foldl_append,foldl_hView l0 h l]
  rfl
theorem pureV2_eq (call : Pos → List V → St → Option (V × St)) (f : Pos) (N : Nat) (l : Vw) (nx : Pos) (vs : List V) (σ : St) : pureV2 call f N l nx vs σ = pureV call f N l nx vs σ := by
 unfold pureV2 pureV
 rw [nL_eq,nH_eq,nP_eq,vrev_eq,foldl_hView]
 all_goals (generalize (vwOk N nx l && hVwOk l σ.h l && Nat.ble N nx.nat) = b; cases b <;> rfl)
theorem pure2_sound {P : Program} {ng : GS} {call : Pos → List V → St → Option (V × St)} (hc : CallOK P ng call) {f q0 : Pos} (hng : ∀ g ∈ ng,g + 1 < q0.nat) {vs : List V} {σ : St} {v : V} {σ' : St} (h : pureSpec2 call f q0 vs σ = some (v,σ'))
  {ι : Nm} {w : World} {args : Array Value} (hG : Gl ng ι) (R : Rep ι σ w) (hv : VRs ι vs args.toList) : Calls P (f.nat - 1) args w (Post ι σ w v σ') := by
 unfold pureSpec2 at h
 simp only [pureV2_eq] at h
 exact pureV_sound hc hng h hG R hv
end Go.Proofs.YtldidldbhngmnaaGreatDoor
namespace Go.Proofs.YtldidldbhngmnaaGreatDoor.Ir
set_option maxRecDepth 100000
open Go Go.Proofs.YtldidldbhngmnaaGreatDoor
noncomputable def vvT (r : Option (V × List (Bool × Bool) × List (V × V))) : List (V × V) := match r with | some (_,_,l) => l | none => []
noncomputable def logT (r : Option (V × List (Bool × Bool) × List (V × V))) : List (Bool × Bool) := match r with | some (_,l,_) => l | none => []
noncomputable def dgT (l : List (V × V)) : List (V × V) := lmap (fun x => (x.1,x.1)) l
theorem dgT_eq (l : List (V × V)) : ∀ x ∈ dgT l,x.1 = x.2 := by
 unfold dgT
 rw [lmap_eq]
 intro x hx
 obtain ⟨y,_,rfl⟩ := List.mem_map.1 hx
 rfl
noncomputable def fixT (l : List (V × V)) (c j : Nat) (s t : V × V) : List (V × V) := lapp (dgT (ltake l (Nat.sub (llen l) c))) (s :: lapp (dgT (ltake (ldrop l (Nat.succ (Nat.sub (llen l) c))) j)) (t :: dgT (ldrop l (Nat.succ (Nat.succ (Nat.add (Nat.sub (llen l) c) j))))))
theorem fixT_eq {l : List (V × V)} {c j : Nat} {s t : V × V} (hs : s.1 = s.2) (ht : t.1 = t.2) : ∀ x ∈ fixT l c j s t,x.1 = x.2 := by
 unfold fixT
 rw [lapp_eq,lapp_eq]
 intro x hx
 rcases List.mem_append.1 hx with hx | hx
 ·exact dgT_eq _ x hx
 ·rcases List.mem_cons.1 hx with rfl | hx
  ·exact hs
  ·rcases List.mem_append.1 hx with hx | hx
   ·exact dgT_eq _ x hx
   ·rcases List.mem_cons.1 hx with rfl | hx
    ·exact ht
    ·exact dgT_eq _ x hx
noncomputable def tn (a : Int) (m k : Nat) : V × V := (.int .i64 (.ofNat (Int.toNat (Int.emod a (.ofNat m)))),.int .i64 (.ofNat k))
theorem tn_eq {a : Int} {m k : Nat} (h : Int.toNat (Int.emod a (.ofNat m)) = k) : (tn a m k).1 = (tn a m k).2 := by
 unfold tn
 rw [h]
theorem em_lt (n : Int) (k : Nat) (hk : 0 < k) : Int.toNat (Int.emod n (.ofNat k)) < k := by
 have h1 := Int.emod_nonneg n (show (k : Int) ≠ 0 by omega)
 have h2 := Int.emod_lt_of_pos n (show (0 : Int) < k by omega)
 show (n % (k : Int)).toNat < k
 omega
noncomputable def rulesV (g : Nat → Int → Nat) (n : Int) : V := .agg [.int .i64 (.ofNat 5),.int .i64 (.ofNat (g 1 n)),.int .i64 (.ofNat (g 2 n)),.int .i64 (.ofNat (g 3 n)),.int .i64 (.ofNat (g 4 n)),.int .i64 (.ofNat (g 5 n)),.int .i64 (.ofNat (g 6 n)),.int .i64 (.ofNat (g 7 n)),.int .i64 (.ofNat (g 8 n))]
noncomputable def rsSpec (g : Nat → Int → Nat) (vs : List V) (σ : St) : Option (V × St) := match vs with
 | [.int k n] => (match k with | .i64 => some (rulesV g n,σ) | _ => none)
 | _ => none
noncomputable def kOf (n : Int) : Nat := Int.toNat (Int.emod n (.ofNat 6))
noncomputable def colN (j : Nat) : List Nat := match j with | 1 => [1,0,2,1,1,0] | 2 => [3000,700,3000,3000,3000,1048576] | 3 => [2000,2000,300,2000,2000,1048576] | 4 => [200,200,4,200,200,200] | 5 => [5,5,5,2,5,50] | 6 => [2000,2000,2000,2000,400,1048576] | 7 => [5,5,5,3,5,50] | _ => [2000,2000,2000,2000,500,1048576]
noncomputable def gK (k : Nat) (j : Nat) (n : Int) : Nat := getN (colN j) k
noncomputable def gR (j : Nat) (n : Int) : Nat := getN (colN j) (kOf n)
theorem gR_eq {n : Int} {k : Nat} (h : Int.toNat (Int.emod n (.ofNat 6)) = k) : rulesV gR n = rulesV (gK k) n := by
 have h : kOf n = k := h
 simp only [rulesV,gR,gK,h]
noncomputable def ruT (bits : List Bool) (n : Int) := Hot.resO (Hot.runO [] [p8] machB 300 p6 [.int .i64 n] ⟨.nil,p60⟩ ⟨bits,[],[]⟩)
noncomputable def fixA (l : List (V × V)) (t : V × V) : List (V × V) := lapp (dgT (ltake l (Nat.sub (llen l) 1))) [t]
theorem fixA_eq {l : List (V × V)} {t : V × V} (h : t.1 = t.2) : ∀ x ∈ fixA l t,x.1 = x.2 := by
 unfold fixA
 rw [lapp_eq]
 intro x hx
 rcases List.mem_append.1 hx with hx | hx
 ·exact dgT_eq _ x hx
 ·have : x = t := by simpa using hx
  rw [this]; exact h
theorem ru_0 (n : Int) : ruT [false] n = some (rulesV (gK 0) n,[],fixA (vvT (ruT [false] n)) (tn n 6 0)) := by kernel_rfl
theorem ru_1 (n : Int) : ruT [true,false] n = some (rulesV (gK 1) n,[],fixA (vvT (ruT [true,false] n)) (tn n 6 1)) := by kernel_rfl
theorem ru_2 (n : Int) : ruT [true,true,false] n = some (rulesV (gK 2) n,[],fixA (vvT (ruT [true,true,false] n)) (tn n 6 2)) := by kernel_rfl
theorem ru_3 (n : Int) : ruT [true,true,true,false] n = some (rulesV (gK 3) n,[],fixA (vvT (ruT [true,true,true,false] n)) (tn n 6 3)) := by kernel_rfl
theorem ru_4 (n : Int) : ruT [true,true,true,true,false] n = some (rulesV (gK 4) n,[],fixA (vvT (ruT [true,true,true,true,false] n)) (tn n 6 4)) := by kernel_rfl
theorem ru_5 (n : Int) : ruT [true,true,true,true,true,false] n = some (rulesV (gK 5) n,[],fixA (vvT (ruT [true,true,true,true,true,false] n)) (tn n 6 5)) := by kernel_rfl
theorem ru_all (n : Int) : ∃ σ2,runFn machB 300 p6 [.int .i64 n] ⟨.nil,p60⟩ = some (rulesV gR n,σ2) := by
 have h6 := em_lt n 6 (by decide)
 have hk : Int.toNat (Int.emod n (.ofNat 6)) = 0 ∨ Int.toNat (Int.emod n (.ofNat 6)) = 1 ∨ Int.toNat (Int.emod n (.ofNat 6)) = 2 ∨ Int.toNat (Int.emod n (.ofNat 6)) = 3 ∨ Int.toNat (Int.emod n (.ofNat 6)) = 4 ∨ Int.toNat (Int.emod n (.ofNat 6)) = 5 := by omega
 rcases hk with h | h | h | h | h | h
 ·rw [gR_eq h]; exact Hot.resO_run (ru_0 n) (by simp) (fixA_eq (tn_eq h))
 ·rw [gR_eq h]; exact Hot.resO_run (ru_1 n) (by simp) (fixA_eq (tn_eq h))
 ·rw [gR_eq h]; exact Hot.resO_run (ru_2 n) (by simp) (fixA_eq (tn_eq h))
 ·rw [gR_eq h]; exact Hot.resO_run (ru_3 n) (by simp) (fixA_eq (tn_eq h))
 ·rw [gR_eq h]; exact Hot.resO_run (ru_4 n) (by simp) (fixA_eq (tn_eq h))
 ·rw [gR_eq h]; exact Hot.resO_run (ru_5 n) (by simp) (fixA_eq (tn_eq h))
theorem rulesV_bare (g : Nat → Int → Nat) (n : Int) : Bare (rulesV g n) := bare_agg (fun x hx => by
 simp only [List.mem_cons,List.mem_nil_iff,or_false] at hx
 rcases hx with rfl | rfl | rfl | rfl | rfl | rfl | rfl | rfl | rfl <;> exact bare_int _ _)
theorem rs_ok {vs : List V} {σ : St} {v : V} {σ' : St} (h : rsSpec gR vs σ = some (v,σ')) {ι : Nm} {w : World} {args : Array Value} (hG : Gl gs ι) (R : Rep ι σ w) (hv : VRs ι vs args.toList) : Calls Tryz.prog (p6.nat - 1) args w (Post ι σ w v σ') := by
 unfold rsSpec at h
 split at h
 ·rename_i k n
  cases k <;> first | (cases h; done) | skip
  cases h
  obtain ⟨σ2,hr⟩ := ru_all n
  obtain ⟨l⟩ := args
  have hl : 1 = l.length := hv.1
  match l,hl,hv with
  | [y],_,hv =>
   have hy := hv.head
   cases hy with
   | int _ _ hn =>
    exact call_forget (run_sound okB 300) (f := p6) (s2 := ⟨.nil,p60⟩) gs_lt' (fun p o h => by rw [T.get_nil] at h; cases h) hr (rulesV_bare _ _) hG R (fun p o h => by rw [T.get_nil] at h; cases h) (.cons (.int _ _ hn) .nil)
 ·cases h
theorem m2_ok {f : Pos} {vs : List V} {σ : St} {v : V} {σ' : St} (h : pureSpec2 (Hot.runJ machB 300) f p60 vs σ = some (v,σ')) {ι : Nm} {w : World} {args : Array Value} (hG : Gl gs ι) (R : Rep ι σ w) (hv : VRs ι vs args.toList) : Calls Tryz.prog (f.nat - 1) args w (Post ι σ w v σ') :=
 pure2_sound (call := Hot.runJ machB 300) (by rw [Hot.runJ_eq]; exact run_sound okB 300) gs_lt' h hG R hv
noncomputable def tabW : T FnE := T.set (.spec 12) p160 (T.set (.spec 13) p66 (T.set (.spec 14) p120 (T.set (.spec 15) p13 tabC)))
noncomputable def machW : Mach := ⟨tabW,fun s => match s with | 12 => pureSpec2 (Hot.runJ machB 300) p160 p60 | 13 => pureSpec2 (Hot.runJ machB 300) p66 p60 | 14 => pureSpec2 (Hot.runJ machB 300) p120 p60 | 15 => pureSpec2 (Hot.runJ machB 300) p13 p60 | s => specB s,E.pt,mts⟩
theorem tabW_is : TabIs E tabW := TabIs.set (p := p160) (e := .spec 12) (TabIs.set (p := p66) (e := .spec 13) (TabIs.set (p := p120) (e := .spec 14) (TabIs.set (p := p13) (e := .spec 15) tabC_is (by decide +kernel)) (by decide +kernel)) (by decide +kernel)) (by decide +kernel)
theorem okW_ : MOk Tryz.prog E machW (okD E) := mok_of2 rfl mts_ok mixed tabW_is (fun f s h vs σ v σ' hs ι w args hG R hv => by
 have h : T.get f (T.set (.spec 12) p160 (T.set (.spec 13) p66 (T.set (.spec 14) p120 (T.set (.spec 15) p13 tabC)))) = some (.spec s) := h
 rw [T.get_set,T.get_set,T.get_set,T.get_set] at h
 split at h
 ·rename_i e; cases h; subst e; exact m2_ok hs hG R hv
 ·split at h
  ·rename_i e; cases h; subst e; exact m2_ok hs hG R hv
  ·split at h
   ·rename_i e; cases h; subst e; exact m2_ok hs hG R hv
   ·split at h
    ·rename_i e; cases h; subst e; exact m2_ok hs hG R hv
    ·have hlt := specC_lt h
     have hs' : specB s vs σ = some (v,σ') := by
      revert hs
      show (match s with | 12 => pureSpec2 (Hot.runJ machB 300) p160 p60 | 13 => pureSpec2 (Hot.runJ machB 300) p66 p60 | 14 => pureSpec2 (Hot.runJ machB 300) p120 p60 | 15 => pureSpec2 (Hot.runJ machB 300) p13 p60 | s => specB s) vs σ = _ → _
      split <;> first | (cases hlt; done) | exact id
     exact (okC_.spec f s h).2 vs σ v σ' hs' ι w args hG R hv)
theorem m3_ok {f : Pos} {vs : List V} {σ : St} {v : V} {σ' : St} (h : pureSpec2 (Hot.runJ machW 300) f p60 vs σ = some (v,σ')) {ι : Nm} {w : World} {args : Array Value} (hG : Gl gs ι) (R : Rep ι σ w) (hv : VRs ι vs args.toList) : Calls Tryz.prog (f.nat - 1) args w (Post ι σ w v σ') :=
 pure2_sound (call := Hot.runJ machW 300) (by rw [Hot.runJ_eq]; exact run_sound okW_ 300) gs_lt' h hG R hv
noncomputable def tabR : T FnE := T.set (.spec 10) p6 (T.set (.spec 11) p37 (T.set (.spec 12) p160 (T.set (.spec 13) p66 (T.set (.spec 14) p120 (T.set (.spec 15) p13 tabC)))))
noncomputable def machR (g : Nat → Int → Nat) : Mach := ⟨tabR,fun s => match s with | 10 => rsSpec g | 11 => pureSpec2 (Hot.runJ machW 300) p37 p60 | 12 => pureSpec2 (Hot.runJ machB 300) p160 p60 | 13 => pureSpec2 (Hot.runJ machB 300) p66 p60 | 14 => pureSpec2 (Hot.runJ machB 300) p120 p60 | 15 => pureSpec2 (Hot.runJ machB 300) p13 p60 | s => specB s,E.pt,mts⟩
theorem tabR_is : TabIs E tabR := TabIs.set (p := p6) (e := .spec 10) (TabIs.set (p := p37) (e := .spec 11) (TabIs.set (p := p160) (e := .spec 12) (TabIs.set (p := p66) (e := .spec 13) (TabIs.set (p := p120) (e := .spec 14) (TabIs.set (p := p13) (e := .spec 15) tabC_is (by decide +kernel)) (by decide +kernel)) (by decide +kernel)) (by decide +kernel)) (by decide +kernel)) (by decide +kernel)
theorem okR_ : MOk Tryz.prog E (machR gR) (okD E) := mok_of2 rfl mts_ok mixed tabR_is (fun f s h vs σ v σ' hs ι w args hG R hv => by
 have h : T.get f (T.set (.spec 10) p6 (T.set (.spec 11) p37 (T.set (.spec 12) p160 (T.set (.spec 13) p66 (T.set (.spec 14) p120 (T.set (.spec 15) p13 tabC)))))) = some (.spec s) := h
 rw [T.get_set,T.get_set,T.get_set,T.get_set,T.get_set,T.get_set] at h
 split at h
 ·rename_i e; cases h; subst e; exact rs_ok hs hG R hv
 ·split at h
  ·rename_i e; cases h; subst e; exact m3_ok hs hG R hv
  ·split at h
   ·rename_i e; cases h; subst e; exact m2_ok hs hG R hv
   ·split at h
    ·rename_i e; cases h; subst e; exact m2_ok hs hG R hv
    ·split at h
     ·rename_i e; cases h; subst e; exact m2_ok hs hG R hv
     ·split at h
      ·rename_i e; cases h; subst e; exact m2_ok hs hG R hv
      ·have hlt := specC_lt h
       have hs' : specB s vs σ = some (v,σ') := by
        revert hs
        show (match s with | 10 => rsSpec gR | 11 => pureSpec2 (Hot.runJ machW 300) p37 p60 | 12 => pureSpec2 (Hot.runJ machB 300) p160 p60 | 13 => pureSpec2 (Hot.runJ machB 300) p66 p60 | 14 => pureSpec2 (Hot.runJ machB 300) p120 p60 | 15 => pureSpec2 (Hot.runJ machB 300) p13 p60 | s => specB s) vs σ = _ → _
        split <;> first | (cases hlt; done) | exact id
       exact (okC_.spec f s h).2 vs σ v σ' hs' ι w args hG R hv)
noncomputable def vrBits : List Bool := [true,true,true,true,true,true,false,false,true,true,true,true,true,true,false,false,true,true,true,true,true,true,false,false,true,true,true,true,true,true,false,false,true,true,true,true,true,true,false,false,true,true,true,true,true,true,false,false,true,true,true,true,true,true,false,false,true,true,true,true,true,true,false,false,true,true,true,true,true,true,false,false,false]
noncomputable def rlog (g : Nat → Int → Nat) (n : Int) : List (Bool × Bool) := logT (Hot.resO (Hot.runO [p28] [] machC 300 p28 [rulesV g n] sg0 ⟨vrBits,[],[]⟩))
noncomputable def logOk (l : List (Bool × Bool)) : Bool := lall (fun x => match x.1,x.2 with | true,true => true | false,false => true | _,_ => false) l
theorem logOk_eq {l : List (Bool × Bool)} (h : logOk l = true) : ∀ x ∈ l,x.1 = x.2 := by
 unfold logOk at h
 rw [lall_eq] at h
 intro x hx
 have := List.all_eq_true.1 h x hx
 obtain ⟨a,b⟩ := x
 cases a <;> cases b <;> first | rfl | (cases this)
theorem rlg_0 (n : Int) : logOk (rlog (gK 0) n) = true := by kernel_rfl
theorem rlg_1 (n : Int) : logOk (rlog (gK 1) n) = true := by kernel_rfl
theorem rlg_2 (n : Int) : logOk (rlog (gK 2) n) = true := by kernel_rfl
theorem rlg_3 (n : Int) : logOk (rlog (gK 3) n) = true := by kernel_rfl
theorem rlg_4 (n : Int) : logOk (rlog (gK 4) n) = true := by kernel_rfl
theorem rlg_5 (n : Int) : logOk (rlog (gK 5) n) = true := by kernel_rfl
theorem rlog_ok (n : Int) : ∀ x ∈ rlog gR n,x.1 = x.2 := by
 have h6 := em_lt n 6 (by decide)
 have hk : Int.toNat (Int.emod n (.ofNat 6)) = 0 ∨ Int.toNat (Int.emod n (.ofNat 6)) = 1 ∨ Int.toNat (Int.emod n (.ofNat 6)) = 2 ∨ Int.toNat (Int.emod n (.ofNat 6)) = 3 ∨ Int.toNat (Int.emod n (.ofNat 6)) = 4 ∨ Int.toNat (Int.emod n (.ofNat 6)) = 5 := by omega
 unfold rlog
 rcases hk with h | h | h | h | h | h
 ·rw [gR_eq h]; exact logOk_eq (rlg_0 n)
 ·rw [gR_eq h]; exact logOk_eq (rlg_1 n)
 ·rw [gR_eq h]; exact logOk_eq (rlg_2 n)
 ·rw [gR_eq h]; exact logOk_eq (rlg_3 n)
 ·rw [gR_eq h]; exact logOk_eq (rlg_4 n)
 ·rw [gR_eq h]; exact logOk_eq (rlg_5 n)
noncomputable def runT (g : Nat → Int → Nat) (bits : List Bool) (n a b : Int) : Option (V × List (Bool × Bool) × List (V × V)) := Hot.resO (Hot.runO [p28] [p8] (machR g) 300 p3 [.int .i64 n,.int .i64 a,.int .i64 b] sg0 ⟨lapp vrBits bits,[],[]⟩)
end Go.Proofs.YtldidldbhngmnaaGreatDoor.Ir
namespace Go.Proofs.YtldidldbhngmnaaGreatDoor
open Go Go.RowKit Go.WideShapes Go.ChangeShapes
section
variable {H : Type} {enc : TypeId × Value → H} {P : Program}
theorem post_of_below {f : Func} {s : ChangeSpec} {apart fresh handsOn again : Bool} {W W' : World} {args : Array Value} {v : Value} {ds gs : List (DataW H)} {before pa pv : List MemPlace}
  (hW : DataW.Whole enc P f.params.toList s.vars apart W args.toList ds gs before)
  (hres : ∀ (b : Nat) (sp : Nat → Bool) (hd : Bool),DataW.TrodAll enc P W' b sp hd f.resultTypes.toList (v.resultList f.resultTypes.size) (s.fn H (ds ++ gs)).results [])
  (hargs : ∀ sp : Nat → Bool,(∀ p ∈ before,sp p.block = true) → DataW.TrodAll enc P W' 0 sp true f.params.toList args.toList (s.fn H (ds ++ gs)).args pa)
  (hvars : ∀ sp : Nat → Bool,(∀ p ∈ before,sp p.block = true) → DataW.TrodVars enc P W' sp s.vars (s.fn H (ds ++ gs)).vars pv)
  (hps : before = pa ++ pv) (hb : Below W.heap.size W W')
  (hok : ∀ (j : Nat) (t : TypeId) (r : Value),f.resultTypes[j]? = some t → (v.resultList f.resultTypes.size)[j]? = some r → Value.okWide P W' .any 0 t r) :
  s.post enc P f apart fresh handsOn again W args v W' := by
 have hlt : ∀ p ∈ before,p.block < W.heap.size := fun p hp => hW.lt p hp
 have hold : ∀ p ∈ before,(fun b => decide (b < W.heap.size)) p.block = true := fun p hp => by simpa using hlt p hp
 refine ⟨ds,gs,before,[],pa,pv,hW,hres _ _ _,hargs _ hold,hvars _ hold,World.keptBut_mono (fun p hp => ⟨hp,?_⟩) (hb.frame (· ∈ before)),fun _ => ?_⟩
 ·rw [hps,List.mem_append] at hp
  exact Or.inr hp
 ·obtain ⟨_,_,_,_,_,hz,hn⟩ := hW
  refine ⟨hok,_,_,([] ++ pa) ++ pv,⟨[] ++ pa,pv,trodAll_append (hargs _ (fun _ _ => rfl)) (hres _ _ _),hvars _ (fun _ _ => rfl),rfl,?_,?_⟩,?_⟩
  ·intro b off hp
   have hin : MemPlace.cell b off ∈ before := by rw [hps]; simpa using hp
   rw [hb.frozen (hlt _ hin)]
   exact hz b off hin
  ·intro ha
   have := hn ha
   rw [hps] at this
   simpa using this
  ·intro p hp _
   rw [hps]
   simpa using hp
end
end Go.Proofs.YtldidldbhngmnaaGreatDoor
