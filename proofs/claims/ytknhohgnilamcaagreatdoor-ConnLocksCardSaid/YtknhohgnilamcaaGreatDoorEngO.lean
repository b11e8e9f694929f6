/-
  An operation looks at its operands alone; machines: functions, regions, code. (Of no program.)
-/
import Derived.Test.YtknhohgnilamcaaGreatDoorEngFa
namespace Go.Proofs.YtknhohgnilamcaaGreatDoor
set_option linter.unusedVariables false
set_option linter.unusedSimpArgs false
set_option linter.unusedSectionVars false
open Go

def QOp.args : QOp → List Arg
  | .mv a => [a]
  | .pick c a b => [c, a, b]
  | .bld z ps => ps.map (·.2.2)
  | .fadr a off => [a]
  | .fld a off n ag => [a]
  | .iadr a i esz => [a, i]
  | .iada a i esz n => [a, i]
  | .idxa a i esz n ag => [a, i]
  | .idxs a i => [a, i]
  | .nck a => [a]
  | .bin op a c => [a, c]
  | .shf l a c => [a, c]
  | .cmpb ne a c => [a, c]
  | .cmps op a c => [a, c]
  | .eqp kd ne a c => [a, c]
  | .eqa ne sh a c => [a, c]
  | .not a => [a]
  | .neg a => [a]
  | .inv a => [a]
  | .cvi k a => [a]
  | .cvid a => [a]
  | .mki t a => [a]
  | .mkf f xs ys => xs ++ ys
  | .tas a t z ok => [a]
  | .tai a ts ok => [a]
  | .ext a i => [a]
  | .lenv a => [a]
  | .lens a => [a]
  | .lenc n => []
  | .slc a lo hi esz => a :: (lo.toList ++ hi.toList)
  | .slca a lo hi esz n => a :: (lo.toList ++ hi.toList)
  | .slcs a lo hi => a :: (lo.toList ++ hi.toList)
  | .mnx mx a c => [a, c]
  | .ld1 a => [a]
  | .ldn a n => [a]
  | .lkp m k ks z ok => [m, k]
  | .lenm m => [m]
  | .wts g => [g]

def EOp.args : EOp → List Arg
  | .st a x n => [a, x]
  | .alo z => []
  | .box a n => [a]
  | .bsl z ps len esz => ps.map (·.2.2)
  | .mkm ks => []
  | .mks len cap z esz bts => [len, cap]
  | .app s x esz bts str => [s, x]
  | .cpy d s esz => [d, s]
  | .mup m k v ks => [m, k, v]
  | .mdl m k ks => [m, k]
  | .men m k ks z => [m, k]
  | .mes m s v => [m, s, v]

theorem bldF_congr {A A' : T V} : ∀ (ps : List (Nat × Nat × Arg)), (∀ p ∈ ps, ev A p.2.2 = ev A' p.2.2) → bldF A ps = bldF A' ps
  | [], _ => rfl
  | p :: ps, h => by
    funext z
    have e : ∀ B : T V, bldF B (p :: ps) z = match flat (ev B p.2.2) with
      | none => none
      | some l => (match Nat.beq (llen l) p.2.1 && Nat.ble (Nat.add p.1 p.2.1) (llen z) with | true => bldF B ps (lsplice z p.1 l) | false => none) := fun _ => rfl
    rw [e, e, h p (by simp), bldF_congr ps (fun q hq => h q (by simp [hq]))]
theorem optN_congr {A A' : T V} {x : Option Arg} (h : ∀ y, x = some y → ev A y = ev A' y) : ∀ d, optN A x d = optN A' x d := by
  intro d
  cases x with
  | none => rfl
  | some y => simp only [optN, h y rfl]

theorem qev_congr {pt : List Nat} {o : QOp} {A A' : T V} {σ : St} (h : ∀ x ∈ o.args, ev A x = ev A' x) : qev pt o A σ = qev pt o A' σ := by
  cases o with
  | mv a =>
    have h0 := h a (by simp [QOp.args])
    simp only [qev, h0]
  | pick c a b =>
    have h0 := h c (by simp [QOp.args])
    have h1 := h a (by simp [QOp.args])
    have h2 := h b (by simp [QOp.args])
    simp only [qev, h0, h1, h2]
  | bld z ps =>
    have h0 := bldF_congr ps (fun p hp => h p.2.2 (by simp only [QOp.args, List.mem_map]; exact ⟨p, hp, rfl⟩))
    simp only [qev, h0]
  | fadr a off =>
    have h0 := h a (by simp [QOp.args])
    simp only [qev, h0]
  | fld a off n ag =>
    have h0 := h a (by simp [QOp.args])
    simp only [qev, h0]
  | iadr a i esz =>
    have h0 := h a (by simp [QOp.args])
    have h1 := h i (by simp [QOp.args])
    simp only [qev, h0, h1]
  | iada a i esz n =>
    have h0 := h a (by simp [QOp.args])
    have h1 := h i (by simp [QOp.args])
    simp only [qev, h0, h1]
  | idxa a i esz n ag =>
    have h0 := h a (by simp [QOp.args])
    have h1 := h i (by simp [QOp.args])
    simp only [qev, h0, h1]
  | idxs a i =>
    have h0 := h a (by simp [QOp.args])
    have h1 := h i (by simp [QOp.args])
    simp only [qev, h0, h1]
  | nck a =>
    have h0 := h a (by simp [QOp.args])
    simp only [qev, h0]
  | bin op a c =>
    have h0 := h a (by simp [QOp.args])
    have h1 := h c (by simp [QOp.args])
    simp only [qev, h0, h1]
  | shf l a c =>
    have h0 := h a (by simp [QOp.args])
    have h1 := h c (by simp [QOp.args])
    simp only [qev, h0, h1]
  | cmpb ne a c =>
    have h0 := h a (by simp [QOp.args])
    have h1 := h c (by simp [QOp.args])
    simp only [qev, h0, h1]
  | cmps op a c =>
    have h0 := h a (by simp [QOp.args])
    have h1 := h c (by simp [QOp.args])
    simp only [qev, h0, h1]
  | eqp kd ne a c =>
    have h0 := h a (by simp [QOp.args])
    have h1 := h c (by simp [QOp.args])
    simp only [qev, h0, h1]
  | eqa ne sh a c =>
    have h0 := h a (by simp [QOp.args])
    have h1 := h c (by simp [QOp.args])
    simp only [qev, h0, h1]
  | not a =>
    have h0 := h a (by simp [QOp.args])
    simp only [qev, h0]
  | neg a =>
    have h0 := h a (by simp [QOp.args])
    simp only [qev, h0]
  | inv a =>
    have h0 := h a (by simp [QOp.args])
    simp only [qev, h0]
  | cvi k a =>
    have h0 := h a (by simp [QOp.args])
    simp only [qev, h0]
  | cvid a =>
    have h0 := h a (by simp [QOp.args])
    simp only [qev, h0]
  | mki t a =>
    have h0 := h a (by simp [QOp.args])
    simp only [qev, h0]
  | mkf f xs ys =>
    have h0 : lmap (ev A) xs = lmap (ev A') xs := by rw [lmap_eq, lmap_eq]; exact List.map_congr_left fun x hx => h x (by simp [QOp.args, hx])
    have h1 : lmap (ev A) ys = lmap (ev A') ys := by rw [lmap_eq, lmap_eq]; exact List.map_congr_left fun x hx => h x (by simp [QOp.args, hx])
    simp only [qev, h0, h1]
  | tas a t z ok =>
    have h0 := h a (by simp [QOp.args])
    simp only [qev, h0]
  | tai a ts ok =>
    have h0 := h a (by simp [QOp.args])
    simp only [qev, h0]
  | ext a i =>
    have h0 := h a (by simp [QOp.args])
    simp only [qev, h0]
  | lenv a =>
    have h0 := h a (by simp [QOp.args])
    simp only [qev, h0]
  | lens a =>
    have h0 := h a (by simp [QOp.args])
    simp only [qev, h0]
  | lenc n =>
    rfl
  | slc a lo hi esz =>
    have h0 := h a (by simp [QOp.args])
    have h1 : ∀ d, optN A lo d = optN A' lo d := optN_congr fun x hx => h x (by simp [QOp.args, hx])
    have h2 : ∀ d, optN A hi d = optN A' hi d := optN_congr fun x hx => h x (by simp [QOp.args, hx])
    simp only [qev, h0, h1, h2]
  | slca a lo hi esz n =>
    have h0 := h a (by simp [QOp.args])
    have h1 : ∀ d, optN A lo d = optN A' lo d := optN_congr fun x hx => h x (by simp [QOp.args, hx])
    have h2 : ∀ d, optN A hi d = optN A' hi d := optN_congr fun x hx => h x (by simp [QOp.args, hx])
    simp only [qev, h0, h1, h2]
  | slcs a lo hi =>
    have h0 := h a (by simp [QOp.args])
    have h1 : ∀ d, optN A lo d = optN A' lo d := optN_congr fun x hx => h x (by simp [QOp.args, hx])
    have h2 : ∀ d, optN A hi d = optN A' hi d := optN_congr fun x hx => h x (by simp [QOp.args, hx])
    simp only [qev, h0, h1, h2]
  | mnx mx a c =>
    have h0 := h a (by simp [QOp.args])
    have h1 := h c (by simp [QOp.args])
    simp only [qev, h0, h1]
  | ld1 a =>
    have h0 := h a (by simp [QOp.args])
    simp only [qev, h0]
  | ldn a n =>
    have h0 := h a (by simp [QOp.args])
    simp only [qev, h0]
  | lkp m k ks z ok =>
    have h0 := h m (by simp [QOp.args])
    have h1 := h k (by simp [QOp.args])
    simp only [qev, h0, h1]
  | lenm m =>
    have h0 := h m (by simp [QOp.args])
    simp only [qev, h0]
  | wts g =>
    have h0 := h g (by simp [QOp.args])
    simp only [qev, h0]

theorem eev_congr {o : EOp} {nm : Option Pos} {A A' : T V} {σ : St} (h : ∀ x ∈ o.args, ev A x = ev A' x) : eev o nm A σ = eev o nm A' σ := by
  cases o with
  | st a x n =>
    have h0 := h a (by simp [EOp.args])
    have h1 := h x (by simp [EOp.args])
    simp only [eev, h0, h1]
  | alo z =>
    rfl
  | box a n =>
    have h0 := h a (by simp [EOp.args])
    simp only [eev, h0]
  | bsl z ps len esz =>
    have h0 := bldF_congr ps (fun p hp => h p.2.2 (by simp only [EOp.args, List.mem_map]; exact ⟨p, hp, rfl⟩))
    simp only [eev, h0]
  | mkm ks =>
    rfl
  | mks len cap z esz bts =>
    have h0 := h len (by simp [EOp.args])
    have h1 := h cap (by simp [EOp.args])
    simp only [eev, h0, h1]
  | app s x esz bts str =>
    have h0 := h s (by simp [EOp.args])
    have h1 := h x (by simp [EOp.args])
    simp only [eev, h0, h1]
  | cpy d s esz =>
    have h0 := h d (by simp [EOp.args])
    have h1 := h s (by simp [EOp.args])
    simp only [eev, h0, h1]
  | mup m k v ks =>
    have h0 := h m (by simp [EOp.args])
    have h1 := h k (by simp [EOp.args])
    have h2 := h v (by simp [EOp.args])
    simp only [eev, h0, h1, h2]
  | mdl m k ks =>
    have h0 := h m (by simp [EOp.args])
    have h1 := h k (by simp [EOp.args])
    simp only [eev, h0, h1]
  | men m k ks z =>
    have h0 := h m (by simp [EOp.args])
    have h1 := h k (by simp [EOp.args])
    simp only [eev, h0, h1]
  | mes m s v =>
    have h0 := h m (by simp [EOp.args])
    have h1 := h s (by simp [EOp.args])
    have h2 := h v (by simp [EOp.args])
    simp only [eev, h0, h1, h2]


/-- the operations of a region -/
inductive XOp where
  | q (o : QOp)
  | e (o : EOp)
  | l (o : EOp) (j : Nat)
  | call (f : Pos) (as_ : List Arg)
  | callv (g : Arg) (as_ : List Arg)
  | inv (r : Arg) (name : String) (as_ : List Arg)
  | bad
def XOp.args : XOp → List Arg
  | .q o => o.args | .e o => o.args | .l o _ => o.args | .call _ as_ => as_ | .callv g as_ => g :: as_ | .inv r _ as_ => r :: as_ | .bad => []
/-- one of them: which in the text, where its result goes, whether it is wanted, what is looked at again behind it -/
structure RO where
  idx : Nat
  dst : Option Pos
  op : XOp
  gd : Option (Pos × Bool)
  re : List (Pos × QOp × Option (Pos × Bool))
inductive RV where
  | t (p : Pos) | c1 (p : Pos) | cn (p : Pos) (n : Nat)
inductive IR where
  | skip
  | reg (l : List RO)
  | rgd (k : Nat) (l : List RO)
  | seq (a b : IR)
  | cnd (c : Arg) (a b : IR)
  | blk (i : Nat) (b : IR)
  | loop (b : IR)
  | exit (i : Nat)
  | ret
  | bad
inductive FnE where
  | code (n : Nat) (body : IR) (res : List RV)
  | spec (s : Nat)
structure Mach where
  tab : T FnE
  spec : Nat → List V → St → Option (V × St)
  pt : List Nat
  mt : List (Nat × String × Pos)
inductive XE where | nrm | ext (i : Nat) | ret

noncomputable def wantG (A : T V) (g : Option (Pos × Bool)) : Option Bool := match g with
  | none => some true
  | some (p, b) => (match ev A (.s p) with | .bool c => some (match b with | true => c | false => !c) | .tup _ => some false | _ => none)
noncomputable def putD (A : T V) (d : Option Pos) (v : V) : T V := match d with | some p => T.set v p A | none => A
/-- are two values the same? (false also where it is not looked) -/
noncomputable def veq0 (x y : V) : Bool := match x with
  | .bool a => (match y with | .bool b => (match a with | true => b | false => !b) | _ => false)
  | .int k a => (match y with | .int k' b => (match beqK k k' with | true => ieq a b | false => false) | _ => false)
  | .str a => (match y with | .str b => nateq a b | _ => false)
  | .nilp => (match y with | .nilp => true | _ => false)
  | .ptr p o => (match y with | .ptr q o' => (match p.beq q with | true => Nat.beq o o' | false => false) | _ => false)
  | .nils => (match y with | .nils => true | _ => false)
  | .slice p o l c e => (match y with
    | .slice p' o' l' c' e' => (match p.beq p' && Nat.beq o o' && Nat.beq l l' && Nat.beq e e' with
      | true => (match c with | none => (match c' with | none => true | some _ => false) | some a => (match c' with | none => false | some b => Nat.beq a b))
      | false => false)
    | _ => false)
  | .nilm => (match y with | .nilm => true | _ => false)
  | .map p => (match y with | .map q => p.beq q | _ => false)
  | .nilf => (match y with | .nilf => true | _ => false)
  | .fn f [] [] => (match y with | .fn f' [] [] => Nat.beq f f' | _ => false)
  | .nili => (match y with | .nili => true | _ => false)
  | _ => false
noncomputable def veqL (f : V → V → Bool) (l : List V) : List V → Bool := List.rec (motive := fun _ => List V → Bool) (fun m => match m with | [] => true | _ :: _ => false)
  (fun x _ ih m => match m with | [] => false | y :: m => (match f x y with | true => ih m | false => false)) l
noncomputable def veqS (f : V → V → Bool) (x y : V) : Bool := match x with
  | .agg l => (match y with | .agg m => veqL f l m | _ => false)
  | .iface t v => (match y with | .iface u w => (match Nat.beq t u with | true => f v w | false => false) | _ => false)
  | .tup l => (match y with | .tup m => veqL f l m | _ => false)
  | x => veq0 x y
noncomputable def veq (x y : V) : Bool := veqS (veqS (veqS veq0)) x y
noncomputable def rechk (pt : List Nat) (A : T V) (σ : St) (l : List (Pos × QOp × Option (Pos × Bool))) : Bool := List.rec (motive := fun _ => Bool) true
  (fun r _ ih => match wantG A r.2.2 with
    | none => false
    | some false => ih
    | some true => (match qevF pt r.2.1 A σ with | some v => (match veq v (ev A (.s r.1)) with | true => ih | false => false) | none => false)) l
noncomputable def natPos (n : Nat) : Pos := Nat.rec (motive := fun _ => Pos) .H (fun _ p => p.succ) n
noncomputable def mtFind (l : List (Nat × String × Pos)) (t : Nat) (name : String) : Option Pos := List.rec (motive := fun _ => Option Pos) none (fun x _ ih => match Nat.beq x.1 t && decide (x.2.1 = name) with | true => some x.2.2 | false => ih) l
noncomputable def frameOf (l : List V) : Pos → T V → T V := List.rec (motive := fun _ => Pos → T V → T V) (fun _ t => t) (fun v _ ih p t => ih p.succ (T.set v p t)) l
noncomputable def namesOf (k : Nat) : Pos → List Pos × Pos := Nat.rec (motive := fun _ => Pos → List Pos × Pos) (fun p => ([], p)) (fun _ ih p => (p :: (ih p.succ).1, (ih p.succ).2)) k
noncomputable def xfin (M : Mach) (ro : RO) (A : T V) (r : Option (V × St)) : Option (T V × St) := match r with
  | none => none
  | some (v, σ) => (match rechk M.pt (putD A ro.dst v) σ ro.re with | true => some (putD A ro.dst v, σ) | false => none)
noncomputable def xQ (M : Mach) (o : QOp) (A : T V) (σ : St) : Option (V × St) := match qevF M.pt o A σ with | some v => some (v, σ) | none => none
noncomputable def xL (nms : List Pos) (o : EOp) (j : Nat) (A : T V) (σ : St) : Option (V × St) := match lget nms j with | some p => (match T.get p σ.h with | none => eevF o (some p) A σ | some _ => none) | none => none
noncomputable def xCallv (call : Pos → List V → St → Option (V × St)) (g : Arg) (l : List Arg) (A : T V) (σ : St) : Option (V × St) := match ev A g with | .fn f x y => call (natPos f) (lapp x (lapp (lmap (ev A) l) y)) σ | _ => none
noncomputable def xInv (M : Mach) (call : Pos → List V → St → Option (V × St)) (r : Arg) (name : String) (l : List Arg) (A : T V) (σ : St) : Option (V × St) := match ev A r with | .iface t v => (match mtFind M.mt t name with | some f => call f (v :: lmap (ev A) l) σ | none => none) | _ => none
noncomputable def xop (M : Mach) (call : Pos → List V → St → Option (V × St)) (nms : List Pos) (x : XOp) (A : T V) (σ : St) : Option (V × St) := match x with
  | .q o => xQ M o A σ
  | .e o => eevF o none A σ
  | .l o j => xL nms o j A σ
  | .call f l => call f (lmap (ev A) l) σ
  | .callv g l => xCallv call g l A σ
  | .inv r name l => xInv M call r name l A σ
  | .bad => none
noncomputable def xstep (M : Mach) (call : Pos → List V → St → Option (V × St)) (nms : List Pos) (ro : RO) (A : T V) (σ : St) : Option (T V × St) := match wantG A ro.gd with
  | none => none
  | some false => some (putD A ro.dst (.tup []), σ)
  | some true => xfin M ro A (xop M call nms ro.op A σ)
noncomputable def runR (M : Mach) (call : Pos → List V → St → Option (V × St)) (nms : List Pos) (l : List RO) : T V → St → Option (T V × St) := List.rec (motive := fun _ => T V → St → Option (T V × St)) (fun A σ => some (A, σ))
  (fun ro _ ih A σ => match xstep M call nms ro A σ with | none => none | some (A', σ') => ih A' σ') l
noncomputable def loopF (b : T V → St → Option (XE × T V × St)) (n : Nat) : T V → St → Option (XE × T V × St) := Nat.rec (motive := fun _ => T V → St → Option (XE × T V × St)) (fun _ _ => none)
  (fun _ ih A σ => match b A σ with | none => none | some (x, A', σ') => (match x with | .nrm => ih A' σ' | x => some (x, A', σ'))) n
noncomputable def eReg (M : Mach) (call : Pos → List V → St → Option (V × St)) (l : List RO) (A : T V) (σ : St) : Option (XE × T V × St) := match runR M call [] l A σ with | none => none | some (A', σ') => some (.nrm, A', σ')
noncomputable def eRgd (M : Mach) (call : Pos → List V → St → Option (V × St)) (k : Nat) (l : List RO) (A : T V) (σ : St) : Option (XE × T V × St) := match namesOf k σ.nx with | (nms, nx) => (match runR M call nms l A ⟨σ.h, nx⟩ with | none => none | some (A', σ') => some (.nrm, A', σ'))
noncomputable def eSeq (fa fb : T V → St → Option (XE × T V × St)) (A : T V) (σ : St) : Option (XE × T V × St) := match fa A σ with | none => none | some (x, A', σ') => (match x with | .nrm => fb A' σ' | x => some (x, A', σ'))
noncomputable def eCnd (c : Arg) (fa fb : T V → St → Option (XE × T V × St)) (A : T V) (σ : St) : Option (XE × T V × St) := match ev A c with | .bool t => (match t with | true => fa A σ | false => fb A σ) | _ => none
noncomputable def eBlk (i : Nat) (f : T V → St → Option (XE × T V × St)) (A : T V) (σ : St) : Option (XE × T V × St) := match f A σ with | none => none | some (x, A', σ') => (match x with | .ext j => (match Nat.beq j i with | true => some (.nrm, A', σ') | false => some (.ext j, A', σ')) | x => some (x, A', σ'))
noncomputable def exec (M : Mach) (call : Pos → List V → St → Option (V × St)) (n : Nat) (c : IR) : T V → St → Option (XE × T V × St) := IR.rec (motive := fun _ => T V → St → Option (XE × T V × St))
  (fun A σ => some (.nrm, A, σ))
  (fun l => eReg M call l)
  (fun k l => eRgd M call k l)
  (fun _ _ iha ihb => eSeq iha ihb)
  (fun c _ _ iha ihb => eCnd c iha ihb)
  (fun i _ ih => eBlk i ih)
  (fun _ ih => loopF ih n)
  (fun i A σ => some (.ext i, A, σ))
  (fun A σ => some (.ret, A, σ))
  (fun _ _ => none) c
noncomputable def resF (l : List RV) (A : T V) (σ : St) : Option (List V) := List.rec (motive := fun _ => Option (List V)) (some []) (fun r _ ih => match ih with
  | none => none
  | some vs => (match (match r with | .t p => some (ev A (.s p)) | .c1 p => qevF_ld1 (.s p) [] A σ | .cn p n => qevF_ldn (.s p) n [] A σ) with | some v => some (v :: vs) | none => none)) l
noncomputable def one (l : List V) : V := match l with | [v] => v | l => .tup l
noncomputable def runFn1 (M : Mach) (call : Pos → List V → St → Option (V × St)) (n : Nat) (f : Pos) (vs : List V) (σ : St) : Option (V × St) := match T.get f M.tab with
  | none => none
  | some (.spec s) => M.spec s vs σ
  | some (.code nt b res) => (match Nat.ble (llen vs) nt with
    | false => none
    | true => (match exec M call n b (frameOf vs .H .nil) σ with
      | none => none
      | some (x, A, σ') => (match x with
        | .ext _ => none
        | _ => (match resF res A σ' with | some l => some (one l, σ') | none => none))))
noncomputable def runFn (M : Mach) (n : Nat) : Pos → List V → St → Option (V × St) := Nat.rec (motive := fun _ => Pos → List V → St → Option (V × St)) (fun _ _ _ => none) (fun n ih => runFn1 M ih n) n
end Go.Proofs.YtknhohgnilamcaaGreatDoor
