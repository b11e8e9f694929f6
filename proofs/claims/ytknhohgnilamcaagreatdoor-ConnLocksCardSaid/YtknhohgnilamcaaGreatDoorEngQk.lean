/-
  The machine once more, as the kernel runs it quickest; and that it is the same. (Of no program.)
-/
import Derived.Test.YtknhohgnilamcaaGreatDoorEngRD
namespace Go.Proofs.YtknhohgnilamcaaGreatDoor
set_option linter.unusedVariables false
set_option linter.unusedSimpArgs false
set_option linter.unusedSectionVars false
open Go

section
variable {α : Type}
noncomputable def getQ (p : Pos) : T α → Option α := Pos.rec (motive := fun _ => T α → Option α)
  (T.rec (motive := fun _ => Option α) none (fun _ v _ _ _ => v))
  (fun _ ih => T.rec (motive := fun _ => Option α) none (fun l _ _ _ _ => ih l))
  (fun _ ih => T.rec (motive := fun _ => Option α) none (fun _ _ r _ _ => ih r)) p
noncomputable def strQ (l : T α) (k : T α → T α) : T α := T.rec (motive := fun _ => T α) (k .nil) (fun a b c _ _ => k (.node a b c)) l
noncomputable def setQ (x : α) (p : Pos) : T α → T α := Pos.rec (motive := fun _ => T α → T α)
  (T.rec (motive := fun _ => T α) (.node .nil (some x) .nil) (fun l _ r _ _ => .node l (some x) r))
  (fun _ ih => T.rec (motive := fun _ => T α) (strQ (ih .nil) fun l => .node l none .nil) (fun l v r _ _ => strQ (ih l) fun l => .node l v r))
  (fun _ ih => T.rec (motive := fun _ => T α) (strQ (ih .nil) fun r => .node .nil none r) (fun l v r _ _ => strQ (ih r) fun r => .node l v r)) p
theorem strQ_eq (l : T α) (k : T α → T α) : strQ l k = k l := by cases l <;> rfl
theorem getQ_eq : ∀ (p : Pos) (t : T α), getQ p t = T.get p t := by
  intro p
  induction p with
  | H => intro t; cases t <;> rfl
  | O p ih => intro t; cases t with | nil => rfl | node l v r => exact ih l
  | I p ih => intro t; cases t with | nil => rfl | node l v r => exact ih r
theorem setQ_eq (x : α) : ∀ (p : Pos) (t : T α), setQ x p t = T.set x p t := by
  intro p
  induction p with
  | H => intro t; cases t <;> rfl
  | O p ih =>
    intro t
    cases t with
    | nil =>
      have e : setQ x p.O .nil = .node (setQ x p .nil) none .nil := strQ_eq (setQ x p .nil) (fun l => .node l none .nil)
      have e2 : T.set x p.O .nil = .node (T.set x p .nil) none .nil := T.str_eq (T.set x p .nil) (fun l => .node l none .nil)
      rw [e, e2, ih]
    | node l v r =>
      have e : setQ x p.O (.node l v r) = .node (setQ x p l) v r := strQ_eq (setQ x p l) (fun l => .node l v r)
      have e2 : T.set x p.O (.node l v r) = .node (T.set x p l) v r := T.str_eq (T.set x p l) (fun l => .node l v r)
      rw [e, e2, ih]
  | I p ih =>
    intro t
    cases t with
    | nil =>
      have e : setQ x p.I .nil = .node .nil none (setQ x p .nil) := strQ_eq _ _
      have e2 : T.set x p.I .nil = .node .nil none (T.set x p .nil) := T.str_eq _ _
      rw [e, e2, ih]
    | node l v r =>
      have e : setQ x p.I (.node l v r) = .node l v (setQ x p r) := strQ_eq _ _
      have e2 : T.set x p.I (.node l v r) = .node l v (T.set x p r) := T.str_eq _ _
      rw [e, e2, ih]
end
noncomputable def evS (A : T V) (p : Pos) : V := Option.rec (motive := fun _ => V) .u (fun v => v) (getQ p A)
noncomputable def evQ (A : T V) (a : Arg) : V := Arg.rec (motive := fun _ => V) (evS A) (fun x => x) (fun p => .ptr p 0) (fun n => .fn n [] []) a
theorem evQ_eq (A : T V) (a : Arg) : evQ A a = ev A a := by
  cases a with
  | s p =>
    show evS A p = match T.get p A with | some v => v | none => .u
    unfold evS
    rw [getQ_eq]
    cases T.get p A <;> rfl
  | v x => rfl
  | g p => rfl
  | f n => rfl
/-! taking values apart -/
abbrev RV_ := Option V
noncomputable def onInt {R : Type} (f : IntKind → Int → R) (d : R) (v : V) : R := V.rec (motive_1 := fun _ => R) (motive_2 := fun _ => PUnit) d (fun _ => d) f (fun _ => d) d (fun _ _ => d) d (fun _ _ _ _ _ => d) d (fun _ => d) d (fun _ _ _ _ _ => d) d (fun _ _ _ => d) (fun _ _ => d) (fun _ _ => d) ⟨⟩ (fun _ _ _ _ => ⟨⟩) v
noncomputable def onBool {R : Type} (f : Bool → R) (d : R) (v : V) : R := V.rec (motive_1 := fun _ => R) (motive_2 := fun _ => PUnit) d f (fun _ _ => d) (fun _ => d) d (fun _ _ => d) d (fun _ _ _ _ _ => d) d (fun _ => d) d (fun _ _ _ _ _ => d) d (fun _ _ _ => d) (fun _ _ => d) (fun _ _ => d) ⟨⟩ (fun _ _ _ _ => ⟨⟩) v
noncomputable def onPtr {R : Type} (f : Pos → Nat → R) (d : R) (v : V) : R := V.rec (motive_1 := fun _ => R) (motive_2 := fun _ => PUnit) d (fun _ => d) (fun _ _ => d) (fun _ => d) d f d (fun _ _ _ _ _ => d) d (fun _ => d) d (fun _ _ _ _ _ => d) d (fun _ _ _ => d) (fun _ _ => d) (fun _ _ => d) ⟨⟩ (fun _ _ _ _ => ⟨⟩) v
noncomputable def onSlice {R : Type} (f : Pos → Nat → Nat → Option Nat → Nat → R) (g d : R) (v : V) : R := V.rec (motive_1 := fun _ => R) (motive_2 := fun _ => PUnit) d (fun _ => d) (fun _ _ => d) (fun _ => d) d (fun _ _ => d) g f d (fun _ => d) d (fun _ _ _ _ _ => d) d (fun _ _ _ => d) (fun _ _ => d) (fun _ _ => d) ⟨⟩ (fun _ _ _ _ => ⟨⟩) v
theorem onInt_eq {R : Type} (f : IntKind → Int → R) (d : R) (v : V) : onInt f d v = match v with | .int k n => f k n | _ => d := by cases v <;> rfl
theorem onBool_eq {R : Type} (f : Bool → R) (d : R) (v : V) : onBool f d v = match v with | .bool b => f b | _ => d := by cases v <;> rfl
theorem onPtr_eq {R : Type} (f : Pos → Nat → R) (d : R) (v : V) : onPtr f d v = match v with | .ptr p o => f p o | _ => d := by cases v <;> rfl
theorem onSlice_eq {R : Type} (f : Pos → Nat → Nat → Option Nat → Nat → R) (g d : R) (v : V) : onSlice f g d v = match v with | .slice p o l c e => f p o l c e | .nils => g | _ => d := by cases v <;> rfl
noncomputable def onB {R : Type} (t f : R) (b : Bool) : R := Bool.rec (motive := fun _ => R) f t b
noncomputable def onO {α R : Type} (n : R) (f : α → R) (x : Option α) : R := Option.rec (motive := fun _ => R) n f x
noncomputable def onCells {R : Type} (f : List V → List Pos → Bool → Bool → R) (d : R) (x : Option Ob) : R := Option.rec (motive := fun _ => R) d (Ob.rec (motive := fun _ => R) f (fun _ _ _ => d) (fun _ _ _ _ => d) (fun _ _ => d) d) x
theorem onCells_eq {R : Type} (f : List V → List Pos → Bool → Bool → R) (d : R) (x : Option Ob) : onCells f d x = match x with | some (.cells l kin fz ro) => f l kin fz ro | _ => d := by
  cases x with
  | none => rfl
  | some o => cases o <;> rfl
/-! numbers -/
noncomputable def uMod (M : Nat) (n : Int) : Int := Int.rec (motive := fun _ => Int) (fun m => .ofNat (Nat.mod m M)) (fun m => .ofNat (Nat.sub (Nat.sub M 1) (Nat.mod m M))) n
noncomputable def wrapQ (k : IntKind) : Int → Int := IntKind.rec (motive := fun _ => Int → Int) (ws 256 128) (ws 65536 32768) (ws 4294967296 2147483648) (ws 18446744073709551616 9223372036854775808) (uMod 256) (uMod 65536) (uMod 4294967296) (uMod 18446744073709551616) k
theorem wrapQ_eq (k : IntKind) (n : Int) : wrapQ k n = wrapK k n := by cases k <;> cases n <;> rfl
noncomputable def iaddQ (x y : Int) : Int := Int.rec (motive := fun _ => Int) (fun a => Int.rec (motive := fun _ => Int) (fun b => .ofNat (Nat.add a b)) (fun b => Int.add (.ofNat a) (.negSucc b)) y) (fun a => Int.add (.negSucc a) y) x
theorem iaddQ_eq (x y : Int) : iaddQ x y = Int.add x y := by cases x <;> cases y <;> rfl
noncomputable def toUQ (M : Nat) (n : Int) : Nat := Int.rec (motive := fun _ => Nat) (fun m => Nat.mod m M) (fun m => Nat.sub (Nat.sub M 1) (Nat.mod m M)) n
theorem toUQ_eq (M : Nat) (n : Int) : toUQ M n = toU M n := by cases n <;> rfl
noncomputable def modQ (k : IntKind) : Nat := IntKind.rec (motive := fun _ => Nat) 256 65536 4294967296 18446744073709551616 256 65536 4294967296 18446744073709551616 k
theorem modQ_eq (k : IntKind) : modQ k = modK k := by cases k <;> rfl
noncomputable def iltQ (x y : Int) : Bool := Int.rec (motive := fun _ => Bool) (fun a => Int.rec (motive := fun _ => Bool) (fun b => Nat.blt a b) (fun _ => false) y) (fun a => Int.rec (motive := fun _ => Bool) (fun _ => true) (fun b => Nat.blt b a) y) x
theorem iltQ_eq (x y : Int) : iltQ x y = ilt x y := by cases x <;> cases y <;> rfl
noncomputable def ieqQ (x y : Int) : Bool := Int.rec (motive := fun _ => Bool) (fun a => Int.rec (motive := fun _ => Bool) (fun b => Nat.beq a b) (fun _ => false) y) (fun a => Int.rec (motive := fun _ => Bool) (fun _ => false) (fun b => Nat.beq a b) y) x
theorem ieqQ_eq (x y : Int) : ieqQ x y = ieq x y := by cases x <;> cases y <;> rfl
noncomputable def bAdd (k : IntKind) (x y : Int) : Option V := some (.int k (wrapQ k (iaddQ x y)))
noncomputable def bSub (k : IntKind) (x y : Int) : Option V := some (.int k (wrapQ k (Int.sub x y)))
noncomputable def bMul (k : IntKind) (x y : Int) : Option V := some (.int k (wrapQ k (Int.mul x y)))
noncomputable def bQuo (k : IntKind) (x y : Int) : Option V := onB none (some (.int k (wrapQ k (Int.tdiv x y)))) (ieqQ y (.ofNat 0))
noncomputable def bRem (k : IntKind) (x y : Int) : Option V := onB none (some (.int k (wrapQ k (Int.tmod x y)))) (ieqQ y (.ofNat 0))
noncomputable def bAnd (k : IntKind) (x y : Int) : Option V := some (.int k (wrapQ k (.ofNat (Nat.land (toUQ (modQ k) x) (toUQ (modQ k) y)))))
noncomputable def bOr (k : IntKind) (x y : Int) : Option V := some (.int k (wrapQ k (.ofNat (Nat.lor (toUQ (modQ k) x) (toUQ (modQ k) y)))))
noncomputable def bXor (k : IntKind) (x y : Int) : Option V := some (.int k (wrapQ k (.ofNat (Nat.xor (toUQ (modQ k) x) (toUQ (modQ k) y)))))
noncomputable def bAnn (k : IntKind) (x y : Int) : Option V := some (.int k (wrapQ k (.ofNat (Nat.land (toUQ (modQ k) x) (Nat.sub (Nat.sub (modQ k) 1) (toUQ (modQ k) y))))))
noncomputable def bNo (k : IntKind) (x y : Int) : Option V := none
noncomputable def bEq (k : IntKind) (x y : Int) : Option V := some (.bool (ieqQ x y))
noncomputable def bNe (k : IntKind) (x y : Int) : Option V := some (.bool (!(ieqQ x y)))
noncomputable def bLt (k : IntKind) (x y : Int) : Option V := some (.bool (iltQ x y))
noncomputable def bLe (k : IntKind) (x y : Int) : Option V := some (.bool (!(iltQ y x)))
noncomputable def bGt (k : IntKind) (x y : Int) : Option V := some (.bool (iltQ y x))
noncomputable def bGe (k : IntKind) (x y : Int) : Option V := some (.bool (!(iltQ x y)))
noncomputable def ibinQ (op : BinOp) : IntKind → Int → Int → Option V := BinOp.rec (motive := fun _ => IntKind → Int → Int → Option V) bAdd bSub bMul bQuo bRem bAnd bOr bXor bNo bNo bAnn bEq bNe bLt bLe bGt bGe op
theorem ibinQ_eq (op : BinOp) (k : IntKind) (x y : Int) : ibinQ op k x y = ibin op k x y := by
  cases op <;> simp only [ibinQ, ibin, bAdd, bSub, bMul, bQuo, bRem, bAnd, bOr, bXor, bNo, bAnn, bEq, bNe, bLt, bLe, bGt, bGe, wrapQ_eq, iaddQ_eq, toUQ_eq, modQ_eq, iltQ_eq, ieqQ_eq, onB]
  all_goals cases ieq y (.ofNat 0) <;> rfl
/-! operations -/
noncomputable def qQ_mv (a : Arg) (pt : List Nat) (A : T V) (σ : St) : Option V := some (evQ A a)
noncomputable def qQ_pick (c a b : Arg) (pt : List Nat) (A : T V) (σ : St) : Option V := onBool (fun t => some (onB (evQ A a) (evQ A b) t)) none (evQ A c)
noncomputable def qQ_bin (op : BinOp) (a c : Arg) (pt : List Nat) (A : T V) (σ : St) : Option V := onInt (fun k x => onInt (fun k' y => onB (ibinQ op k x y) none (beqK k k')) none (evQ A c)) none (evQ A a)
noncomputable def qQ_cmpb (ne : Bool) (a c : Arg) (pt : List Nat) (A : T V) (σ : St) : Option V := onBool (fun x => onBool (fun y => some (.bool (xorB ne (!(xorB x y))))) none (evQ A c)) none (evQ A a)
noncomputable def qQ_not (a : Arg) (pt : List Nat) (A : T V) (σ : St) : Option V := onBool (fun b => some (.bool (!b))) none (evQ A a)
noncomputable def qQ_cvi (k : IntKind) (a : Arg) (pt : List Nat) (A : T V) (σ : St) : Option V := onInt (fun _ n => some (.int k (wrapQ k n))) none (evQ A a)
noncomputable def qQ_fadr (a : Arg) (off : Nat) (pt : List Nat) (A : T V) (σ : St) : Option V := onPtr (fun p o => some (.ptr p (Nat.add o off))) none (evQ A a)
noncomputable def qQ_lenv (a : Arg) (pt : List Nat) (A : T V) (σ : St) : Option V := onSlice (fun _ _ len _ _ => mkLen len) (mkLen 0) none (evQ A a)
noncomputable def qQ_ld1 (a : Arg) (pt : List Nat) (A : T V) (σ : St) : Option V := onPtr (fun p o => onCells (fun l _ _ _ => lget l o) none (getQ p σ.h)) none (evQ A a)
noncomputable def qQ_ldn (a : Arg) (n : Nat) (pt : List Nat) (A : T V) (σ : St) : Option V := onPtr (fun p o => onCells (fun l _ _ _ => onB (some (.agg (ltake (ldrop l o) n))) none (Nat.ble (Nat.add o n) (llen l))) none (getQ p σ.h)) none (evQ A a)
noncomputable def qevQ (o : QOp) : List Nat → T V → St → Option V := QOp.rec (motive := fun _ => List Nat → T V → St → Option V) qQ_mv qQ_pick qevF_bld qQ_fadr qevF_fld qevF_iadr qevF_iada qevF_idxa qevF_idxs qevF_nck qQ_bin qevF_shf qQ_cmpb qevF_cmps qevF_eqp qevF_eqa qQ_not qevF_neg qevF_inv qQ_cvi qevF_cvid qevF_mki qevF_mkf qevF_tas qevF_tai qevF_ext qQ_lenv qevF_lens qevF_lenc qevF_slc qevF_slca qevF_slcs qevF_mnx qQ_ld1 qQ_ldn qevF_lkp qevF_lenm qevF_wts o
theorem onB_eq {R : Type} (t f : R) (b : Bool) : onB t f b = match b with | true => t | false => f := by cases b <;> rfl
theorem qevQ_eq (o : QOp) (pt : List Nat) (A : T V) (σ : St) : qevQ o pt A σ = qev pt o A σ := by
  cases o
  case mv a => show qQ_mv a pt A σ = _; simp only [qQ_mv, evQ_eq, qev]
  case pick c a b => show qQ_pick c a b pt A σ = _; simp only [qQ_pick, evQ_eq, qev, onBool_eq, onB_eq]; rfl
  case bin op a c => show qQ_bin op a c pt A σ = _; simp only [qQ_bin, evQ_eq, qev, onInt_eq, onB_eq, ibinQ_eq]; rfl
  case cmpb ne a c => show qQ_cmpb ne a c pt A σ = _; simp only [qQ_cmpb, evQ_eq, qev, onBool_eq]; rfl
  case not a => show qQ_not a pt A σ = _; simp only [qQ_not, evQ_eq, qev, onBool_eq]; rfl
  case cvi k a => show qQ_cvi k a pt A σ = _; simp only [qQ_cvi, evQ_eq, qev, onInt_eq, wrapQ_eq]; rfl
  case fadr a off => show qQ_fadr a off pt A σ = _; simp only [qQ_fadr, evQ_eq, qev, onPtr_eq]; rfl
  case lenv a => show qQ_lenv a pt A σ = _; simp only [qQ_lenv, evQ_eq, qev, onSlice_eq]; rfl
  case ld1 a => show qQ_ld1 a pt A σ = _; simp only [qQ_ld1, evQ_eq, qev, onPtr_eq, getQ_eq, onCells_eq]; rfl
  case ldn a n => show qQ_ldn a n pt A σ = _; simp only [qQ_ldn, evQ_eq, qev, onPtr_eq, getQ_eq, onCells_eq, onB_eq]; rfl
  all_goals rfl
/-! regions, code, functions -/
abbrev RT := Option (V × St)
abbrev CF := Pos → List V → St → RT
noncomputable def stQ (a x : Arg) (n : Nat) (nm : Option Pos) (A : T V) (σ : St) : RT := onPtr (fun p o => onO none (fun vs => onB (onCells (fun l kin fz ro => onB (some (.u, ⟨setQ (.cells (lput l o vs) [] false false) p (kill kin σ.h), σ.nx⟩)) none (!fz && !ro && Nat.ble (Nat.add o n) (llen l))) none (getQ p σ.h)) none (lall plainV vs && Nat.beq (llen vs) n)) (flat (evQ A x))) none (evQ A a)
theorem stQ_eq (a x : Arg) (n : Nat) (nm : Option Pos) (A : T V) (σ : St) : stQ a x n nm A σ = eevF_st a x n nm A σ := by
  simp only [stQ, evQ_eq, getQ_eq, setQ_eq, eevF_st]
  generalize ev A a = y
  cases y <;> try rfl
  rename_i p o
  show onO none _ (flat (ev A x)) = _
  cases flat (ev A x) with
  | none => rfl
  | some vs =>
    show onB _ none (lall plainV vs && Nat.beq (llen vs) n) = _
    simp only
    cases (lall plainV vs && Nat.beq (llen vs) n) with
    | false => rfl
    | true =>
      show onCells _ none (T.get p σ.h) = _
      rw [onCells_eq]
      simp only
      cases T.get p σ.h with
      | none => rfl
      | some ob =>
        cases ob <;> try rfl
        rename_i l kin fz ro
        simp only
        rw [onB_eq]
        rfl
noncomputable def eevQ (o : EOp) : Option Pos → T V → St → RT := EOp.rec (motive := fun _ => Option Pos → T V → St → RT) stQ eevF_alo eevF_box eevF_bsl eevF_mkm eevF_mks eevF_app eevF_cpy eevF_mup eevF_mdl eevF_men eevF_mes o
theorem eevQ_eq (o : EOp) (nm : Option Pos) (A : T V) (σ : St) : eevQ o nm A σ = eevF o nm A σ := by
  cases o
  case st a x n => exact stQ_eq a x n nm A σ
  all_goals rfl
noncomputable def xq_ (o : QOp) (M : Mach) (call : CF) (nms : List Pos) (A : T V) (σ : St) : RT := onO none (fun v => some (v, σ)) (qevQ o M.pt A σ)
noncomputable def xe_ (o : EOp) (M : Mach) (call : CF) (nms : List Pos) (A : T V) (σ : St) : RT := eevQ o none A σ
noncomputable def xl_ (o : EOp) (j : Nat) (M : Mach) (call : CF) (nms : List Pos) (A : T V) (σ : St) : RT := xL nms o j A σ
noncomputable def xc_ (f : Pos) (l : List Arg) (M : Mach) (call : CF) (nms : List Pos) (A : T V) (σ : St) : RT := call f (lmap (evQ A) l) σ
noncomputable def xv_ (g : Arg) (l : List Arg) (M : Mach) (call : CF) (nms : List Pos) (A : T V) (σ : St) : RT := xCallv call g l A σ
noncomputable def xi_ (r : Arg) (n : String) (l : List Arg) (M : Mach) (call : CF) (nms : List Pos) (A : T V) (σ : St) : RT := xInv M call r n l A σ
noncomputable def xb_ (M : Mach) (call : CF) (nms : List Pos) (A : T V) (σ : St) : RT := none
noncomputable def xopQ (x : XOp) : Mach → CF → List Pos → T V → St → RT := XOp.rec (motive := fun _ => Mach → CF → List Pos → T V → St → RT) xq_ xe_ xl_ xc_ xv_ xi_ xb_ x
theorem xopQ_eq (x : XOp) (M : Mach) (call : CF) (nms : List Pos) (A : T V) (σ : St) : xopQ x M call nms A σ = xop M call nms x A σ := by
  have hev : evQ A = ev A := funext (evQ_eq A)
  cases x with
  | q o =>
    show onO none (fun v => some (v, σ)) (qevQ o M.pt A σ) = xQ M o A σ
    rw [qevQ_eq]
    unfold xQ
    rw [qevF_eq]
    cases qev M.pt o A σ <;> rfl
  | e o => exact eevQ_eq o none A σ
  | l o j => rfl
  | call f l => show call f (lmap (evQ A) l) σ = call f (lmap (ev A) l) σ; rw [hev]
  | callv g l => rfl
  | inv r n l => rfl
  | bad => rfl
noncomputable def putQ (d : Option Pos) (A : T V) (v : V) : T V := Option.rec (motive := fun _ => T V) A (fun p => setQ v p A) d
theorem putQ_eq (d : Option Pos) (A : T V) (v : V) : putQ d A v = putD A d v := by
  cases d with
  | none => rfl
  | some p => exact setQ_eq v p A
abbrev RS := Option (T V × St)
noncomputable def gdQ (A : T V) (p : Pos) (b : Bool) : Option Bool := wantG A (some (p, b))
noncomputable def stepQ (M : Mach) (call : CF) (nms : List Pos) (ro : RO) (A : T V) (σ : St) (K : T V → St → RS) : RS :=
  RO.rec (motive := fun _ => RS) (fun i d op gd re =>
    Option.rec (motive := fun _ => RS)
      (Option.rec (motive := fun _ => RS) none (Prod.rec (motive := fun _ => RS) (fun v σ' =>
        List.rec (motive := fun _ => RS) (K (putQ d A v) σ') (fun _ _ _ => Bool.rec (motive := fun _ => RS) none (K (putQ d A v) σ') (rechk M.pt (putQ d A v) σ' re)) re)) (xopQ op M call nms A σ))
      (fun g => Option.rec (motive := fun _ => RS) none (Bool.rec (motive := fun _ => RS) (K (putQ d A (.tup [])) σ)
        (Option.rec (motive := fun _ => RS) none (Prod.rec (motive := fun _ => RS) (fun v σ' => Bool.rec (motive := fun _ => RS) none (K (putQ d A v) σ') (rechk M.pt (putQ d A v) σ' re))) (xopQ op M call nms A σ))) (wantG A (some g))) gd) ro
theorem stepQ_eq (M : Mach) (call : CF) (nms : List Pos) (ro : RO) (A : T V) (σ : St) (K : T V → St → RS) : stepQ M call nms ro A σ K = match xstep M call nms ro A σ with | none => none | some (A', σ') => K A' σ' := by
  obtain ⟨i, d, op, gd, re⟩ := ro
  unfold stepQ xstep xfin
  simp only [xopQ_eq, putQ_eq]
  cases gd with
  | none =>
    have hw : wantG A none = some true := rfl
    rw [hw]
    simp only
    cases xop M call nms op A σ with
    | none => rfl
    | some r =>
      obtain ⟨v, σ'⟩ := r
      cases re with
      | nil =>
        have hr : rechk M.pt (putD A d v) σ' [] = true := rfl
        simp only [hr]
      | cons x l => simp only; cases rechk M.pt (putD A d v) σ' (x :: l) <;> rfl
  | some g =>
    simp only
    cases wantG A (some g) with
    | none => rfl
    | some b =>
      cases b with
      | false => rfl
      | true =>
        simp only
        cases xop M call nms op A σ with
        | none => rfl
        | some r =>
          obtain ⟨v, σ'⟩ := r
          simp only
          cases rechk M.pt (putD A d v) σ' re <;> rfl
noncomputable def runQ (M : Mach) (call : CF) (nms : List Pos) (l : List RO) : T V → St → RS := List.rec (motive := fun _ => T V → St → RS) (fun A σ => some (A, σ)) (fun ro _ ih A σ => stepQ M call nms ro A σ ih) l
theorem runQ_eq (M : Mach) (call : CF) (nms : List Pos) : ∀ (l : List RO), runQ M call nms l = runR M call nms l := by
  intro l
  induction l with
  | nil => rfl
  | cons ro l ih =>
    funext A σ
    show stepQ M call nms ro A σ (runQ M call nms l) = _
    rw [stepQ_eq, ih]
    rfl
abbrev RE := Option (XE × T V × St)
noncomputable def gReg (M : Mach) (call : CF) (l : List RO) (A : T V) (σ : St) : RE := Option.rec (motive := fun _ => RE) none (fun r => some (.nrm, r)) (runQ M call [] l A σ)
noncomputable def gRgd (M : Mach) (call : CF) (k : Nat) (l : List RO) (A : T V) (σ : St) : RE := Prod.rec (motive := fun _ => RE) (fun nms nx => Option.rec (motive := fun _ => RE) none (fun r => some (.nrm, r)) (runQ M call nms l A ⟨σ.h, nx⟩)) (namesOf k σ.nx)
noncomputable def gSeq (fa fb : T V → St → RE) (A : T V) (σ : St) : RE := Option.rec (motive := fun _ => RE) none (Prod.rec (motive := fun _ => RE) (fun x r => XE.rec (motive := fun _ => RE) (fb r.1 r.2) (fun i => some (.ext i, r)) (some (.ret, r)) x)) (fa A σ)
noncomputable def gCnd (c : Arg) (fa fb : T V → St → RE) (A : T V) (σ : St) : RE := onBool (fun t => Bool.rec (motive := fun _ => RE) (fb A σ) (fa A σ) t) none (evQ A c)
noncomputable def gBlk (i : Nat) (f : T V → St → RE) (A : T V) (σ : St) : RE := Option.rec (motive := fun _ => RE) none (Prod.rec (motive := fun _ => RE) (fun x r => XE.rec (motive := fun _ => RE) (some (.nrm, r)) (fun j => Bool.rec (motive := fun _ => RE) (some (.ext j, r)) (some (.nrm, r)) (Nat.beq j i)) (some (.ret, r)) x)) (f A σ)
noncomputable def loopQ (b : T V → St → RE) (n : Nat) : T V → St → RE := Nat.rec (motive := fun _ => T V → St → RE) (fun _ _ => none)
  (fun _ ih A σ => Option.rec (motive := fun _ => RE) none (Prod.rec (motive := fun _ => RE) (fun x r => XE.rec (motive := fun _ => RE) (ih r.1 r.2) (fun i => some (.ext i, r)) (some (.ret, r)) x)) (b A σ)) n
noncomputable def execQ (M : Mach) (call : CF) (n : Nat) (c : IR) : T V → St → RE := IR.rec (motive := fun _ => T V → St → RE)
  (fun A σ => some (.nrm, A, σ)) (gReg M call) (gRgd M call) (fun _ _ fa fb => gSeq fa fb) (fun c _ _ fa fb => gCnd c fa fb) (fun i _ f => gBlk i f) (fun _ f => loopQ f n)
  (fun i A σ => some (.ext i, A, σ)) (fun A σ => some (.ret, A, σ)) (fun _ _ => none) c
theorem loopQ_eq (b : T V → St → RE) : ∀ n, loopQ b n = loopF b n := by
  intro n
  induction n with
  | zero => rfl
  | succ n ih =>
    funext A σ
    have e : loopF b (n + 1) A σ = match b A σ with | none => none | some (x, A', σ') => (match x with | .nrm => loopF b n A' σ' | x => some (x, A', σ')) := rfl
    have e2 : loopQ b (n + 1) A σ = Option.rec (motive := fun _ => RE) none (Prod.rec (motive := fun _ => RE) (fun x r => XE.rec (motive := fun _ => RE) (loopQ b n r.1 r.2) (fun i => some (.ext i, r)) (some (.ret, r)) x)) (b A σ) := rfl
    rw [e, e2, ih]
    cases b A σ with
    | none => rfl
    | some r =>
      obtain ⟨x, A', σ'⟩ := r
      cases x <;> rfl
theorem execQ_eq (M : Mach) (call : CF) (n : Nat) : ∀ c, execQ M call n c = exec M call n c := by
  intro c
  induction c with
  | skip => rfl
  | reg l =>
    funext A σ
    show Option.rec (motive := fun _ => RE) none (fun r => some (.nrm, r)) (runQ M call [] l A σ) = eReg M call l A σ
    rw [runQ_eq]
    unfold eReg
    cases runR M call [] l A σ <;> rfl
  | rgd k l =>
    funext A σ
    show gRgd M call k l A σ = eRgd M call k l A σ
    unfold gRgd eRgd
    simp only [runQ_eq]
    cases runR M call (namesOf k σ.nx).1 l A ⟨σ.h, (namesOf k σ.nx).2⟩ <;> rfl
  | seq a b iha ihb =>
    funext A σ
    show gSeq (execQ M call n a) (execQ M call n b) A σ = eSeq (exec M call n a) (exec M call n b) A σ
    rw [iha, ihb]
    unfold gSeq eSeq
    cases exec M call n a A σ with
    | none => rfl
    | some r => obtain ⟨x, A', σ'⟩ := r; cases x <;> rfl
  | cnd c a b iha ihb =>
    funext A σ
    show gCnd c (execQ M call n a) (execQ M call n b) A σ = eCnd c (exec M call n a) (exec M call n b) A σ
    rw [iha, ihb]
    unfold gCnd eCnd
    rw [onBool_eq, evQ_eq]
    cases ev A c <;> try rfl
    rename_i t; cases t <;> rfl
  | blk i b ih =>
    funext A σ
    show gBlk i (execQ M call n b) A σ = eBlk i (exec M call n b) A σ
    rw [ih]
    unfold gBlk eBlk
    cases exec M call n b A σ with
    | none => rfl
    | some r =>
      obtain ⟨x, A', σ'⟩ := r
      cases x <;> try rfl
      rename_i j
      simp only
      cases Nat.beq j i <;> rfl
  | loop b ih =>
    show loopQ (execQ M call n b) n = loopF (exec M call n b) n
    rw [ih, loopQ_eq]
  | exit i => rfl
  | ret => rfl
  | bad => rfl
noncomputable def frameQ (l : List V) : Pos → T V → T V := List.rec (motive := fun _ => Pos → T V → T V) (fun _ t => t) (fun v _ ih p t => ih p.succ (setQ v p t)) l
theorem frameQ_eq : ∀ (l : List V) (p : Pos) (t : T V), frameQ l p t = frameOf l p t
  | [], p, t => rfl
  | v :: l, p, t => by
    show frameQ l p.succ (setQ v p t) = frameOf l p.succ (T.set v p t)
    rw [setQ_eq, frameQ_eq]
noncomputable def fnQ (M : Mach) (call : CF) (n : Nat) (vs : List V) (σ : St) (f : FnE) : RT := FnE.rec (motive := fun _ => RT)
  (fun nt b res => Bool.rec (motive := fun _ => RT) none (Option.rec (motive := fun _ => RT) none (Prod.rec (motive := fun _ => RT) (fun x r =>
    XE.rec (motive := fun _ => RT) (Option.rec (motive := fun _ => RT) none (fun l => some (one l, r.2)) (resF res r.1 r.2)) (fun _ => none) (Option.rec (motive := fun _ => RT) none (fun l => some (one l, r.2)) (resF res r.1 r.2)) x)) (execQ M call n b (frameQ vs .H .nil) σ)) (Nat.ble (llen vs) nt))
  (fun s => M.spec s vs σ) f
noncomputable def runFn1Q (M : Mach) (call : CF) (n : Nat) (f : Pos) (vs : List V) (σ : St) : RT := Option.rec (motive := fun _ => RT) none (fnQ M call n vs σ) (getQ f M.tab)
theorem runFn1Q_eq (M : Mach) (call : CF) (n : Nat) (f : Pos) (vs : List V) (σ : St) : runFn1Q M call n f vs σ = runFn1 M call n f vs σ := by
  unfold runFn1Q runFn1
  rw [getQ_eq]
  cases T.get f M.tab with
  | none => rfl
  | some e =>
    cases e with
    | spec s => rfl
    | code nt b res =>
      show fnQ M call n vs σ (.code nt b res) = _
      unfold fnQ
      simp only [execQ_eq, frameQ_eq]
      cases Nat.ble (llen vs) nt with
      | false => rfl
      | true =>
        simp only
        cases exec M call n b (frameOf vs .H .nil) σ with
        | none => rfl
        | some r =>
          obtain ⟨x, A', σ'⟩ := r
          cases x with
          | ext i => rfl
          | nrm => simp only; cases resF res A' σ' <;> rfl
          | ret => simp only; cases resF res A' σ' <;> rfl
noncomputable def runFnQ (M : Mach) (n : Nat) : CF := Nat.rec (motive := fun _ => CF) (fun _ _ _ => none) (fun n ih => runFn1Q M ih n) n
theorem runFnQ_eq (M : Mach) : ∀ n, runFnQ M n = runFn M n := by
  intro n
  induction n with
  | zero => rfl
  | succ n ih =>
    funext f vs σ
    show runFn1Q M (runFnQ M n) n f vs σ = runFn1 M (runFn M n) n f vs σ
    rw [runFn1Q_eq, ih]
end Go.Proofs.YtknhohgnilamcaaGreatDoor
