/-
  An abstract machine: names for blocks, frames and heaps as tries, values, what operations do. (Of no program; plain data.)
-/
import Derived.WalkKit
import Derived.ProofKit
import Derived.Handy
namespace Go.Proofs.YtknhohgnilamcaaGreatDoor
set_option linter.unusedVariables false
set_option linter.unusedSimpArgs false
open Go

/-- names -/
inductive Pos where
  | H | O (p : Pos) | I (p : Pos)
  deriving DecidableEq, Inhabited
def Pos.nat : Pos → Nat
  | .H => 1 | .O p => 2 * p.nat | .I p => 2 * p.nat + 1
noncomputable def Pos.succ (p : Pos) : Pos := Pos.rec (.O .H) (fun p _ => .I p) (fun _ ih => .O ih) p
noncomputable def Pos.beq (p : Pos) : Pos → Bool :=
  Pos.rec (motive := fun _ => Pos → Bool) (fun q => Pos.casesOn q true (fun _ => false) (fun _ => false)) (fun _ ih q => Pos.casesOn q false (fun q => ih q) (fun _ => false)) (fun _ ih q => Pos.casesOn q false (fun _ => false) (fun q => ih q)) p
theorem Pos.succ_H : Pos.H.succ = .O .H := rfl
theorem Pos.succ_O (p : Pos) : (Pos.O p).succ = .I p := rfl
theorem Pos.succ_I (p : Pos) : (Pos.I p).succ = .O p.succ := rfl
theorem Pos.succ_nat (p : Pos) : p.succ.nat = p.nat + 1 := by
  induction p with
  | H => rfl
  | O p => rfl
  | I p ih => rw [Pos.succ_I]; simp only [Pos.nat, ih]; omega
theorem Pos.nat_pos (p : Pos) : 0 < p.nat := by
  induction p <;> simp only [Pos.nat] <;> omega
theorem Pos.nat_inj : ∀ {p q : Pos}, p.nat = q.nat → p = q := by
  intro p
  induction p with
  | H => intro q h; cases q with
    | H => rfl
    | O q => simp only [Pos.nat] at h; omega
    | I q => simp only [Pos.nat] at h; have := q.nat_pos; omega
  | O p ih => intro q h; cases q with
    | H => simp only [Pos.nat] at h; omega
    | O q => simp only [Pos.nat] at h; rw [ih (q := q) (by omega)]
    | I q => simp only [Pos.nat] at h; omega
  | I p ih => intro q h; cases q with
    | H => simp only [Pos.nat] at h; have := p.nat_pos; omega
    | O q => simp only [Pos.nat] at h; omega
    | I q => simp only [Pos.nat] at h; rw [ih (q := q) (by omega)]
theorem Pos.beq_eq : ∀ (p q : Pos), p.beq q = decide (p = q) := by
  intro p
  induction p with
  | H => intro q; cases q <;> simp [Pos.beq]
  | O p ih => intro q; cases q with
    | O q => show p.beq q = _; rw [ih]; simp
    | _ => simp [Pos.beq]
  | I p ih => intro q; cases q with
    | I q => show p.beq q = _; rw [ih]; simp
    | _ => simp [Pos.beq]

/-- tries -/
inductive T (α : Type) where
  | nil | node (l : T α) (v : Option α) (r : T α)
  deriving Inhabited
namespace T
variable {α : Type}
noncomputable def get (p : Pos) : T α → Option α :=
  Pos.rec (motive := fun _ => T α → Option α) (fun t => T.casesOn t none (fun _ v _ => v)) (fun _ ih t => T.casesOn t none (fun l _ _ => ih l)) (fun _ ih t => T.casesOn t none (fun _ _ r => ih r)) p
noncomputable def str (l : T α) (k : T α → T α) : T α := T.casesOn l (k .nil) (fun a b c => k (.node a b c))
noncomputable def set (x : α) (p : Pos) : T α → T α :=
  Pos.rec (motive := fun _ => T α → T α) (fun t => T.casesOn t (.node .nil (some x) .nil) (fun l _ r => .node l (some x) r))
   (fun _ ih t => T.casesOn t (str (ih .nil) fun l => .node l none .nil) (fun l v r => str (ih l) fun l => .node l v r))
   (fun _ ih t => T.casesOn t (str (ih .nil) fun r => .node .nil none r) (fun l v r => str (ih r) fun r => .node l v r)) p
theorem str_eq (l : T α) (k : T α → T α) : str l k = k l := by cases l <;> rfl
theorem get_nil (p : Pos) : get p (.nil : T α) = none := by cases p <;> rfl
theorem set_On (x : α) (p : Pos) : set x (.O p) .nil = .node (set x p .nil) none .nil := by
  have : set x (.O p) .nil = str (set x p .nil) (fun l => .node l none .nil) := rfl
  rw [this, str_eq]
theorem set_Oc (x : α) (p : Pos) (l : T α) (v : Option α) (r : T α) : set x (.O p) (.node l v r) = .node (set x p l) v r := by
  have : set x (.O p) (.node l v r) = str (set x p l) (fun l => .node l v r) := rfl
  rw [this, str_eq]
theorem set_In (x : α) (p : Pos) : set x (.I p) .nil = .node .nil none (set x p .nil) := by
  have : set x (.I p) .nil = str (set x p .nil) (fun r => .node .nil none r) := rfl
  rw [this, str_eq]
theorem set_Ic (x : α) (p : Pos) (l : T α) (v : Option α) (r : T α) : set x (.I p) (.node l v r) = .node l v (set x p r) := by
  have : set x (.I p) (.node l v r) = str (set x p r) (fun r => .node l v r) := rfl
  rw [this, str_eq]
theorem get_set (x : α) : ∀ (p q : Pos) (t : T α), get q (set x p t) = if q = p then some x else get q t := by
  intro p
  induction p with
  | H => intro q t; cases t with
    | nil => cases q with
      | H => rfl
      | O q => show get q .nil = _; rw [get_nil, get_nil]; simp
      | I q => show get q .nil = _; rw [get_nil, get_nil]; simp
    | node l v r => cases q <;> rfl
  | O p ih => intro q t; cases t with
    | nil =>
      rw [set_On]
      cases q with
      | O q => show get q (set x p .nil) = _; rw [ih, get_nil, get_nil]; simp
      | H => rfl
      | I q => show get q .nil = _; rw [get_nil, get_nil]; simp
    | node l v r =>
      rw [set_Oc]
      cases q with
      | O q => show get q (set x p l) = if _ then _ else get q l; rw [ih]; simp
      | H => rfl
      | I q => show get q r = if _ then _ else get q r; simp
  | I p ih => intro q t; cases t with
    | nil =>
      rw [set_In]
      cases q with
      | I q => show get q (set x p .nil) = _; rw [ih, get_nil, get_nil]; simp
      | H => rfl
      | O q => show get q .nil = _; rw [get_nil, get_nil]; simp
    | node l v r =>
      rw [set_Ic]
      cases q with
      | I q => show get q (set x p r) = if _ then _ else get q r; rw [ih]; simp
      | H => rfl
      | O q => show get q l = if _ then _ else get q l; simp
theorem set_set (x y : α) : ∀ (p : Pos) (t : T α), set x p (set y p t) = set x p t := by
  intro p
  induction p with
  | H => intro t; cases t <;> rfl
  | O p ih => intro t; cases t with
    | nil => rw [set_On, set_On, set_Oc, ih]
    | node l v r => rw [set_Oc, set_Oc, set_Oc, ih]
  | I p ih => intro t; cases t with
    | nil => rw [set_In, set_In, set_Ic, ih]
    | node l v r => rw [set_Ic, set_Ic, set_Ic, ih]
end T

/-! lists -/
section
variable {α : Type}
noncomputable def lget (l : List α) : Nat → Option α := List.rec (motive := fun _ => Nat → Option α) (fun _ => none) (fun x _ ih n => Nat.casesOn (motive := fun _ => Option α) n (some x) (fun n => ih n)) l
noncomputable def lset (y : α) (l : List α) : Nat → List α := List.rec (motive := fun _ => Nat → List α) (fun _ => []) (fun x l ih n => Nat.casesOn (motive := fun _ => List α) n (y :: l) (fun n => x :: ih n)) l
noncomputable def ldrop (l : List α) : Nat → List α := List.rec (motive := fun _ => Nat → List α) (fun _ => []) (fun x l ih n => Nat.casesOn (motive := fun _ => List α) n (x :: l) (fun n => ih n)) l
noncomputable def ltake (l : List α) : Nat → List α := List.rec (motive := fun _ => Nat → List α) (fun _ => []) (fun x l ih n => Nat.casesOn (motive := fun _ => List α) n [] (fun n => x :: ih n)) l
noncomputable def lapp (l m : List α) : List α := List.rec (motive := fun _ => List α) m (fun x _ ih => x :: ih) l
noncomputable def llen (l : List α) : Nat := List.rec (motive := fun _ => Nat) 0 (fun _ _ ih => Nat.add ih 1) l
noncomputable def lall (f : α → Bool) (l : List α) : Bool := List.rec (motive := fun _ => Bool) true (fun x _ ih => Bool.casesOn (motive := fun _ => Bool) (f x) false ih) l
noncomputable def lmap {β : Type} (f : α → β) (l : List α) : List β := List.rec (motive := fun _ => List β) [] (fun x _ ih => f x :: ih) l
theorem lget_eq (l : List α) (n : Nat) : lget l n = l[n]? := by
  induction l generalizing n with
  | nil => simp [lget]
  | cons x l ih => cases n with
    | zero => rfl
    | succ n => exact ih n
theorem lset_eq (y : α) (l : List α) (n : Nat) : lset y l n = l.set n y := by
  induction l generalizing n with
  | nil => simp [lset]
  | cons x l ih => cases n with
    | zero => rfl
    | succ n => show x :: lset y l n = _; rw [ih]; rfl
theorem ldrop_eq (l : List α) (n : Nat) : ldrop l n = l.drop n := by
  induction l generalizing n with
  | nil => simp [ldrop]
  | cons x l ih => cases n with
    | zero => rfl
    | succ n => exact ih n
theorem ltake_eq (l : List α) (n : Nat) : ltake l n = l.take n := by
  induction l generalizing n with
  | nil => simp [ltake]
  | cons x l ih => cases n with
    | zero => rfl
    | succ n => show x :: ltake l n = _; rw [ih]; rfl
theorem lapp_eq (l m : List α) : lapp l m = l ++ m := by
  induction l with
  | nil => rfl
  | cons x l ih => show x :: lapp l m = _; rw [ih]; rfl
theorem llen_eq (l : List α) : llen l = l.length := by
  induction l with
  | nil => rfl
  | cons x l ih => show llen l + 1 = _; rw [ih]; rfl
theorem lall_eq (f : α → Bool) (l : List α) : lall f l = l.all f := by
  induction l with
  | nil => rfl
  | cons x l ih =>
    have e : lall f (x :: l) = match f x with | true => lall f l | false => false := by
      have : lall f (x :: l) = Bool.casesOn (motive := fun _ => Bool) (f x) false (lall f l) := rfl
      rw [this]
      cases f x <;> rfl
    rw [e, ih, List.all_cons]
    cases f x <;> rfl
theorem lmap_eq {β : Type} (f : α → β) (l : List α) : lmap f l = l.map f := by
  induction l with
  | nil => rfl
  | cons x l ih => show f x :: lmap f l = _; rw [ih]; rfl
end
end Go.Proofs.YtknhohgnilamcaaGreatDoor
