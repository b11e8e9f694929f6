/-
  The operations that change nothing: the model yields what the abstract machine yields. (Of no program.)
-/
import Derived.Test.YtknhohgnilamcaaGreatDoorEngR
namespace Go.Proofs.YtknhohgnilamcaaGreatDoor
set_option linter.unusedVariables false
set_option linter.unusedSimpArgs false
set_option linter.unusedSectionVars false
open Go

/-- a type whose values are rows of whole numbers, held against one another -/
structure KTok (P : Program) (t : Nat) (sh : List IntKind) : Prop where
  guard : P.eqGuardType P.depth t = false
  eq : ∀ (w : World) (a b : Value), Shaped (.cells sh) a → Shaped (.cells sh) b → ∃ r : Bool, (Op.equal t a b).run P w = .ok r w ∧ (r = true ↔ a = b)
/-- a type of keys -/
structure MapK (P : Program) (t : Nat) (ks : KSh) : Prop where
  check : ∀ (w : World) (em : Bool) (v : Value), Shaped ks v → (Instr.checkKey em 10000 t v).run P w = .ok () w
  find : ∀ (w : World) (x : Value) (es : List MapEntry), Shaped ks x → (∀ e ∈ es, Shaped ks e.key) →
    ((Instr.findKey t x es).run P w = .ok none w ∧ ∀ e ∈ es, e.key ≠ x) ∨ ∃ j e, (Instr.findKey t x es).run P w = .ok (some (j, e.val)) w ∧ es[j]? = some e ∧ e.key = x
  stays : ∀ (w : World) (v : Value), Shaped ks v → (Instr.keyThatStays v v).run P w = .ok v w
structure PTok (P : Program) (t : Nat) : Prop where
  ok : ∃ te i j, P.underlying t = some (.pointer te) ∧ P.info? t = some i ∧ i.comparable = true ∧ P.info? te = some j ∧ j.size ≠ 0
/-- the globals that are known -/
abbrev GS := List Nat
structure Env (P : Program) where
  ng : GS
  kt : List (Nat × List IntKind)
  kgood : ∀ x ∈ kt, KTok P x.1 x.2
  mk_ : List (Nat × KSh)
  mgood : ∀ x ∈ mk_, MapK P x.1 x.2
  pt : List Nat
  pgood : ∀ t ∈ pt, PTok P t

section
variable (P : Program)
def aggB (t : Nat) : Option Bool := match P.underlying t with | some (.struct _) => some true | some (.array _ _) => some true | some _ => some false | none => none
def szB (t n : Nat) : Bool := match P.info? t with | some i => i.size == n | none => false
def zeroB (t : Nat) (l : List V) : Bool := match P.info? t with | some i => (match i.zero with | some v => cstsB l v.cells.toList | none => false) | none => false
def zeroV (t : Nat) (x : V) : Bool := match P.info? t with | some i => (match i.zero with | some v => cstB x v | none => false) | none => false
def okA (ng : GS) (a : Arg) (o : Operand) : Bool := match a, o with
  | .s p, .tmp t => p.nat == t + 1
  | .v x, .const c => cstB x c
  | .g p, .global g => p.nat == g + 1 && ng.contains g
  | .f n, .func f => n == f
  | _, _ => false
def okAs (ng : GS) : List Arg → List Operand → Bool
  | [], [] => true
  | a :: l, o :: m => okA ng a o && okAs ng l m
  | _, _ => false
def okOA (ng : GS) (a : Option Arg) (o : Option Operand) : Bool := match a, o with | none, none => true | some a, some o => okA ng a o | _, _ => false
def isC : Arg → Bool | .v _ => true | _ => false
/-- the places of a struct's or an array's parts -/
def placeB (t : Nat) (i off sz : Nat) : Bool := match P.underlying t with
  | some (.struct fs) => (match fs[i]? with | some f => f.offset == off && szB P f.type sz | none => false)
  | some (.array _ e) => szB P e sz && off == i * sz
  | _ => false
def placesB (ng : GS) (t : Nat) : List (Nat × Nat × Arg) → List (Nat × Operand) → Bool
  | [], [] => true
  | p :: l, (i, o) :: m => placeB P t i p.1 p.2.1 && okA ng p.2.2 o && placesB ng t l m
  | _, _ => false
end

/-- what a frame stands for -/
structure FR (n : Nat) (ι : Nm) (A : T V) (a : Act) : Prop where
  size : a.tmps.size = n
  defers : a.defers = []
  at_ : ∀ (p : Pos) v t, T.get p A = some v → p.nat = t + 1 → VR ι v (a.tmps.getD t undef)
theorem FR.mono {n : Nat} {ι ι' : Nm} (h : Ext ι ι') {A : T V} {a : Act} (F : FR n ι A a) : FR n ι' A a := ⟨F.size, F.defers, fun p v t h1 h2 => (F.at_ p v t h1 h2).mono h⟩
def Gl (ng : GS) (ι : Nm) : Prop := ∀ (g : Nat) (p : Pos), g ∈ ng → p.nat = g + 1 → ∃ pl, ι p = some pl ∧ pl.kd = 0 ∧ pl.blk = g ∧ pl.st = 0
theorem Gl.mono {ng : GS} {ι ι' : Nm} (h : Ext ι ι') (g : Gl ng ι) : Gl ng ι' := fun n p h1 h2 => let ⟨pl, a, b⟩ := g n p h1 h2; ⟨pl, h _ _ a, b⟩
theorem ev_sound {ng : GS} {n : Nat} {ι : Nm} {A : T V} {a : Act} (F : FR n ι A a) (L : Gl ng ι) {x : Arg} {o : Operand} (h : okA ng x o = true) : VR ι (ev A x) (a.eval o) := by
  cases x with
  | s p =>
    cases o <;> simp [okA] at h
    rename_i t
    have e : ev A (.s p) = match T.get p A with | some v => v | none => .u := rfl
    rw [e]
    cases hg : T.get p A with
    | none => exact .u _
    | some v => exact F.at_ p v t hg h
  | v x =>
    cases o <;> simp [okA] at h
    exact cst_sound _ _ h
  | g p =>
    cases o <;> simp [okA] at h
    rename_i g
    obtain ⟨pl, h1, h2, h3, h4⟩ := L g p h.2 h.1
    have := VR.ptr p 0 pl h1 h2
    rw [h3, h4] at this
    exact this
  | f m =>
    cases o <;> simp [okA] at h
    subst h
    exact .fn _ [] [] #[] #[] rfl rfl (fun i a b h => by simp at h) (fun i a b h => by simp at h)
theorem evs_sound {ng : GS} {n : Nat} {ι : Nm} {A : T V} {a : Act} (F : FR n ι A a) (L : Gl ng ι) : ∀ (l : List Arg) (m : List Operand), okAs ng l m = true → VRs ι (l.map (ev A)) (m.map a.eval)
  | [], [], _ => .nil
  | [], _ :: _, h => by simp [okAs] at h
  | _ :: _, [], h => by simp [okAs] at h
  | x :: l, o :: m, h => by
    simp only [okAs, Bool.and_eq_true] at h
    exact .cons (ev_sound F L h.1) (evs_sound F L l m h.2)

section
variable {P : Program} {w : World}
theorem run_szB {t n : Nat} (h : szB P t n = true) : ∀ w, (Go.sizeOf t).run P w = .ok n w := by
  intro w
  unfold szB at h
  split at h
  · rename_i i hi
    have : i.size = n := by simpa using h
    simp [Go.sizeOf, typeInfo, hi, this]
  · cases h
theorem run_aggB {t : Nat} {b : Bool} (h : aggB P t = some b) : ∀ w, (isAgg t).run P w = .ok b w := by
  intro w
  unfold aggB at h
  cases hu : P.underlying t with
  | none => rw [hu] at h; cases h
  | some d =>
    rw [hu] at h
    cases d <;> (cases h; simp [isAgg, run_underlying hu])
theorem run_zero {t : Nat} {i : TypeInfo} {v : Value} (hi : P.info? t = some i) (hz : i.zero = some v) : ∀ w, (zeroValue t).run P w = .ok v w := by
  intro w
  simp [zeroValue, typeInfo, hi, hz]
theorem zeroB_inv {t : Nat} {l : List V} (h : zeroB P t l = true) : ∃ v, (∀ w, (zeroValue t).run P w = .ok v w) ∧ ∀ ι, VRs ι l v.cells.toList := by
  unfold zeroB at h
  split at h
  · rename_i i hi
    split at h
    · rename_i v hv
      exact ⟨v, run_zero hi hv, fun ι => csts_sound (fun l x hx y hy => cst_sound x y hy) _ _ h⟩
    · cases h
  · cases h
theorem zeroV_inv {t : Nat} {x : V} (h : zeroV P t x = true) : ∃ v, (∀ w, (zeroValue t).run P w = .ok v w) ∧ ∀ ι, VR ι x v := by
  unfold zeroV at h
  split at h
  · rename_i i hi
    split at h
    · rename_i v hv
      exact ⟨v, run_zero hi hv, fun ι => cst_sound x v h⟩
    · cases h
  · cases h

theorem flat_sound {ι : Nm} {v : V} {v' : Value} {l : List V} (h : flat v = some l) (hv : VR ι v v') : VRs ι l v'.cells.toList := by
  cases v <;> simp [flat] at h
  all_goals subst h
  case agg l => obtain ⟨c, rfl, hc⟩ := hv.of_agg; exact hc
  all_goals
    have e : v'.cells.toList = [v'] := by cases hv <;> rfl
    rw [e]
    exact .cons hv .nil
end
end Go.Proofs.YtknhohgnilamcaaGreatDoor
