/-
  A slot is written that the frame says nothing of; a slot is set by hand. (Of no program.)
-/
import Derived.Test.YtknhohgnilamcaaGreatDoorEngLd
namespace Go.Proofs.YtknhohgnilamcaaGreatDoor
set_option linter.unusedVariables false
set_option linter.unusedSimpArgs false
set_option linter.unusedSectionVars false
open Go

theorem FR.skip {n : Nat} {ι : Nm} {A : T V} {a : Act} (F : FR n ι A a) {t : Nat} {p : Pos} (hp : p.nat = t + 1) (h : T.get p A = none) (v' : Value) : FR n ι A (a.put (some t) v') := by
  refine ⟨by simp [Act.put, F.size], F.defers, fun q x s hq hs => ?_⟩
  have hne : t ≠ s := fun e => by
    subst e
    have : q = p := Pos.nat_inj (by omega)
    subst this
    rw [h] at hq; cases hq
  simp only [Act.put, Array.getD_eq_getD_getElem?, Array.getElem?_setIfInBounds_ne hne]
  have := F.at_ q x s hq hs
  rw [Array.getD_eq_getD_getElem?] at this
  exact this
theorem FR.put1 {n : Nat} {ι : Nm} {A : T V} {a : Act} (F : FR n ι A a) {t : Nat} {p : Pos} (hp : p.nat = t + 1) (hn : t < n) {v : V} {v' : Value} (hv : VR ι v v') : FR n ι (T.set v p A) (a.put (some t) v') :=
  F.put (d := some p) (t := some t) (by simp [okDst, hp, hn]) hv
/-- a frame whose slots are not spoken of -/
theorem FR.less {n : Nat} {ι : Nm} {A B : T V} {a : Act} (F : FR n ι A a) (h : ∀ p v, T.get p B = some v → T.get p A = some v) : FR n ι B a := ⟨F.size, F.defers, fun p v t h1 h2 => F.at_ p v t (h p v h1) h2⟩
theorem FR.empty {n : Nat} {ι : Nm} {a : Act} (h1 : a.tmps.size = n) (h2 : a.defers = []) : FR n ι .nil a := ⟨h1, h2, fun p v t h _ => by rw [T.get_nil] at h; cases h⟩
end Go.Proofs.YtknhohgnilamcaaGreatDoor
