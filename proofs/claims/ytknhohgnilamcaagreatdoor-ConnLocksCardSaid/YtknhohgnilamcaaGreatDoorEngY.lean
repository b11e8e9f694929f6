/-
  The operations that change nothing: the model yields the same, one by one; parts of slices, keys, what is built, nil. (Of no program.)
-/
import Derived.Test.YtknhohgnilamcaaGreatDoorEngX
namespace Go.Proofs.YtknhohgnilamcaaGreatDoor
set_option linter.unusedVariables false
set_option linter.unusedSimpArgs false
set_option linter.unusedSectionVars false
open Go

section
variable {P : Program} {E : Env P}
/-- a bound, or none -/
def BoundIs (a : Act) (x : Option Operand) (d n : Nat) : Prop := match x with | none => n = d | some x => ∃ k, a.eval x = .int k n
theorem optN_sound {ng : GS} {n : Nat} {ι : Nm} {A : T V} {a : Act} (F : FR n ι A a) (L : Gl ng ι) {x : Option Arg} {o : Option Operand} (h : okOA ng x o = true) {d m : Nat} (hm : optN A x d = some m) : BoundIs a o d m := by
  cases x with
  | none =>
    cases o with
    | none => cases hm; rfl
    | some o => simp [okOA] at h
  | some x =>
    cases o with
    | none => simp [okOA] at h
    | some o =>
      simp only [okOA] at h
      simp only [optN] at hm
      split at hm
      · rename_i k i hx
        obtain ⟨k1, k2⟩ := (ev_as F L h hx).int_inv
        have := natOf_inv hm
        subst this
        exact ⟨k, k1⟩
      · cases hm
theorem bounds_sound {a : Act} {lo hi : Option Operand} {isS : Bool} {len cap l h : Nat} (h1 : BoundIs a hi len h) (h2 : BoundIs a lo 0 l) (hl : l ≤ h) (hh : h ≤ len) (hc : len ≤ cap) (w : World) :
    (Instr.sliceBounds isS len cap (lo.map a.eval) (hi.map a.eval) none).run P w = .ok (l, h, cap) w := by
  have hb : ∀ (k : IntKind) (n y : Nat) (code : BoundsCode), n ≤ y → (Instr.sliceBound (.int k (n : Int)) y code).run P w = .ok n w := by
    intro k n y code hn
    simp only [Instr.sliceBound, asIntOf, Sem.run_bind, Sem.run_pure, Result.andThen_ok]
    rw [if_pos (by omega)]; simp
  cases hi with
  | none =>
    simp only [BoundIs] at h1
    subst h1
    cases lo with
    | none =>
      simp only [BoundIs] at h2
      subst h2
      simp [Instr.sliceBounds]
    | some x =>
      obtain ⟨k, hk⟩ := h2
      simp [Instr.sliceBounds, hk, hb _ _ _ _ hl]
  | some z =>
    obtain ⟨k2, hk2⟩ := h1
    have hz := hb k2 h cap (if isS = true then BoundsCode.sliceAcap else BoundsCode.sliceAlen) (by omega)
    cases lo with
    | none =>
      simp only [BoundIs] at h2
      subst h2
      simp [Instr.sliceBounds, hk2, hz]
    | some x =>
      obtain ⟨k, hk⟩ := h2
      simp [Instr.sliceBounds, hk, hb _ _ _ _ hl, hk2, hz]
theorem and_ble {a b c d : Nat} (h : (Nat.ble a b && Nat.ble c d) = true) : a ≤ b ∧ c ≤ d := by
  simp only [Bool.and_eq_true] at h
  exact ⟨ble_le h.1, ble_le h.2⟩
theorem mul_split {l c e : Nat} (h : l ≤ c) : l * e + (c - l) * e = c * e := by
  rw [← Nat.add_mul]; congr 1; omega
theorem q_slc (x : Arg) (lo hi : Option Arg) (esz : Nat) : QSound E (.slc x lo hi esz) := by
  intro n ι A b σ w o v F L R hok h
  obtain ⟨d, op, ty, pos, af, g⟩ := o
  cases op with
  | slice t x' l' h' m' =>
    cases m' with
    | some m' => simp [okQ] at hok
    | none =>
      simp only [okQ, Bool.and_eq_true] at hok
      obtain ⟨⟨⟨h1, h2⟩, h3⟩, h4⟩ := hok
      obtain ⟨el, hu, hs⟩ := isSliceB_inv h4
      simp only [qev] at h
      split at h
      · rename_i p o len cap es hx
        split at h
        · rename_i hes
          have hes : es = esz := Nat.eq_of_beq_eq_true hes
          subst hes
          split at h
          · rename_i hh hhi
            split at h
            · rename_i ll hlo
              split at h
              · rename_i hle
                obtain ⟨hle1, hle2⟩ := and_ble hle
                cases h
                obtain ⟨pl, aa, c, k1, k2, k3, k4, k5, k6, k7⟩ := (ev_as F L h1 hx).slice_inv
                have hb := bounds_sound (P := P) (isS := true) (cap := c) (optN_sound F L h3 hhi) (optN_sound F L h2 hlo) hle1 hle2 k4 w
                refine ⟨.slice (some (if c = ll then aa else aa.add (ll * es))) (hh - ll) (c - ll), exv rfl (s := Instr.sliceAt t (b.eval x') (l'.map b.eval) (h'.map b.eval) none) ?_, ?_⟩
                · simp only [Instr.sliceAt, Sem.run_bind, run_underlying hu, Result.andThen_ok, Instr.slice, k7, hb, run_szB hs, Sem.run_pure]
                  congr 2
                  split <;> rfl
                · have hms := mul_split (e := es) (show ll ≤ c by omega)
                  refine .slice p _ _ _ _ pl _ _ k1 k2 ?_ (show hh - ll ≤ c - ll by omega) ?_ ?_
                  · intro m hm
                    cases cap with
                    | none => cases hm
                    | some c' =>
                      have := k3 c' rfl
                      subst this
                      cases hm; rfl
                  · intro hne
                    rw [if_neg (by omega), k5 (by omega), addr_add, Nat.add_assoc]
                    rfl
                  · show pl.st + (o + ll * es) + (c - ll) * es ≤ pl.sz
                    omega
              · cases h
            · cases h
          · cases h
        · cases h
      · rename_i hx
        have k7 : b.eval x' = .slice none 0 0 := by
          have := ev_as F L h1 hx
          generalize b.eval x' = zz at this
          cases this; rfl
        split at h
        · rename_i hh hhi
          split at h
          · rename_i ll hlo
            split at h
            · rename_i hle
              simp only [Bool.and_eq_true] at hle
              have e1 : hh = 0 := Nat.eq_of_beq_eq_true hle.1
              have e2 : ll = 0 := Nat.eq_of_beq_eq_true hle.2
              subst e1; subst e2
              cases h
              have hb := bounds_sound (P := P) (isS := true) (cap := 0) (optN_sound F L h3 hhi) (optN_sound F L h2 hlo) (Nat.le_refl 0) (Nat.le_refl 0) (Nat.le_refl 0) w
              refine ⟨.slice none 0 0, exv rfl (s := Instr.sliceAt t (b.eval x') (l'.map b.eval) (h'.map b.eval) none) ?_, .nils⟩
              simp only [Instr.sliceAt, Sem.run_bind, run_underlying hu, Result.andThen_ok, Instr.slice, k7, hb, run_szB hs, Sem.run_pure]
              rfl
            · cases h
          · cases h
        · cases h
      · cases h
  | _ => simp [okQ] at hok
theorem q_slca (x : Arg) (lo hi : Option Arg) (esz m : Nat) : QSound E (.slca x lo hi esz m) := by
  intro n ι A b σ w o v F L R hok h
  obtain ⟨d, op, ty, pos, af, g⟩ := o
  cases op with
  | slice t x' l' h' m' =>
    cases m' with
    | some m' => simp [okQ] at hok
    | none =>
      simp only [okQ, Bool.and_eq_true] at hok
      obtain ⟨⟨⟨h1, h2⟩, h3⟩, h4⟩ := hok
      obtain ⟨el, hu, hs⟩ := isArrB_inv h4
      simp only [qev] at h
      split at h
      · rename_i p o hx
        split at h
        · rename_i ls kin fz ro hg
          split at h
          · rename_i hroom
            have hroom := ble_le hroom
            rw [llen_eq] at hroom
            split at h
            · rename_i hh hhi
              split at h
              · rename_i ll hlo
                split at h
                · rename_i hle
                  obtain ⟨hle1, hle2⟩ := and_ble hle
                  cases h
                  obtain ⟨pl, k1, k2, k3⟩ := (ev_as F L h1 hx).ptr_inv
                  obtain ⟨pl', c, e, j1, j2, j3, j4, j5, j6⟩ := R.ob p _ hg
                  rw [k1] at j1; cases j1
                  have hb := bounds_sound (P := P) (isS := false) (cap := m) (optN_sound F L h3 hhi) (optN_sound F L h2 hlo) hle1 hle2 (Nat.le_refl _) w
                  have hroom : o + m * esz ≤ ls.length := hroom
                  refine ⟨.slice (some (if m = ll then ⟨pl.blk, pl.st + o, none⟩ else (⟨pl.blk, pl.st + o, none⟩ : Addr).add (ll * esz))) (hh - ll) (m - ll), exv rfl (s := Instr.sliceAt t (b.eval x') (l'.map b.eval) (h'.map b.eval) none) ?_, ?_⟩
                  · simp only [Instr.sliceAt, Sem.run_bind, run_underlying hu, Result.andThen_ok, k3, Instr.sureAddr, hb, run_szB hs, Sem.run_pure]
                  · have hms := mul_split (e := esz) (show ll ≤ m by omega)
                    refine .slice p _ _ _ _ pl _ _ k1 k2 (fun z hz => by cases hz; rfl) (show hh - ll ≤ m - ll by omega) ?_ ?_
                    · intro hne
                      rw [if_neg (by omega), addr_add, Nat.add_assoc]
                      rfl
                    · show pl.st + (o + ll * esz) + (m - ll) * esz ≤ pl.sz
                      omega
                · cases h
              · cases h
            · cases h
          · cases h
        · cases h
      · cases h
  | _ => simp [okQ] at hok
theorem q_slcs (x : Arg) (lo hi : Option Arg) : QSound E (.slcs x lo hi) := by
  intro n ι A b σ w o v F L R hok h
  obtain ⟨d, op, ty, pos, af, g⟩ := o
  cases op with
  | slice t x' l' h' m' =>
    cases m' with
    | some m' => simp [okQ] at hok
    | none =>
      simp only [okQ, Bool.and_eq_true] at hok
      obtain ⟨⟨⟨h1, h2⟩, h3⟩, h4⟩ := hok
      have hu := isStrB_inv h4
      simp only [qev] at h
      split at h
      · rename_i s hx
        obtain ⟨s1, k1, k2⟩ := (ev_as F L h1 hx).str_inv
        have hsz : s1.size = s.length := by rw [← k2]; simp
        split at h
        · rename_i hh hhi
          split at h
          · rename_i ll hlo
            split at h
            · rename_i hle
              obtain ⟨hle1, hle2⟩ := and_ble hle
              rw [llen_eq] at hle2 hhi
              cases h
              have hb := bounds_sound (P := P) (isS := false) (len := s1.size) (cap := s1.size) (by rw [hsz]; exact optN_sound F L h3 hhi) (optN_sound F L h2 hlo) hle1 (by omega) (Nat.le_refl _) w
              refine ⟨.string (s1.extract ll hh), exv rfl (s := Instr.sliceAt t (b.eval x') (l'.map b.eval) (h'.map b.eval) none) ?_, ?_⟩
              · simp only [Instr.sliceAt, Sem.run_bind, run_underlying hu, Result.andThen_ok, Instr.slice, k1, Option.isSome_none, Bool.false_eq_true, if_false, Sem.run_pure, hb]
              · rw [ltake_eq, ldrop_eq]
                refine .str _ _ ?_
                rw [← k2]
                have e : (s1.extract ll hh).data.toList = (s1.data.toList.drop ll).take (hh - ll) := by
                  rw [ByteArray.data_extract]
                  simp
                rw [e, List.map_take, List.map_drop]
                rfl
            · cases h
          · cases h
        · cases h
      · cases h
  | _ => simp [okQ] at hok
end
end Go.Proofs.YtknhohgnilamcaaGreatDoor
