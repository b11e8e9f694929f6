/-
  The operations that change nothing: the model yields the same, one by one. (Of no program.)
-/
import Derived.Test.YtknhohgnilamcaaGreatDoorEngU
namespace Go.Proofs.YtknhohgnilamcaaGreatDoor
set_option linter.unusedVariables false
set_option linter.unusedSimpArgs false
set_option linter.unusedSectionVars false
open Go

def QSound {P : Program} (E : Env P) (q : QOp) : Prop := ∀ {n : Nat} {ι : Nm} {A : T V} {a : Act} {σ : St} {w : World} {o : Oper} {v : V}, FR n ι A a → Gl E.ng ι → Rep ι σ w →
  okQ E q o.op = true → qev E.pt q A σ = some v → ∃ v', (execOp a.eval o).run P w = .ok (.value v') w ∧ VR ι v v'

theorem exv {P : Program} {ρ : Operand → Value} {o : Oper} {s : Sem Value} {w : World} {v' : Value} (h : execOp ρ o = (do pure (.value (← s)))) (hs : s.run P w = .ok v' w) : (execOp ρ o).run P w = .ok (.value v') w := by
  rw [h]; simp only [Sem.run_bind, hs, Result.andThen_ok, Sem.run_pure]

section
variable {P : Program} {E : Env P}
theorem q_mv (a : Arg) : QSound E (.mv a) := by
  intro n ι A b σ w o v F L R hok h
  obtain ⟨d, op, ty, pos, af, g⟩ := o
  cases op <;> simp only [okQ, Bool.false_eq_true] at hok
  all_goals
    simp only [qev, Option.some.injEq] at h
    subst h
    exact ⟨_, by unfold execOp; rfl, ev_sound F L hok⟩
theorem q_pick (c x y : Arg) : QSound E (.pick c x y) := by
  intro n ι A b σ w o v F L R hok h
  obtain ⟨d, op, ty, pos, af, g⟩ := o
  cases op <;> simp only [okQ, Bool.false_eq_true, Bool.and_eq_true] at hok
  rename_i c' x' y'
  obtain ⟨⟨h1, h2⟩, h3⟩ := hok
  have v1 := ev_sound F L h1
  have v2 := ev_sound F L h2
  have v3 := ev_sound F L h3
  simp only [qev] at h
  split at h
  · rename_i t ht
    rw [ht] at v1
    generalize hc : b.eval c' = z at v1
    cases v1
    cases h
    cases t
    · refine ⟨_, ?_, v3⟩
      unfold execOp
      simp [hc, asBool]
    · refine ⟨_, ?_, v2⟩
      unfold execOp
      simp [hc, asBool]
  · cases h
theorem q_fadr (x : Arg) (off : Nat) : QSound E (.fadr x off) := by
  intro n ι A b σ w o v F L R hok h
  obtain ⟨d, op, ty, pos, af, g⟩ := o
  cases op <;> simp only [okQ, Bool.false_eq_true, Bool.and_eq_true] at hok
  rename_i t x' f
  obtain ⟨h1, h2⟩ := hok
  have v1 := ev_sound F L h1
  simp only [qev] at h
  split at h
  · rename_i p o hx
    rw [hx] at v1
    generalize hc : b.eval x' = z at v1
    cases v1
    rename_i pl hk hp
    cases h
    split at h2
    · rename_i ft hft
      unfold fieldB at hft
      split at hft
      · rename_i fs hu
        split at hft
        · rename_i fd hfd
          split at hft
          · rename_i hof
            cases hft
            refine ⟨_, exv rfl (s := Instr.fieldAt t (b.eval x') f) ?_, .ptr p (o + off) pl hp hk⟩
            unfold nzB at h2
            split at h2
            · rename_i i hi
              have hne : i.size ≠ 0 := by simpa using h2
              simp only [Instr.fieldAt, Sem.run_bind, run_underlying hu, Result.andThen_ok, hfd, hc, Instr.sureAddr, Sem.run_pure, fieldPlace, Go.sizeOf, typeInfo, program, Sem.run, hi, hne, if_false]
              subst hof
              rw [show (⟨pl.blk, pl.st + o, none⟩ : Addr).add fd.offset = ⟨pl.blk, pl.st + (o + fd.offset), none⟩ from by unfold Addr.add; split <;> simp_all; omega]
            · cases h2
          · cases hft
        · cases hft
      · cases hft
    · cases h2
  · cases h

/-- an operand that is known stands for the value -/
theorem ev_as {ng : GS} {n : Nat} {ι : Nm} {A : T V} {a : Act} (F : FR n ι A a) (L : Gl ng ι) {x : Arg} {o : Operand} (h : okA ng x o = true) {v : V} (hv : ev A x = v) : VR ι v (a.eval o) := hv ▸ ev_sound F L h
theorem VR.int_inv {ι : Nm} {k : IntKind} {n : Int} {y : Value} (h : VR ι (.int k n) y) : y = .int k n ∧ k.has n := by cases h; exact ⟨rfl, by assumption⟩
theorem VR.bool_inv {ι : Nm} {b : Bool} {y : Value} (h : VR ι (.bool b) y) : y = .bool b := by cases h; rfl
theorem VR.ptr_inv {ι : Nm} {p : Pos} {o : Nat} {y : Value} (h : VR ι (.ptr p o) y) : ∃ pl, ι p = some pl ∧ pl.kd = 0 ∧ y = .pointer (some ⟨pl.blk, pl.st + o, none⟩) := by cases h; exact ⟨_, by assumption, by assumption, rfl⟩
theorem VR.str_inv {ι : Nm} {l : List Nat} {y : Value} (h : VR ι (.str l) y) : ∃ s : ByteArray, y = .string s ∧ s.data.toList.map (·.toNat) = l := by cases h; exact ⟨_, rfl, by assumption⟩
theorem VR.slice_inv {ι : Nm} {p : Pos} {o len esz : Nat} {cap : Option Nat} {y : Value} (h : VR ι (.slice p o len cap esz) y) :
    ∃ pl a c, ι p = some pl ∧ pl.kd = 0 ∧ (∀ n, cap = some n → c = n) ∧ len ≤ c ∧ (c ≠ 0 → a = ⟨pl.blk, pl.st + o, none⟩) ∧ pl.st + o + c * esz ≤ pl.sz ∧ y = .slice (some a) len c := by
  cases h; exact ⟨_, _, _, by assumption, by assumption, by assumption, by assumption, by assumption, by assumption, rfl⟩
theorem VR.map_inv {ι : Nm} {p : Pos} {y : Value} (h : VR ι (.map p) y) : ∃ pl, ι p = some pl ∧ pl.kd = 1 ∧ y = .map (some pl.blk) := by cases h; exact ⟨_, by assumption, by assumption, rfl⟩
theorem VR.iface_inv {ι : Nm} {t : Nat} {v : V} {y : Value} (h : VR ι (.iface t v) y) : ∃ v', VR ι v v' ∧ y = .iface t v' := by cases h; exact ⟨_, by assumption, rfl⟩
theorem natOf_inv {i : Int} {n : Nat} (h : natOf i = some n) : i = (n : Int) := by cases i <;> simp [natOf] at h; subst h; rfl
theorem ble_le {a b : Nat} (h : Nat.ble a b = true) : a ≤ b := Nat.le_of_ble_eq_true h
theorem addr_add (b o j : Nat) : (⟨b, o, none⟩ : Addr).add j = ⟨b, o + j, none⟩ := by
  unfold Addr.add; split
  · rename_i h; rw [h]; rfl
  · rfl

theorem part_sound {ι : Nm} {t n off : Nat} {ag : Bool} {l : List V} {c : Array Value} {v : V} (hc : VRs ι l c.toList) (hs : szB P t n = true) (ha : aggB P t = some ag) (h : partA l off n ag = some v) (w : World) :
    ∃ v', (part t c off).run P w = .ok v' w ∧ VR ι v v' := by
  cases ag with
  | true =>
    simp only [partA] at h
    split at h
    · rename_i hle
      have hle := ble_le hle
      rw [llen_eq] at hle
      cases h
      refine ⟨.agg (c.extract off (off + n)), by simp [part, run_aggB ha, run_szB hs], .mk_agg ?_⟩
      rw [ltake_eq, ldrop_eq]
      have : (c.extract off (off + n)).toList = (c.toList.drop off).take n := by simp
      rw [this]
      exact (hc.drop off).take n
    · cases h
  | false =>
    simp only [partA, lget_eq] at h
    have hlt : off < l.length := (List.getElem?_eq_some_iff.1 h).1
    have hlt' : off < c.size := by have := hc.1; simp at this; omega
    refine ⟨c[off], by simp [part, run_aggB ha, hlt'], hc.2 off v _ h (by simp [hlt'])⟩

theorem q_fld (x : Arg) (off m : Nat) (ag : Bool) : QSound E (.fld x off m ag) := by
  intro n ι A b σ w o v F L R hok h
  obtain ⟨d, op, ty, pos, af, g⟩ := o
  cases op <;> simp only [okQ, Bool.false_eq_true, Bool.and_eq_true] at hok
  rename_i t x' f
  obtain ⟨h1, h2⟩ := hok
  simp only [qev] at h
  split at h
  · rename_i l hx
    obtain ⟨c, hc, hcs⟩ := (ev_as F L h1 hx).of_agg
    split at h2
    · rename_i ft hft
      unfold fieldB at hft
      split at hft
      · rename_i fs hu
        split at hft
        · rename_i fd hfd
          split at hft
          · rename_i hof
            cases hft
            simp only [Bool.and_eq_true, beq_iff_eq] at h2
            obtain ⟨v', hr, hv⟩ := part_sound hcs h2.1 h2.2 h w
            refine ⟨v', exv rfl (s := Instr.field t (b.eval x') f) ?_, hv⟩
            subst hof
            simp only [Instr.field, Sem.run_bind, run_underlying hu, Result.andThen_ok, hfd, hc, asAgg, Sem.run_pure, hr]
          · cases hft
        · cases hft
      · cases hft
    · cases h2
  · cases h
theorem isSliceB_inv {t esz : Nat} (h : isSliceB P t esz = true) : ∃ e, P.underlying t = some (.slice e) ∧ szB P e esz = true := by
  unfold isSliceB at h; split at h
  · exact ⟨_, by assumption, h⟩
  · cases h
theorem isArrB_inv {t n esz : Nat} (h : isArrB P t n esz = true) : ∃ e, P.underlying t = some (.array n e) ∧ szB P e esz = true := by
  unfold isArrB at h; split at h
  · simp only [Bool.and_eq_true, beq_iff_eq] at h
    obtain ⟨rfl, h⟩ := h
    exact ⟨_, by assumption, h⟩
  · cases h
theorem isStrB_inv {t : Nat} (h : isStrB P t = true) : P.underlying t = some .string := by
  unfold isStrB at h; split at h
  · assumption
  · cases h
theorem q_iadr (x i : Arg) (esz : Nat) : QSound E (.iadr x i esz) := by
  intro n ι A b σ w o v F L R hok h
  obtain ⟨d, op, ty, pos, af, g⟩ := o
  cases op <;> simp only [okQ, Bool.false_eq_true, Bool.and_eq_true] at hok
  rename_i t x' j
  obtain ⟨⟨h1, h2⟩, h3⟩ := hok
  obtain ⟨e, hu, hs⟩ := isSliceB_inv h3
  simp only [qev] at h
  split at h
  · rename_i p o len cap es hx
    split at h
    · rename_i k i' hi
      split at h
      · rename_i m hm
        split at h
        · rename_i hlt
          rw [blt_eq] at hlt
          have hlt : m < len := of_decide_eq_true hlt
          cases h
          obtain ⟨pl, a, c, k1, k2, k3, k4, k5, k6, k7⟩ := (ev_as F L h1 hx).slice_inv
          obtain ⟨k8, k9⟩ := (ev_as F L h2 hi).int_inv
          have := natOf_inv hm
          subst this
          have k5 := k5 (by omega)
          subst k5
          refine ⟨_, exv rfl (s := Instr.indexAt t (b.eval x') (b.eval j)) ?_, .ptr p _ pl k1 k2⟩
          simp only [Instr.indexAt, k7, k8, asIntOf, Sem.run_bind, Sem.run_pure, Result.andThen_ok, run_underlying hu, run_szB hs, Bool.and_false]
          rw [if_pos (by omega)]
          simp only [Sem.run_bind, Sem.run_pure, Result.andThen_ok, run_szB hs, addr_add, Int.toNat_natCast, Nat.add_assoc]
          rfl
        · cases h
      · cases h
    · cases h
  · cases h
theorem q_iada (x i : Arg) (esz m : Nat) : QSound E (.iada x i esz m) := by
  intro n ι A b σ w o v F L R hok h
  obtain ⟨d, op, ty, pos, af, g⟩ := o
  cases op <;> simp only [okQ, Bool.false_eq_true, Bool.and_eq_true] at hok
  rename_i t x' j
  obtain ⟨⟨h1, h2⟩, h3⟩ := hok
  obtain ⟨e, hu, hs⟩ := isArrB_inv h3
  simp only [qev] at h
  split at h
  · rename_i p o hx
    split at h
    · rename_i k i' hi
      split at h
      · rename_i j' hm
        split at h
        · rename_i hlt
          rw [blt_eq] at hlt
          have hlt : j' < m := of_decide_eq_true hlt
          cases h
          obtain ⟨pl, k1, k2, k7⟩ := (ev_as F L h1 hx).ptr_inv
          obtain ⟨k8, k9⟩ := (ev_as F L h2 hi).int_inv
          have := natOf_inv hm
          subst this
          refine ⟨_, exv rfl (s := Instr.indexAt t (b.eval x') (b.eval j)) ?_, .ptr p _ pl k1 k2⟩
          simp only [Instr.indexAt, k7, k8, asIntOf, Sem.run_bind, Sem.run_pure, Result.andThen_ok, run_underlying hu, Instr.sureAddr]
          rw [if_pos (by omega)]
          simp only [Sem.run_bind, Sem.run_pure, Result.andThen_ok, run_szB hs, addr_add, Int.toNat_natCast, Nat.add_assoc]
          rfl
        · cases h
      · cases h
    · cases h
  · cases h
theorem q_idxa (x i : Arg) (esz m : Nat) (ag : Bool) : QSound E (.idxa x i esz m ag) := by
  intro n ι A b σ w o v F L R hok h
  obtain ⟨d, op, ty, pos, af, g⟩ := o
  cases op <;> simp only [okQ, Bool.false_eq_true, Bool.and_eq_true] at hok
  rename_i t x' j
  obtain ⟨⟨⟨h1, h2⟩, h3⟩, h4⟩ := hok
  obtain ⟨e, hu, hs⟩ := isArrB_inv h3
  rw [hu] at h4
  simp only [beq_iff_eq] at h4
  simp only [qev] at h
  split at h
  · rename_i l hx
    split at h
    · rename_i k i' hi
      split at h
      · rename_i j' hm
        split at h
        · rename_i hlt
          rw [blt_eq] at hlt
          have hlt : j' < m := of_decide_eq_true hlt
          obtain ⟨c, hc, hcs⟩ := (ev_as F L h1 hx).of_agg
          obtain ⟨k8, k9⟩ := (ev_as F L h2 hi).int_inv
          have := natOf_inv hm
          subst this
          obtain ⟨v', hr, hv⟩ := part_sound hcs hs h4 h w
          refine ⟨v', exv rfl (s := Instr.index t (b.eval x') (b.eval j)) ?_, hv⟩
          simp only [Instr.index, hc, k8, asIntOf, Sem.run_bind, Sem.run_pure, Result.andThen_ok, run_underlying hu]
          rw [if_pos (by omega)]
          simp only [Sem.run_bind, Sem.run_pure, Result.andThen_ok, run_szB hs, Int.toNat_natCast]
          exact hr
        · cases h
      · cases h
    · cases h
  · cases h
theorem q_idxs (x i : Arg) : QSound E (.idxs x i) := by
  intro n ι A b σ w o v F L R hok h
  obtain ⟨d, op, ty, pos, af, g⟩ := o
  cases op <;> simp only [okQ, Bool.false_eq_true, Bool.and_eq_true] at hok
  rename_i t x' j
  obtain ⟨⟨h1, h2⟩, h3⟩ := hok
  have hu := isStrB_inv h3
  simp only [qev] at h
  split at h
  · rename_i l hx
    split at h
    · rename_i k i' hi
      split at h
      · rename_i j' hm
        split at h
        · rename_i c hc
          cases h
          obtain ⟨s, k7, hs⟩ := (ev_as F L h1 hx).str_inv
          obtain ⟨k8, k9⟩ := (ev_as F L h2 hi).int_inv
          have := natOf_inv hm
          subst this
          rw [lget_eq, ← hs, List.getElem?_map] at hc
          cases hg : s.data.toList[j']? with
          | none => rw [hg] at hc; cases hc
          | some u =>
            rw [hg] at hc
            have hc : u.toNat = c := by simpa using hc
            have hlt : j' < s.data.toList.length := (List.getElem?_eq_some_iff.1 hg).1
            have hsz : j' < s.size := by simpa using hlt
            have hget : s[j']? = some u := by
              rw [getElem?_pos s j' hsz]
              congr 1
              have := (List.getElem?_eq_some_iff.1 hg).2
              rw [← this]
              simp
              rfl
            refine ⟨.int .u8 (u.toNat : Int), exv rfl (s := Instr.index t (b.eval x') (b.eval j)) ?_, ?_⟩
            · simp only [Instr.index, k7, k8, asIntOf, Sem.run_bind, Sem.run_pure, Result.andThen_ok, run_underlying hu]
              rw [if_pos (by omega), Int.toNat_natCast, hget]
              rfl
            · subst hc
              refine .int _ _ ?_
              have := u.toNat_lt
              unfold IntKind.has IntKind.min IntKind.max
              simp [IntKind.bits, IntKind.signed]
              omega
        · cases h
      · cases h
    · cases h
  · cases h
theorem q_nck (x : Arg) : QSound E (.nck x) := by
  intro n ι A b σ w o v F L R hok h
  obtain ⟨d, op, ty, pos, af, g⟩ := o
  cases op <;> simp only [okQ, Bool.false_eq_true] at hok
  rename_i x'
  simp only [qev] at h
  split at h
  · rename_i p o hx
    cases h
    have hv := ev_as F L hok hx
    obtain ⟨pl, k1, k2, k3⟩ := hv.ptr_inv
    refine ⟨_, ?_, hv⟩
    unfold execOp
    simp only [k3]; rfl
  · rename_i t uu hx
    cases h
    have hv := ev_as F L hok hx
    obtain ⟨u', k1, k3⟩ := hv.iface_inv
    refine ⟨_, ?_, hv⟩
    unfold execOp
    simp only [k3]; rfl
  · rename_i f xs ys hx
    cases h
    have hv := ev_as F L hok hx
    refine ⟨_, ?_, hv⟩
    generalize hz : b.eval x' = z at hv
    cases hv
    unfold execOp
    simp only [hz]; rfl
  · cases h
end
end Go.Proofs.YtknhohgnilamcaaGreatDoor
