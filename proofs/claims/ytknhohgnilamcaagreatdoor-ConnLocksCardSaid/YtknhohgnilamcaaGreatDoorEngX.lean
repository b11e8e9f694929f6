/-
  The operations that change nothing: the model yields the same, one by one; memory, slices, maps. (Of no program.)
-/
import Derived.Test.YtknhohgnilamcaaGreatDoorEngW
namespace Go.Proofs.YtknhohgnilamcaaGreatDoor
set_option linter.unusedVariables false
set_option linter.unusedSimpArgs false
set_option linter.unusedSectionVars false
open Go

section
variable {P : Program} {E : Env P}
theorem exlen {ρ : Operand → Value} {d : Option Tmp} {args : Array Operand} {ats : Array TypeId} {ty : TypeId} {pos : String} {af : Array Edge} {g : Option (Nat × Bool)} {x : Operand} {t : TypeId} {w : World} {v' : Value}
    (ha : args.toList = [x]) (ht : ats.toList = [t]) (h : (Builtin.len_ #[t] ty #[ρ x]).run P w = .ok v' w) : (execOp ρ ⟨d, .call ⟨.builtin .len, args, ats⟩, ty, pos, af, g⟩).run P w = .ok (.value v') w := by
  obtain rfl : args = #[x] := Array.toList_inj.1 ha
  obtain rfl : ats = #[t] := Array.toList_inj.1 ht
  unfold execOp
  simp only [resolve, invoke, builtin, Sem.run_bind, Sem.run_pure, Result.andThen_ok, List.map_toArray, List.map_cons, List.map_nil, h]
theorem mkLen_inv {n : Nat} {v : V} (h : mkLen n = some v) : v = .int .i64 (n : Int) ∧ IntKind.i64.has (n : Int) := by
  unfold mkLen at h
  split at h
  · rename_i hle
    have := ble_le hle
    cases h
    refine ⟨rfl, ?_⟩
    unfold IntKind.has IntKind.min IntKind.max
    simp only [IntKind.bits, IntKind.signed, if_true, p63]
    omega
  · cases h
theorem VR.mkLen {ι : Nm} {n : Nat} {v : V} (h : mkLen n = some v) : VR ι v (.int .i64 (n : Int)) := by
  obtain ⟨rfl, h2⟩ := mkLen_inv h
  exact .int _ _ h2
theorem q_lenv (x : Arg) : QSound E (.lenv x) := by
  intro n ι A b σ w o v F L R hok h
  obtain ⟨d, op, ty, pos, af, g⟩ := o
  cases op <;> simp only [okQ, Bool.false_eq_true] at hok
  rename_i c
  obtain ⟨cal, args, ats⟩ := c
  split at hok
  · rename_i c' a1 a2 he
    cases he
    split at hok
    · rename_i x' t ha ht
      simp only [Bool.and_eq_true] at hok
      obtain ⟨h1, h2⟩ := hok
      split at h2
      · rename_i el hu
        simp only [qev] at h
        split at h
        · rename_i p o len cap es hx
          obtain ⟨pl, aa, cc, k1, k2, k3, k4, k5, k6, k7⟩ := (ev_as F L h1 hx).slice_inv
          exact ⟨_, exlen ha ht (by rw [k7]; simp [Builtin.len_, run_underlying hu, goInt]), VR.mkLen h⟩
        · rename_i hx
          have k2 : b.eval x' = .slice none 0 0 := by
            have := ev_as F L h1 hx
            generalize b.eval x' = zz at this
            cases this; rfl
          exact ⟨_, exlen ha ht (by rw [k2]; simp [Builtin.len_, run_underlying hu, goInt]), VR.mkLen h⟩
        · cases h
      · cases h2
    · cases hok
  · cases hok
theorem q_lens (x : Arg) : QSound E (.lens x) := by
  intro n ι A b σ w o v F L R hok h
  obtain ⟨d, op, ty, pos, af, g⟩ := o
  cases op <;> simp only [okQ, Bool.false_eq_true] at hok
  rename_i c
  obtain ⟨cal, args, ats⟩ := c
  split at hok
  · rename_i c' a1 a2 he
    cases he
    split at hok
    · rename_i x' t ha ht
      simp only [Bool.and_eq_true] at hok
      obtain ⟨h1, h2⟩ := hok
      have hu := isStrB_inv h2
      simp only [qev] at h
      split at h
      · rename_i l hx
        obtain ⟨s, k1, k2⟩ := (ev_as F L h1 hx).str_inv
        have e : s.size = l.length := by rw [← k2]; simp
        rw [llen_eq, ← e] at h
        exact ⟨_, exlen ha ht (by rw [k1]; simp [Builtin.len_, run_underlying hu, goInt]), VR.mkLen h⟩
      · cases h
    · cases hok
  · cases hok
theorem q_lenc (m : Nat) : QSound E (.lenc m) := by
  intro n ι A b σ w o v F L R hok h
  obtain ⟨d, op, ty, pos, af, g⟩ := o
  cases op <;> simp only [okQ, Bool.false_eq_true] at hok
  rename_i c
  obtain ⟨cal, args, ats⟩ := c
  split at hok
  · rename_i c' a1 a2 he
    cases he
    split at hok
    · rename_i x' t ha ht
      split at hok
      · rename_i m' el hu
        have hm : m' = m := by simpa using hok
        subst hm
        simp only [qev] at h
        exact ⟨.int .i64 (m' : Int), exlen ha ht (by cases b.eval x' <;> simp [Builtin.len_, run_underlying hu, goInt]), VR.mkLen h⟩
      · cases hok
    · cases hok
  · cases hok
theorem q_lenm (x : Arg) : QSound E (.lenm x) := by
  intro n ι A b σ w o v F L R hok h
  obtain ⟨d, op, ty, pos, af, g⟩ := o
  cases op <;> simp only [okQ, Bool.false_eq_true] at hok
  rename_i c
  obtain ⟨cal, args, ats⟩ := c
  split at hok
  · rename_i c' a1 a2 he
    cases he
    split at hok
    · rename_i x' t ha ht
      simp only [Bool.and_eq_true] at hok
      obtain ⟨h1, h2⟩ := hok
      split at h2
      · rename_i ke el hu
        simp only [qev] at h
        split at h
        · rename_i hx
          have k2 : b.eval x' = .map none := by
            have := ev_as F L h1 hx
            generalize b.eval x' = zz at this
            cases this; rfl
          exact ⟨_, exlen ha ht (by rw [k2]; simp [Builtin.len_, run_underlying hu, goInt]), VR.mkLen h⟩
        · rename_i p hx
          split at h
          · rename_i es ck ks hg
            obtain ⟨pl, k1, k2, k3⟩ := (ev_as F L h1 hx).map_inv
            obtain ⟨pl', es', j1, j2, j3, j4, _⟩ := R.ob p _ hg
            rw [k1] at j1; cases j1
            rw [llen_eq, j4] at h
            refine ⟨_, exlen ha ht ?_, VR.mkLen h⟩
            rw [k3]
            simp [Builtin.len_, run_underlying hu, goInt, getObj, Sem.run, j3, Result.andThen]
          · cases h
        · cases h
      · cases h2
    · cases hok
  · cases hok
theorem q_mnx (mx : Bool) (x y : Arg) : QSound E (.mnx mx x y) := by
  intro n ι A b σ w o v F L R hok h
  obtain ⟨d, op, ty, pos, af, g⟩ := o
  cases op <;> simp only [okQ, Bool.false_eq_true] at hok
  rename_i c
  obtain ⟨cal, args, ats⟩ := c
  split at hok
  · rename_i c' bb a1 a2 he
    cases he
    simp only [Bool.and_eq_true, decide_eq_true_eq] at hok
    obtain ⟨hb, hok⟩ := hok
    split at hok
    · rename_i x' y' ha
      obtain rfl : args = #[x', y'] := Array.toList_inj.1 ha
      simp only [Bool.and_eq_true] at hok
      obtain ⟨h1, h2⟩ := hok
      simp only [qev] at h
      split at h
      · rename_i k m hx
        split at h
        · rename_i k' m' hy
          split at h
          · rename_i hk
            have := beqK_eq hk
            subst this
            obtain ⟨k1, k2⟩ := (ev_as F L h1 hx).int_inv
            obtain ⟨k3, k4⟩ := (ev_as F L h2 hy).int_inv
            cases mx
            · simp only [Bool.false_eq_true, if_false] at hb
              subst hb
              simp only [Option.some.injEq] at h
              subst h
              refine ⟨.int k (if m' < m then m' else m), ?_, ?_⟩
              · unfold execOp
                simp [resolve, invoke, builtin, Sem.run_bind, Sem.run_pure, Result.andThen_ok, k1, k3, Builtin.min_, Builtin.min2]
              · rw [ilt_eq]
                by_cases hlt : m' < m
                · simp [hlt]; exact .int _ _ k4
                · simp [hlt]; exact .int _ _ k2
            · simp only [if_true] at hb
              subst hb
              simp only [Option.some.injEq] at h
              subst h
              refine ⟨.int k (if m < m' then m' else m), ?_, ?_⟩
              · unfold execOp
                simp [resolve, invoke, builtin, Sem.run_bind, Sem.run_pure, Result.andThen_ok, k1, k3, Builtin.max_, Builtin.max2]
              · rw [ilt_eq]
                by_cases hlt : m < m'
                · simp [hlt]; exact .int _ _ k4
                · simp [hlt]; exact .int _ _ k2
          · cases h
        · cases h
      · cases h
    · cases hok
  · cases hok
theorem q_ld1 (x : Arg) : QSound E (.ld1 x) := by
  intro n ι A b σ w o v F L R hok h
  obtain ⟨d, op, ty, pos, af, g⟩ := o
  cases op <;> simp only [okQ, Bool.false_eq_true, Bool.and_eq_true, beq_iff_eq] at hok
  rename_i t x'
  obtain ⟨h1, h2⟩ := hok
  simp only [qev] at h
  split at h
  · rename_i p o hx
    split at h
    · rename_i l kin fz ro hg
      obtain ⟨pl, k1, k2, k3⟩ := (ev_as F L h1 hx).ptr_inv
      obtain ⟨pl', c, e, j1, j2, j3, j4, j5, j6⟩ := R.ob p _ hg
      rw [k1] at j1; cases j1
      rw [lget_eq] at h
      have hlt : o < l.length := (List.getElem?_eq_some_iff.1 h).1
      have hc : c[pl.st + o]? = some (c[pl.st + o]'(by omega)) := by simp
      refine ⟨c[pl.st + o]'(by omega), exv rfl (s := Instr.loadAt t (b.eval x')) ?_, j6 o v _ h hc⟩
      have := LD_cell (P := P) (t := t) pl.blk (pl.st + o) w (run_aggB h2)
      rw [k3]
      refine Eq.trans this ?_
      have hb : blk w pl.blk = some (.cells c e) := j3
      rw [hb, loadCell_cells, hc, cellOr_some]
    · cases h
  · cases h
theorem q_ldn (x : Arg) (m : Nat) : QSound E (.ldn x m) := by
  intro n ι A b σ w o v F L R hok h
  obtain ⟨d, op, ty, pos, af, g⟩ := o
  cases op <;> simp only [okQ, Bool.false_eq_true, Bool.and_eq_true, beq_iff_eq] at hok
  rename_i t x'
  obtain ⟨⟨h1, h2⟩, h3⟩ := hok
  simp only [qev] at h
  split at h
  · rename_i p o hx
    split at h
    · rename_i l kin fz ro hg
      split at h
      · rename_i hle
        have hle := ble_le hle
        rw [llen_eq] at hle
        cases h
        obtain ⟨pl, k1, k2, k3⟩ := (ev_as F L h1 hx).ptr_inv
        obtain ⟨pl', c, e, j1, j2, j3, j4, j5, j6⟩ := R.ob p _ hg
        rw [k1] at j1; cases j1
        have hle : o + m ≤ l.length := hle
        refine ⟨.agg (c.extract (pl.st + o) (pl.st + o + m)), exv rfl (s := Instr.loadAt t (b.eval x')) ?_, .mk_agg ?_⟩
        · have := LD_agg (P := P) (t := t) (n := m) (run_aggB h2) (run_szB h3) pl.blk (pl.st + o) w
          rw [k3]
          refine Eq.trans this ?_
          have hb : blk w pl.blk = some (.cells c e) := j3
          rw [hb, loadBlk_cells, if_pos (by omega)]
        · rw [ltake_eq, ldrop_eq]
          refine ⟨by simp; omega, fun i x y hx hy => ?_⟩
          rw [List.getElem?_take] at hx
          split at hx
          · rw [List.getElem?_drop] at hx
            rw [Array.getElem?_toList, Array.getElem?_extract] at hy
            split at hy
            · exact j6 (o + i) x y hx (by rw [← Nat.add_assoc]; exact hy)
            · cases hy
          · cases hx
      · cases h
    · cases h
  · cases h
theorem q_wts (x : Arg) : QSound E (.wts x) := by
  intro n ι A b σ w o v F L R hok h
  obtain ⟨d, op, ty, pos, af, g⟩ := o
  cases op <;> simp only [okQ, Bool.false_eq_true] at hok
  rename_i gg
  simp only [qev] at h
  split at h
  · rename_i p o hx
    split at h
    · rename_i l kin fz ro hg
      cases h
      obtain ⟨pl, k1, k2, k3⟩ := (ev_as F L hok hx).ptr_inv
      obtain ⟨pl', c, e, j1, j2, j3, j4, j5, j6⟩ := R.ob p _ hg
      rw [k1] at j1; cases j1
      have hb : pl.blk = gg := by
        simp only [Act.eval, Value.pointer.injEq, Option.some.injEq, Addr.mk.injEq] at k3
        exact k3.1.symm
      refine ⟨.bool false, exv rfl (s := Instr.waits gg) ?_, .bool _⟩
      simp [Instr.waits, shape, Sem.run, World.shape?, ← hb, j3]
    · cases h
  · cases h
end
end Go.Proofs.YtknhohgnilamcaaGreatDoor
