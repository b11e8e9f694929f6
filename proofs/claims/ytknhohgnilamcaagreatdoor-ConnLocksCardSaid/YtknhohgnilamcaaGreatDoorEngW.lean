/-
  The operations that change nothing: the model yields the same, one by one; numbers, texts, nil. (Of no program.)
-/
import Derived.Test.YtknhohgnilamcaaGreatDoorEngV
import Derived.Laws.Strings
namespace Go.Proofs.YtknhohgnilamcaaGreatDoor
set_option linter.unusedVariables false
set_option linter.unusedSimpArgs false
set_option linter.unusedSectionVars false
open Go

section
variable {P : Program} {E : Env P}
theorem exbin {ρ : Operand → Value} {d : Option Tmp} {op : BinOp} {t u ty : TypeId} {x y : Operand} {pos : String} {af : Array Edge} {g : Option (Nat × Bool)} {w : World} {v' : Value}
    (hg : (eqGuard op t x y (ρ x) (ρ y)).run P w = .ok () w) (hs : (Go.binOp op t (ρ x) (ρ y)).run P w = .ok v' w) : (execOp ρ ⟨d, .binOp op t x y u, ty, pos, af, g⟩).run P w = .ok (.value v') w :=
  exv (s := do eqGuard op t x y (ρ x) (ρ y); Go.binOp op t (ρ x) (ρ y)) rfl (by simp only [Sem.run_bind, hg, Result.andThen_ok, hs])
theorem guard_ok {op : BinOp} {t : TypeId} {x y : Operand} {a b : Value} {w : World} (h : (∀ c d, a = .agg c → b = .agg d → False) ∧ (a = .nilIface → b = .nilIface → False)) : (eqGuard op t x y a b).run P w = .ok () w := by
  unfold eqGuard
  cases op <;> first | rfl | skip
  all_goals
    simp only [Bool.not_true, Bool.false_eq_true, if_false]
    split
    · exact (h.2 rfl rfl).elim
    · exact (h.1 _ _ rfl rfl).elim
    · rfl
theorem q_bin (op : BinOp) (x y : Arg) : QSound E (.bin op x y) := by
  intro n ι A b σ w o v F L R hok h
  obtain ⟨d, op', ty, pos, af, g⟩ := o
  cases op' <;> simp only [okQ, Bool.false_eq_true, Bool.and_eq_true, decide_eq_true_eq] at hok
  rename_i op' t x' y' t'
  obtain ⟨⟨rfl, h1⟩, h2⟩ := hok
  simp only [qev] at h
  split at h
  · rename_i k m hx
    split at h
    · rename_i k' m' hy
      split at h
      · rename_i hk
        have := beqK_eq hk
        subst this
        obtain ⟨k1, k2⟩ := (ev_as F L h1 hx).int_inv
        obtain ⟨k3, k4⟩ := (ev_as F L h2 hy).int_inv
        obtain ⟨v', h3, h4⟩ := ibin_sound (P := P) (ι := ι) k2 k4 h w
        refine ⟨v', exbin ?_ ?_, h4⟩
        · rw [k1, k3]; exact guard_ok ⟨(fun _ _ e => by cases e), (fun e => by cases e)⟩
        · rw [k1, k3]; exact h3 t
      · cases h
    · cases h
  · cases h
theorem q_shf (left : Bool) (x y : Arg) : QSound E (.shf left x y) := by
  intro n ι A b σ w o v F L R hok h
  obtain ⟨d, op', ty, pos, af, g⟩ := o
  cases op' <;> simp only [okQ, Bool.false_eq_true, Bool.and_eq_true, decide_eq_true_eq] at hok
  rename_i op' t x' y' t'
  obtain ⟨⟨ho, h1⟩, h2⟩ := hok
  simp only [qev] at h
  split at h
  · rename_i k m hx
    split at h
    · rename_i k' m' hy
      split at h
      · rename_i z hz
        split at h
        · obtain ⟨k1, k2⟩ := (ev_as F L h1 hx).int_inv
          obtain ⟨k3, k4⟩ := (ev_as F L h2 hy).int_inv
          have := natOf_inv hz
          subst this
          have hneg : ¬ ((z : Int) < 0) := by omega
          have hmin : min z k.bits = Nat.min z k.bits := rfl
          cases left
          · simp only [Bool.false_eq_true, if_false] at ho
            subst ho
            cases h
            refine ⟨.int k (m.fdiv (2 ^ (min z k.bits))), exbin (by rw [k1, k3]; exact guard_ok ⟨(fun _ _ e => by cases e), (fun e => by cases e)⟩) ?_, ?_⟩
            · rw [k1, k3]
              simp only [Go.binOp, Op.shift, if_neg hneg, Int.toNat_natCast, Sem.run_pure]
            · rw [wrapK_eq]
              have e : (Int.ofNat (Nat.pow 2 (Nat.min z k.bits))) = (2 : Int) ^ (min z k.bits) := by
                show ((2 ^ (min z k.bits) : Nat) : Int) = _
                simp
              rw [e]
              have hb : k.has (m.fdiv (2 ^ (min z k.bits))) := by
                generalize min z k.bits = r
                have hp : (0 : Int) < 2 ^ r := Int.pow_pos (by decide)
                unfold IntKind.has at *
                have h3 : k.min ≤ 0 ∧ 0 ≤ k.max := by cases k <;> decide
                rw [Int.fdiv_eq_ediv_of_nonneg _ (by omega)]
                have hp1 : (1 : Int) ≤ 2 ^ r := hp
                rcases Int.le_total 0 m with hm | hm
                · have u1 : 0 ≤ m / 2 ^ r := Int.ediv_nonneg hm (by omega)
                  have u2 : m / 2 ^ r ≤ m := Int.ediv_le_self _ hm
                  omega
                · have u1 : m / 2 ^ r ≤ 0 := by
                    have := Int.ediv_le_ediv (c := (2 : Int) ^ r) hp hm
                    simpa using this
                  have u2 : m ≤ m / 2 ^ r := by
                    rw [Int.le_ediv_iff_mul_le hp]
                    have := Int.mul_le_mul_of_nonpos_left (a := m) hm hp1
                    omega
                  omega
              rw [wrap_id hb]
              exact .int _ _ hb
          · simp only [if_true] at ho
            subst ho
            cases h
            refine ⟨.int k (k.wrap (m * 2 ^ (min z k.bits))), exbin (by rw [k1, k3]; exact guard_ok ⟨(fun _ _ e => by cases e), (fun e => by cases e)⟩) ?_, ?_⟩
            · rw [k1, k3]
              simp only [Go.binOp, Op.shift, if_neg hneg, Int.toNat_natCast, Sem.run_pure]
            · rw [wrapK_eq]
              have e : (Int.ofNat (Nat.pow 2 (Nat.min z k.bits))) = (2 : Int) ^ (min z k.bits) := by
                show ((2 ^ (min z k.bits) : Nat) : Int) = _
                simp
              rw [e]
              exact .int _ _ (wrap_has _ _)
        · cases h
      · cases h
    · cases h
  · cases h
theorem eqOp_inv {ne : Bool} {op : BinOp} (h : eqOp ne op = true) : op = if ne then .neq else .eql := by cases ne <;> cases op <;> first | rfl | cases h
theorem q_cmpb (ne : Bool) (x y : Arg) : QSound E (.cmpb ne x y) := by
  intro n ι A b σ w o v F L R hok h
  obtain ⟨d, op', ty, pos, af, g⟩ := o
  cases op' <;> simp only [okQ, Bool.false_eq_true, Bool.and_eq_true, decide_eq_true_eq] at hok
  rename_i op' t x' y' t'
  obtain ⟨⟨⟨ho, h1⟩, h2⟩, h3⟩ := hok
  have ho := eqOp_inv ho
  split at h3
  · rename_i hu
    simp only [qev] at h
    split at h
    · rename_i p hx
      split at h
      · rename_i q hy
        cases h
        have k1 := (ev_as F L h1 hx).bool_inv
        have k2 := (ev_as F L h2 hy).bool_inv
        refine ⟨.bool (xorB ne (!(xorB p q))), exbin (by rw [k1, k2]; exact guard_ok ⟨(fun _ _ e => by cases e), (fun e => by cases e)⟩) ?_, .bool _⟩
        rw [k1, k2, ho]
        have he : ∀ d : Nat, (Op.equalIn (d + 1) t (.bool p) (.bool q)).run P w = .ok (p == q) w := fun d => by simp [Op.equalIn, run_underlying hu]
        cases ne
        · simp only [Bool.false_eq_true, if_false, Go.binOp]
          simp [Op.equal, Op.maxDepth, he 9999, xorB]
          cases p <;> cases q <;> rfl
        · simp only [if_true, Go.binOp]
          simp [Op.equal, Op.maxDepth, he 9999, xorB]
          cases p <;> cases q <;> rfl
      · cases h
    · cases h
  · cases h3
theorem bytes_inj {s t : ByteArray} : s = t ↔ s.data.toList.map (·.toNat) = t.data.toList.map (·.toNat) := by
  constructor
  · rintro rfl; rfl
  · intro e
    have := (List.map_inj_right (f := fun x : UInt8 => x.toNat) (fun x y h => UInt8.toNat_inj.1 h)).1 e
    exact ByteArray.ext (Array.toList_inj.1 this)
theorem q_cmps (op : BinOp) (x y : Arg) : QSound E (.cmps op x y) := by
  intro n ι A b σ w o v F L R hok h
  obtain ⟨d, op', ty, pos, af, g⟩ := o
  cases op' <;> simp only [okQ, Bool.false_eq_true, Bool.and_eq_true, decide_eq_true_eq] at hok
  rename_i op' t x' y' t'
  obtain ⟨⟨rfl, h1⟩, h2⟩ := hok
  simp only [qev] at h
  split at h
  · rename_i l hx
    split at h
    · rename_i m hy
      obtain ⟨s1, k1, e1⟩ := (ev_as F L h1 hx).str_inv
      obtain ⟨s2, k2, e2⟩ := (ev_as F L h2 hy).str_inv
      have hg : ∀ op, (eqGuard op t x' y' (b.eval x') (b.eval y')).run P w = .ok () w := fun op => by rw [k1, k2]; exact guard_ok ⟨(fun _ _ e => by cases e), (fun e => by cases e)⟩
      have hbe : (s1.toList == s2.toList) = decide (l = m) := by
        have : (s1.toList = s2.toList) ↔ l = m := by
          rw [← e1, ← e2, ← bytes_inj]
          constructor
          · intro e
            have a1 : s1.toList = s1.data.toList := ByteArray.toList_eq _
            have a2 : s2.toList = s2.data.toList := ByteArray.toList_eq _
            rw [a1, a2] at e
            exact ByteArray.ext (Array.toList_inj.1 e)
          · rintro rfl; rfl
        by_cases hlm : l = m
        · simp [hlm, this.2 hlm]
        · have : ¬ s1.toList = s2.toList := fun e => hlm (this.1 e)
          simp [hlm, this]
      split at h
      · split at h
        · rename_i hle
          have hle := ble_le hle
          rw [llen_eq, llen_eq] at hle
          cases h
          have hsz : s1.size + s2.size ≤ 1000000 := by
            rw [← e1, ← e2] at hle
            simpa using hle
          refine ⟨.string (s1 ++ s2), exbin (hg _) ?_, ?_⟩
          · rw [k1, k2]
            simp only [Go.binOp, Op.stringOp]
            rw [if_neg (by
              have : (IntKind.i64).max = 9223372036854775807 := by decide
              rw [this]; omega)]
            rfl
          · rw [lapp_eq]
            refine .str _ _ ?_
            rw [← e1, ← e2]
            simp
        · cases h
      · cases h
        refine ⟨.bool (decide (l = m)), exbin (hg _) ?_, by rw [nateq_eq]; exact .bool _⟩
        rw [k1, k2]
        simp only [Go.binOp, Op.stringOp, hbe]; rfl
      · cases h
        refine ⟨.bool (!decide (l = m)), exbin (hg _) ?_, by rw [nateq_eq]; exact .bool _⟩
        rw [k1, k2]
        simp only [Go.binOp, Op.stringOp, hbe]; rfl
      · cases h
    · cases h
  · cases h
theorem q_not (x : Arg) : QSound E (.not x) := by
  intro n ι A b σ w o v F L R hok h
  obtain ⟨d, op, ty, pos, af, g⟩ := o
  cases op <;> simp only [okQ, Bool.false_eq_true, Bool.and_eq_true, decide_eq_true_eq] at hok
  rename_i u' t x'
  obtain ⟨rfl, h1⟩ := hok
  simp only [qev] at h
  split at h
  · rename_i c hx
    cases h
    have k := (ev_as F L h1 hx).bool_inv
    exact ⟨_, exv rfl (s := Op.unary .not (b.eval x')) (by rw [k]; simp only [Op.unary, Sem.run_pure]), .bool _⟩
  · cases h
theorem q_neg (x : Arg) : QSound E (.neg x) := by
  intro n ι A b σ w o v F L R hok h
  obtain ⟨d, op, ty, pos, af, g⟩ := o
  cases op <;> simp only [okQ, Bool.false_eq_true, Bool.and_eq_true, decide_eq_true_eq] at hok
  rename_i u' t x'
  obtain ⟨rfl, h1⟩ := hok
  simp only [qev] at h
  split at h
  · rename_i k m hx
    cases h
    obtain ⟨k1, k2⟩ := (ev_as F L h1 hx).int_inv
    refine ⟨.int k (k.wrap (0 - m)), exv rfl (s := Op.unary .neg (b.eval x')) (by rw [k1]; simp only [Op.unary, Op.intArith, Sem.run_pure]), ?_⟩
    rw [wrapK_eq]
    exact .int _ _ (wrap_has _ _)
  · cases h
theorem q_inv (x : Arg) : QSound E (.inv x) := by
  intro n ι A b σ w o v F L R hok h
  obtain ⟨d, op, ty, pos, af, g⟩ := o
  cases op <;> simp only [okQ, Bool.false_eq_true, Bool.and_eq_true, decide_eq_true_eq] at hok
  rename_i u' t x'
  obtain ⟨rfl, h1⟩ := hok
  simp only [qev] at h
  split at h
  · rename_i k m hx
    split at h
    · rename_i hsg
      cases h
      obtain ⟨k1, k2⟩ := (ev_as F L h1 hx).int_inv
      refine ⟨.int k (k.wrap ((BitVec.ofInt k.bits k.max ^^^ BitVec.ofInt k.bits m).toNat : Int)), exv rfl (s := Op.unary .xor (b.eval x')) (by rw [k1]; simp only [Op.unary, Op.intBits, hsg, Bool.false_eq_true, if_false, Sem.run_pure]), ?_⟩
      rw [wrapK_eq]
      have e : (BitVec.ofInt k.bits k.max ^^^ BitVec.ofInt k.bits m).toNat = Nat.xor (Nat.sub (modK k) 1) (toU (modK k) m) := by
        rw [BitVec.toNat_xor, toU_bv, toU_bv]
        have : toU (modK k) k.max = Nat.sub (modK k) 1 := by cases k <;> first | rfl | exact absurd hsg (by decide)
        rw [this]; rfl
      rw [e]
      exact .int _ _ (wrap_has _ _)
    · cases h
  · cases h
theorem q_cvi (k : IntKind) (x : Arg) : QSound E (.cvi k x) := by
  intro n ι A b σ w o v F L R hok h
  obtain ⟨d, op, ty, pos, af, g⟩ := o
  cases op <;> simp only [okQ, Bool.false_eq_true, Bool.and_eq_true, decide_eq_true_eq] at hok
  rename_i s t x'
  obtain ⟨⟨h1, h0⟩, h2⟩ := hok
  split at h0
  · rename_i ds hs
    split at h2
    · rename_i k' hu
      simp only [decide_eq_true_eq] at h2
      subst h2
      simp only [qev] at h
      split at h
      · rename_i kk m hx
        cases h
        obtain ⟨k1, k2⟩ := (ev_as F L h1 hx).int_inv
        refine ⟨.int k (k.wrap m), exv rfl (s := Go.convert s t (b.eval x')) (by rw [k1]; simp only [Go.convert, Sem.run_bind, run_underlying hs, run_underlying hu, Result.andThen_ok, Conv.intToInt, Sem.run_pure]), ?_⟩
        rw [wrapK_eq]
        exact .int _ _ (wrap_has _ _)
      · cases h
    · cases h2
  · cases h0
theorem q_cvid (x : Arg) : QSound E (.cvid x) := by
  intro n ι A b σ w o v F L R hok h
  obtain ⟨d, op, ty, pos, af, g⟩ := o
  cases op <;> simp only [okQ, Bool.false_eq_true, Bool.and_eq_true, decide_eq_true_eq] at hok
  rename_i s t x'
  obtain ⟨⟨h1, h0⟩, h2⟩ := hok
  have hs := isStrB_inv h0
  have hu := isStrB_inv h2
  simp only [qev] at h
  split at h
  · rename_i l hx
    cases h
    have hv := ev_as F L h1 hx
    obtain ⟨s1, k1, e1⟩ := hv.str_inv
    exact ⟨_, exv rfl (s := Go.convert s t (b.eval x')) (by rw [k1]; simp only [Go.convert, Sem.run_bind, run_underlying hs, run_underlying hu, Result.andThen_ok, Sem.run_pure]), .str _ _ e1⟩
  · cases h
theorem q_mki (t : Nat) (x : Arg) : QSound E (.mki t x) := by
  intro n ι A b σ w o v F L R hok h
  obtain ⟨d, op, ty, pos, af, g⟩ := o
  cases op <;> simp only [okQ, Bool.false_eq_true, Bool.and_eq_true, beq_iff_eq] at hok
  rename_i t' x'
  obtain ⟨⟨rfl, h1⟩, h2⟩ := hok
  simp only [qev] at h
  cases h
  refine ⟨.iface t (b.eval x'), exv rfl (s := Instr.makeInterface t (b.eval x')) ?_, .iface _ _ _ (ev_sound F L h1)⟩
  unfold notIfaceB at h2
  cases hu : P.underlying t with
  | none => rw [hu] at h2; cases h2
  | some dd =>
    rw [hu] at h2
    cases dd <;> first | (simp only [Instr.makeInterface, Sem.run_bind, run_underlying hu, Result.andThen_ok, Sem.run_pure]; done) | exact absurd h2 (by simp)
theorem q_mkf (f : Nat) (xs ys : List Arg) : QSound E (.mkf f xs ys) := by
  intro n ι A b σ w o v F L R hok h
  obtain ⟨d, op, ty, pos, af, g⟩ := o
  cases op with
  | makeFunc fn first cap =>
    cases fn with
    | func f' =>
      simp only [okQ, Bool.and_eq_true, beq_iff_eq] at hok
      obtain ⟨⟨rfl, h1⟩, h2⟩ := hok
      simp only [qev, lmap_eq] at h
      cases h
      have a1 := evs_sound F L _ _ h1
      have a2 := evs_sound F L _ _ h2
      refine ⟨.func (.func f) (first.map b.eval) (cap.map b.eval), exv rfl (s := Instr.makeFunc (.func f) (first.map b.eval) (cap.map b.eval)) rfl, .fn _ _ _ _ _ ?_ ?_ ?_ ?_⟩
      · have := a1.1; simpa using this
      · have := a2.1; simpa using this
      · intro i x y hx hy
        exact a1.2 i x y hx (by rw [← Array.getElem?_toList] at hy; simpa using hy)
      · intro i x y hx hy
        exact a2.2 i x y hx (by rw [← Array.getElem?_toList] at hy; simpa using hy)
    | _ => simp [okQ] at hok
  | _ => simp [okQ] at hok
theorem q_tas (x : Arg) (t : Nat) (z : V) (ok : Bool) : QSound E (.tas x t z ok) := by
  intro n ι A b σ w o v F L R hok h
  obtain ⟨d, op, ty, pos, af, g⟩ := o
  cases op <;> simp only [okQ, Bool.false_eq_true, Bool.and_eq_true, beq_iff_eq] at hok
  rename_i x' xt t' ok'
  obtain ⟨⟨⟨⟨rfl, rfl⟩, h1⟩, h2⟩, h3⟩ := hok
  obtain ⟨zv, hz, hzv⟩ := zeroV_inv h3
  have hni : ∃ dd, P.underlying t = some dd ∧ ∀ ms, dd ≠ .interface ms := by
    unfold notIfaceB at h2
    cases hu : P.underlying t with
    | none => rw [hu] at h2; cases h2
    | some dd => exact ⟨dd, rfl, fun ms e => by subst e; rw [hu] at h2; cases h2⟩
  obtain ⟨dd, hu, hd⟩ := hni
  simp only [qev] at h
  split at h
  · rename_i u' vv hx
    obtain ⟨v1, k1, k2⟩ := (ev_as F L h1 hx).iface_inv
    split at h
    · rename_i he
      have he : u' = t := Nat.eq_of_beq_eq_true he
      subst he
      cases h
      cases ok
      · refine ⟨v1, exv rfl (s := Instr.typeAssert (b.eval x') xt u' false) ?_, k1⟩
        cases dd <;> first | exact absurd rfl (hd _) | (simp [Instr.typeAssert, run_underlying hu, k2])
      · refine ⟨.tuple #[v1, .bool true], exv rfl (s := Instr.typeAssert (b.eval x') xt u' true) ?_, .mk_tup (.cons k1 (.cons (.bool _) .nil))⟩
        cases dd <;> first | exact absurd rfl (hd _) | (simp [Instr.typeAssert, run_underlying hu, k2])
    · rename_i he
      have he : ¬ u' = t := fun e => by subst e; simp at he
      split at h
      · cases h
        refine ⟨.tuple #[zv, .bool false], exv rfl (s := Instr.typeAssert (b.eval x') xt t true) ?_, .mk_tup (.cons (hzv ι) (.cons (.bool _) .nil))⟩
        cases dd <;> first | exact absurd rfl (hd _) | (simp [Instr.typeAssert, run_underlying hu, k2, he, hz])
      · cases h
  · rename_i hx
    split at h
    · cases h
      have k2 : b.eval x' = .nilIface := by
        have := ev_as F L h1 hx
        generalize b.eval x' = zz at this
        cases this; rfl
      refine ⟨.tuple #[zv, .bool false], exv rfl (s := Instr.typeAssert (b.eval x') xt t true) ?_, .mk_tup (.cons (hzv ι) (.cons (.bool _) .nil))⟩
      cases dd <;> first | exact absurd rfl (hd _) | (simp [Instr.typeAssert, run_underlying hu, k2, hz])
    · cases h
  · cases h
theorem q_tai (x : Arg) (ts : List Nat) (ok : Bool) : QSound E (.tai x ts ok) := by
  intro n ι A b σ w o v F L R hok h
  obtain ⟨d, op, ty, pos, af, g⟩ := o
  cases op <;> simp only [okQ, Bool.false_eq_true, Bool.and_eq_true, beq_iff_eq] at hok
  rename_i x' xt t' ok'
  obtain ⟨⟨⟨rfl, h1⟩, h2⟩, h3⟩ := hok
  obtain ⟨zv, hz, hzv⟩ := zeroV_inv h3
  unfold implB at h2
  split at h2
  · rename_i want hu
    simp only [qev] at h
    split at h
    · rename_i u' vv hx
      have hv := ev_as F L h1 hx
      obtain ⟨v1, k1, k2⟩ := hv.iface_inv
      rw [k2] at hv
      split at h
      · rename_i hl
        rw [lall_eq] at hl
        have hm : u' ∈ ts := by
          apply Classical.byContradiction
          intro hn
          have : ts.all (fun z => !(Nat.beq z u')) = true := by
            rw [List.all_eq_true]
            intro z hz
            have : z ≠ u' := fun e => hn (e ▸ hz)
            simp [nbeq_eq, this]
          rw [this] at hl; cases hl
        have := (List.all_eq_true.1 h2) u' hm
        split at this
        · rename_i i hi
          have hmm : Instr.missingMethod want i.methods = none := by simpa using this
          cases h
          cases ok
          · refine ⟨_, exv rfl (s := Instr.typeAssert (b.eval x') xt t' false) ?_, hv⟩
            simp [Instr.typeAssert, run_underlying hu, k2, typeInfo, hi, hmm]
          · refine ⟨.tuple #[.iface u' v1, .bool true], exv rfl (s := Instr.typeAssert (b.eval x') xt t' true) ?_, .mk_tup (.cons hv (.cons (.bool _) .nil))⟩
            simp [Instr.typeAssert, run_underlying hu, k2, typeInfo, hi, hmm]
        · cases this
      · cases h
    · rename_i hx
      split at h
      · cases h
        have k2 : b.eval x' = .nilIface := by
          have := ev_as F L h1 hx
          generalize b.eval x' = zz at this
          cases this; rfl
        refine ⟨.tuple #[zv, .bool false], exv rfl (s := Instr.typeAssert (b.eval x') xt t' true) ?_, .mk_tup (.cons (hzv ι) (.cons (.bool _) .nil))⟩
        simp [Instr.typeAssert, run_underlying hu, k2, hz]
      · cases h
    · cases h
  · cases h2
theorem q_ext (x : Arg) (i : Nat) : QSound E (.ext x i) := by
  intro n ι A b σ w o v F L R hok h
  obtain ⟨d, op, ty, pos, af, g⟩ := o
  cases op <;> simp only [okQ, Bool.false_eq_true, Bool.and_eq_true, beq_iff_eq] at hok
  rename_i x' j
  obtain ⟨rfl, h1⟩ := hok
  simp only [qev] at h
  split at h
  · rename_i l hx
    obtain ⟨c, k1, k2⟩ := (ev_as F L h1 hx).of_tup
    rw [lget_eq] at h
    have hlt : i < l.length := (List.getElem?_eq_some_iff.1 h).1
    have hlt' : i < c.size := by have := k2.1; simp at this; omega
    refine ⟨c[i], exv rfl (s := Instr.extract (b.eval x') i) (by rw [k1]; simp [Instr.extract, hlt']), k2.2 i v _ h (by simp [hlt'])⟩
  · cases h
end
end Go.Proofs.YtknhohgnilamcaaGreatDoor
