/-
  The operations that change nothing: the model yields the same, one by one; what is held against another, keys, what is built. (Of no program.)
-/
import Derived.Test.YtknhohgnilamcaaGreatDoorEngY
namespace Go.Proofs.YtknhohgnilamcaaGreatDoor
set_option linter.unusedVariables false
set_option linter.unusedSimpArgs false
set_option linter.unusedSectionVars false
open Go

section
variable {P : Program} {E : Env P}
/-- a comparison and its contrary, of the equality -/
theorem exeq {ρ : Operand → Value} {d : Option Tmp} {ne : Bool} {op : BinOp} {t u ty : TypeId} {x y : Operand} {pos : String} {af : Array Edge} {g : Option (Nat × Bool)} {w : World} {r : Bool} (ho : eqOp ne op = true)
    (hx : (∀ k n, ρ x ≠ .int k n) ∧ (∀ s, ρ x ≠ .string s) ∧ (∀ k n, ρ x ≠ .float k n) ∧ (∀ k n m, ρ x ≠ .complex k n m))
    (hg : (eqGuard op t x y (ρ x) (ρ y)).run P w = .ok () w) (he : (Op.equal t (ρ x) (ρ y)).run P w = .ok r w) : (execOp ρ ⟨d, .binOp op t x y u, ty, pos, af, g⟩).run P w = .ok (.value (.bool (xorB ne r))) w := by
  refine exbin hg ?_
  have ho := eqOp_inv ho
  obtain ⟨h1, h2, h3, h4⟩ := hx
  generalize ρ x = a at *
  generalize ρ y = c at *
  cases ne
  · simp only [Bool.false_eq_true, if_false] at ho
    subst ho
    have e : Go.binOp .eql t a c = (do pure (.bool (← Op.equal t a c))) := by
      cases a <;> first | rfl | exact absurd rfl (h1 _ _) | exact absurd rfl (h2 _) | exact absurd rfl (h3 _ _) | exact absurd rfl (h4 _ _ _) | (cases c <;> rfl)
    rw [e]
    simp only [Sem.run_bind, he, Result.andThen_ok, Sem.run_pure, xorB]
  · simp only [if_true] at ho
    subst ho
    have e : Go.binOp .neq t a c = (do pure (.bool (!(← Op.equal t a c)))) := by
      cases a <;> first | rfl | exact absurd rfl (h1 _ _) | exact absurd rfl (h2 _) | exact absurd rfl (h3 _ _) | exact absurd rfl (h4 _ _ _) | (cases c <;> rfl)
    rw [e]
    simp only [Sem.run_bind, he, Result.andThen_ok, Sem.run_pure, xorB]
theorem q_eqa (ne : Bool) (sh : List IntKind) (x y : Arg) : QSound E (.eqa ne sh x y) := by
  intro n ι A b σ w o v F L R hok h
  obtain ⟨d, op', ty, pos, af, g⟩ := o
  cases op' <;> simp only [okQ, Bool.false_eq_true, Bool.and_eq_true] at hok
  rename_i op' t x' y' t'
  obtain ⟨⟨⟨ho, h1⟩, h2⟩, h3⟩ := hok
  have hk := E.kgood (t, sh) (by simpa using h3)
  simp only [qev] at h
  split at h
  · rename_i l hx
    split at h
    · rename_i m hy
      split at h
      · rename_i hs1
        split at h
        · rename_i hs2
          cases h
          have va := ev_as F L h1 hx
          have vb := ev_as F L h2 hy
          have sa : Shaped (.cells sh) (b.eval x') := keyShaped_sound (ks := .cells sh) (v := .agg l) hs1 va
          have sb : Shaped (.cells sh) (b.eval y') := keyShaped_sound (ks := .cells sh) (v := .agg m) hs2 vb
          have hke := keyEq_sound (ks := .cells sh) (a := .agg l) (b := .agg m) hs1 hs2 va vb
          obtain ⟨c, hc, _⟩ := va.of_agg
          obtain ⟨c', hc', _⟩ := vb.of_agg
          obtain ⟨r, hr, hiff⟩ := hk.eq w _ _ sa sb
          have e : r = inteq l m := by
            have h5 : (inteq l m = true ↔ r = true) := (hke.1.trans hke.2).trans hiff.symm
            cases r <;> cases hh : inteq l m <;> simp_all
          subst e
          refine ⟨_, exeq ho ?_ ?_ hr, .bool _⟩
          · rw [hc]; exact ⟨(fun _ _ e => by cases e), (fun _ e => by cases e), (fun _ _ e => by cases e), (fun _ _ _ e => by cases e)⟩
          · rw [hc, hc']
            unfold eqGuard
            have := eqOp_inv ho
            cases ne <;> simp only [if_true, Bool.false_eq_true, if_false] at this <;> subst this <;> simp [program, Sem.run, hk.guard]
        · cases h
      · cases h
    · cases h
  · cases h
theorem eqPtr_sound {ι : Nm} {σ : St} {w : World} (R : Rep ι σ w) {p q : Pos} {o o' : Nat} {r : Bool} (h : eqPtr σ p o q o' = some r) {pl pq : Pl} (hp : ι p = some pl) (hq : ι q = some pq) :
    (sameAddr ⟨pl.blk, pl.st + o, none⟩ ⟨pq.blk, pq.st + o', none⟩).run P w = .ok r w := by
  simp only [eqPtr, Pos.beq_eq] at h
  split at h
  · rename_i he
    have he : p = q := of_decide_eq_true he
    subst he
    rw [hp] at hq; cases hq
    simp only [Option.some.injEq] at h
    subst h
    rw [nbeq_eq]
    by_cases e : o = o'
    · subst e; rw [run_sameAddr_same]; simp
    · simp [sameAddr, e]
  · rename_i he
    have he : p ≠ q := of_decide_eq_false he
    split at h
    · rename_i l1 fz1 ro1 hg1
      split at h
      · rename_i l2 fz2 ro2 hg2
        split at h
        case h_2 => cases h
        rename_i hlt
        cases h
        simp only [Bool.and_eq_true, blt_eq, decide_eq_true_eq, llen_eq] at hlt
        obtain ⟨pl1, c1, e1, a1, a2, a3, a4, _⟩ := R.ob p _ hg1
        obtain ⟨pl2, c2, e2, b1, b2, b3, b4, _⟩ := R.ob q _ hg2
        rw [hp] at a1; cases a1
        rw [hq] at b1; cases b1
        have hne : (⟨pl.blk, pl.st + o, none⟩ : Addr) ≠ ⟨pq.blk, pq.st + o', none⟩ := fun e => by
          have e1 : pl.blk = pq.blk := congrArg Addr.block e
          have e2 : pl.st + o = pq.st + o' := congrArg Addr.off e
          rcases R.sep2 p _ q _ pl pq hg1 rfl hg2 rfl hp hq e1 (fun e => he e.symm) with h5 | h5 | h5
          · cases h5
          · cases h5
          · have h6 := h5.2.2
            simp only [Ob.len] at h6
            omega
        exact run_sameAddr_other w hne a3 b3
      · cases h
    · cases h
theorem VR.nilp_inv {ι : Nm} {y : Value} (h : VR ι .nilp y) : y = .pointer none := by cases h; rfl
theorem VR.nils_inv {ι : Nm} {y : Value} (h : VR ι .nils y) : y = .slice none 0 0 := by cases h; rfl
theorem VR.nilm_inv {ι : Nm} {y : Value} (h : VR ι .nilm y) : y = .map none := by cases h; rfl
theorem VR.nilf_inv {ι : Nm} {y : Value} (h : VR ι .nilf y) : y = .nilFunc := by cases h; rfl
theorem VR.nili_inv {ι : Nm} {y : Value} (h : VR ι .nili y) : y = .nilIface := by cases h; rfl
theorem VR.fn_inv {ι : Nm} {f : Nat} {x z : List V} {y : Value} (h : VR ι (.fn f x z) y) : ∃ a b, y = .func (.func f) a b ∧ VRs ι x a.toList ∧ VRs ι z b.toList := by
  cases h with
  | fn f x y x' y' hx hy h1 h2 => exact ⟨x', y', rfl, ⟨by simpa using hx, fun i a b ha hb => h1 i a b ha (by simpa using hb)⟩, ⟨by simpa using hy, fun i a b ha hb => h2 i a b ha (by simpa using hb)⟩⟩
theorem nk_ptr {t : Nat} {a c : Arg} (h : nilKindB P .ptr t a c = true) : ∃ e, P.underlying t = some (.pointer e) ∧ nzB P e = true := by
  unfold nilKindB at h
  cases hu : P.underlying t with
  | none => simp [hu] at h
  | some d => rw [hu] at h; cases d <;> first | exact ⟨_, rfl, h⟩ | (simp at h; done)
theorem nk_slice {t : Nat} {a c : Arg} (h : nilKindB P .slice t a c = true) : ∃ e, P.underlying t = some (.slice e) := by
  unfold nilKindB at h
  cases hu : P.underlying t with
  | none => simp [hu] at h
  | some d => rw [hu] at h; cases d <;> first | exact ⟨_, rfl⟩ | (simp at h; done)
theorem nk_map {t : Nat} {a c : Arg} (h : nilKindB P .map t a c = true) : ∃ e f, P.underlying t = some (.map e f) := by
  unfold nilKindB at h
  cases hu : P.underlying t with
  | none => simp [hu] at h
  | some d => rw [hu] at h; cases d <;> first | exact ⟨_, _, rfl⟩ | (simp at h; done)
theorem nk_func {t : Nat} {a c : Arg} (h : nilKindB P .func t a c = true) : ∃ e f g, P.underlying t = some (.func e f g) := by
  unfold nilKindB at h
  cases hu : P.underlying t with
  | none => simp [hu] at h
  | some d => rw [hu] at h; cases d <;> first | exact ⟨_, _, _, rfl⟩ | (simp at h; done)
theorem nk_iface {t : Nat} {a c : Arg} {b : Bool} (h : nilKindB P (.iface b) t a c = true) : ∃ e, P.underlying t = some (.interface e) ∧ b = (isC a || isC c) := by
  unfold nilKindB at h
  cases hu : P.underlying t with
  | none => simp [hu] at h
  | some d => rw [hu] at h; cases d <;> first | exact ⟨_, rfl, by simpa using h⟩ | (simp at h; done)
set_option maxHeartbeats 2000000 in
/-- the equality of what is held against nil, or one another -/
theorem eqp_sound {ι : Nm} {σ : St} {w : World} (R : Rep ι σ w) {kd : NK} {x y : V} {r : Bool} (h : eqpV σ E.pt kd x y = some r) {t : Nat} {a c : Arg} (hk : nilKindB P kd t a c = true) {x' y' : Value} (vx : VR ι x x') (vy : VR ι y y') :
    (Op.equal t x' y').run P w = .ok r w := by
  have top : (∀ d : Nat, (Op.equalIn (d + 2) t x' y').run P w = .ok r w) → (Op.equal t x' y').run P w = .ok r w := fun hd => hd 9998
  refine top fun d => ?_
  clear top
  cases kd with
  | ptr =>
    obtain ⟨e, hu, hk⟩ := nk_ptr hk
    simp only [eqpV] at h
    split at h
    · have := vx.nilp_inv; subst this
      split at h
      · have := vy.nilp_inv; subst this
        cases h; simp [Op.equalIn, run_underlying hu]
      · obtain ⟨pl, _, _, rfl⟩ := vy.ptr_inv
        cases h; simp [Op.equalIn, run_underlying hu]
      · cases h
    · obtain ⟨pl, k1, k2, rfl⟩ := vx.ptr_inv
      split at h
      · have := vy.nilp_inv; subst this
        cases h; simp [Op.equalIn, run_underlying hu]
      · obtain ⟨pq, k3, k4, rfl⟩ := vy.ptr_inv
        have hs := eqPtr_sound (P := P) R h k1 k3
        unfold nzB at hk
        split at hk
        · rename_i i hi
          have hne : i.size ≠ 0 := by simpa using hk
          simp [Op.equalIn, run_underlying hu, Go.sizeOf, typeInfo, hi, hne, hs]
        · cases hk
      · cases h
    · cases h
  | slice =>
    obtain ⟨e, hu⟩ := nk_slice hk
    simp only [eqpV] at h
    split at h
    · have := vx.nils_inv; subst this
      split at h
      · have := vy.nils_inv; subst this
        cases h; simp [Op.equalIn, run_underlying hu]
      · obtain ⟨pl, aa, cc, _, _, _, _, _, _, rfl⟩ := vy.slice_inv
        cases h; simp [Op.equalIn, run_underlying hu]
      · cases h
    · obtain ⟨pl, aa, cc, _, _, _, _, _, _, rfl⟩ := vx.slice_inv
      split at h
      · have := vy.nils_inv; subst this
        cases h; simp [Op.equalIn, run_underlying hu]
      · cases h
    · cases h
  | map =>
    obtain ⟨e, e2, hu⟩ := nk_map hk
    simp only [eqpV] at h
    split at h
    · have := vx.nilm_inv; subst this
      split at h
      · have := vy.nilm_inv; subst this
        cases h; simp [Op.equalIn, run_underlying hu]
      · obtain ⟨pl, _, _, rfl⟩ := vy.map_inv
        cases h; simp [Op.equalIn, run_underlying hu]
      · cases h
    · obtain ⟨pl, _, _, rfl⟩ := vx.map_inv
      split at h
      · have := vy.nilm_inv; subst this
        cases h; simp [Op.equalIn, run_underlying hu]
      · cases h
    · cases h
  | func =>
    obtain ⟨e, e2, e3, hu⟩ := nk_func hk
    simp only [eqpV] at h
    split at h
    · have := vx.nilf_inv; subst this
      split at h
      · have := vy.nilf_inv; subst this
        cases h; simp [Op.equalIn, run_underlying hu]
      · obtain ⟨a1, b1, rfl, _⟩ := vy.fn_inv
        cases h; simp [Op.equalIn, run_underlying hu]
      · cases h
    · obtain ⟨a1, b1, rfl, _⟩ := vx.fn_inv
      split at h
      · have := vy.nilf_inv; subst this
        cases h; simp [Op.equalIn, run_underlying hu]
      · cases h
    · cases h
  | iface cc =>
    obtain ⟨e, hu, hcc⟩ := nk_iface hk
    simp only [eqpV] at h
    split at h
    · have := vx.nili_inv; subst this
      split at h
      · have := vy.nili_inv; subst this
        cases cc <;> cases h
        simp [Op.equalIn, run_underlying hu]
      · obtain ⟨a1, _, rfl⟩ := vy.iface_inv
        cases h; simp [Op.equalIn, run_underlying hu]
      · cases h
    · rename_i tx vv
      obtain ⟨a1, va, rfl⟩ := vx.iface_inv
      split at h
      · have := vy.nili_inv; subst this
        cases h; simp [Op.equalIn, run_underlying hu]
      · rename_i ty uu
        obtain ⟨a2, vb, rfl⟩ := vy.iface_inv
        split at h
        · rename_i hne
          have hne : tx ≠ ty := fun e => by subst e; simp at hne
          cases h; simp [Op.equalIn, run_underlying hu, hne]
        · rename_i heq
          have heq : tx = ty := Nat.eq_of_beq_eq_true heq
          subst heq
          split at h
          · cases h
          · rename_i hl
            rw [lall_eq] at hl
            have hm : tx ∈ E.pt := by
              apply Classical.byContradiction
              intro hn
              have : E.pt.all (fun z => !(Nat.beq z tx)) = true := by
                rw [List.all_eq_true]
                intro z hz
                have : z ≠ tx := fun e => hn (e ▸ hz)
                simp [nbeq_eq, this]
              rw [this] at hl; cases hl
            obtain ⟨te, i, j, g1, g2, g3, g4, g5⟩ := (E.pgood tx hm).ok
            split at h
            · split at h
              · obtain ⟨pl, k1, k2, rfl⟩ := va.ptr_inv
                obtain ⟨pq, k3, k4, rfl⟩ := vb.ptr_inv
                have hs := eqPtr_sound (P := P) R h k1 k3
                simp [Op.equalIn, run_underlying hu, run_underlying g1, typeInfo, g2, g3, Go.sizeOf, g4, g5, hs]
              · cases h
            · cases h
      · cases h
    · cases h
theorem isC_sound {a : Act} {ng : GS} {x : Arg} {o : Operand} (h : okA ng x o = true) (hc : isC x = true) : ∃ v, o = .const v := by
  cases x <;> simp [isC] at hc
  cases o <;> simp [okA] at h
  exact ⟨_, rfl⟩
theorem q_eqp (kd : NK) (ne : Bool) (x y : Arg) : QSound E (.eqp kd ne x y) := by
  intro n ι A b σ w o v F L R hok h
  obtain ⟨d, op', ty, pos, af, g⟩ := o
  cases op' <;> simp only [okQ, Bool.false_eq_true, Bool.and_eq_true] at hok
  rename_i op' t x' y' t'
  obtain ⟨⟨⟨ho, h1⟩, h2⟩, h3⟩ := hok
  simp only [qev] at h
  split at h
  · rename_i r hr
    cases h
    have va := ev_sound F L h1
    have vb := ev_sound F L h2
    have he := eqp_sound R hr h3 va vb
    have hkinds : (∀ k n, b.eval x' ≠ .int k n) ∧ (∀ s, b.eval x' ≠ .string s) ∧ (∀ k n, b.eval x' ≠ .float k n) ∧ (∀ k n m, b.eval x' ≠ .complex k n m) ∧ (∀ c, b.eval x' ≠ .agg c) := by
      generalize b.eval x' = zz at va
      generalize ev A x = xv at va hr
      generalize ev A y = yv at hr
      cases va
      case bool => exfalso; revert hr; cases kd <;> simp [eqpV]
      case int => exfalso; revert hr; cases kd <;> simp [eqpV]
      case str => exfalso; revert hr; cases kd <;> simp [eqpV]
      case agg => exfalso; revert hr; cases kd <;> simp [eqpV]
      case u => exfalso; revert hr; cases kd <;> simp [eqpV]
      case tup => exfalso; revert hr; cases kd <;> simp [eqpV]
      all_goals exact ⟨(fun _ _ e => by cases e), (fun _ e => by cases e), (fun _ _ e => by cases e), (fun _ _ _ e => by cases e), (fun _ e => by cases e)⟩
    obtain ⟨n1, n2, n3, n4, n5⟩ := hkinds
    refine ⟨_, exeq ho ⟨n1, n2, n3, n4⟩ ?_ he, .bool _⟩
    cases kd with
    | iface cc =>
      obtain ⟨e, hu, hcc⟩ := nk_iface h3
      have hboth : b.eval x' = .nilIface → b.eval y' = .nilIface → (∃ v, x' = .const v) ∨ ∃ v, y' = .const v := by
        intro e1 e2
        cases cc with
        | false =>
          exfalso
          rw [e1] at va
          rw [e2] at vb
          generalize ev A x = xv at va hr
          generalize ev A y = yv at vb hr
          cases va <;> cases vb <;> simp [eqpV] at hr
        | true =>
          rcases Bool.or_eq_true_iff.1 hcc.symm with hh | hh
          · exact Or.inl (isC_sound (a := b) h1 hh)
          · exact Or.inr (isC_sound (a := b) h2 hh)
      generalize hx' : b.eval x' = xx at *
      generalize hy' : b.eval y' = yy at *
      unfold eqGuard
      have := eqOp_inv ho
      cases ne <;> simp only [if_true, Bool.false_eq_true, if_false] at this <;> subst this
      all_goals
        simp only [Bool.not_true, Bool.false_eq_true, if_false]
        split
        · rcases hboth rfl rfl with ⟨v, rfl⟩ | ⟨v, rfl⟩ <;> simp
        · exact absurd rfl (n5 _)
        · rfl
    | _ =>
      refine guard_ok ⟨fun c d e _ => n5 c e, fun e1 e2 => ?_⟩
      rw [e1] at va
      generalize ev A x = xv at va hr
      cases va <;> simp [eqpV] at hr
  · cases h
end
end Go.Proofs.YtknhohgnilamcaaGreatDoor
