/-
  Machines are sound: code, loops, functions. (Of no program.)
-/
import Derived.Test.YtknhohgnilamcaaGreatDoorEngP
namespace Go.Proofs.YtknhohgnilamcaaGreatDoor
set_option linter.unusedVariables false
set_option linter.unusedSimpArgs false
set_option linter.unusedSectionVars false
open Go

section
variable {P : Program}
/-- a loop, about to begin another round -/
def LoopAt (P : Program) (c : Code) (Q : Exit → Act → World → Prop) (a : Act) (w : World) : Prop := ∀ (b : Frame) (k : List Item) (cs : List Frame),
  ∃ e a' w', Q e a' w' ∧ Arrives P (lone (b.at a (.code c :: .inLoop c :: k)) cs w) b k cs e a' w'
theorem LoopAt.wp {c : Code} {Q : Exit → Act → World → Prop} {a : Act} {w : World} (h : LoopAt P c Q a w) : (Code.loop c).wp P Q a w := by
  intro b k cs
  obtain ⟨e, a', w', hq, harr⟩ := h b k cs
  exact ⟨e, a', w', hq, .of_steps (.one step_loop) harr⟩
theorem LoopAt.round {c : Code} {Q : Exit → Act → World → Prop} {a : Act} {w : World} (h : c.wp P (Exit.then (LoopAt P c Q) Q) a w) : LoopAt P c Q a w := by
  intro b k cs
  obtain ⟨e, a1, w1, hq, harr⟩ := h b (.inLoop c :: k) cs
  cases e with
  | normal =>
    obtain ⟨e2, a2, w2, hq2, harr2⟩ := hq b k cs
    exact ⟨e2, a2, w2, hq2, .of_steps (Steps.trans harr (.one step_inLoop)) harr2⟩
  | exit id => exact ⟨_, a1, w1, hq, .pass (x := .inLoop c) rfl (fun _ _ => .inl (by simp)) harr⟩
  | goto l => exact ⟨_, a1, w1, hq, .pass (x := .inLoop c) rfl (fun _ _ => .inl (by simp)) harr⟩
  | ret => exact ⟨_, a1, w1, hq, .pass (x := .inLoop c) rfl (fun _ _ => .inl (by simp)) harr⟩
  | panic ch => exact ⟨_, a1, w1, hq, .pass (x := .inLoop c) rfl (fun _ _ => .inl (by simp)) harr⟩
  | outgrown => exact ⟨_, a1, w1, hq, .pass (x := .inLoop c) rfl (fun _ _ => .inl (by simp)) harr⟩

def XQ (x : XE) (Q : Exit → Act → World → Prop) : Act → World → Prop := match x with | .nrm => Q .normal | .ext i => Q (.exit i) | .ret => Q .ret
/-- what is asked of the check of a region that draws its order -/
def RgdSound (P : Program) (E : Env P) (M : Mach) (n : Nat) (okD : Nat → List RO → Array Oper → Bool) : Prop := ∀ (call : Pos → List V → St → Option (V × St)), CallOK P E.ng call → ∀ (id k : Nat) (l : List RO) (ops : Array Oper), okD k l ops = true →
  ∀ {ι : Nm} {A A' : T V} {a : Act} {σ σ' : St} {w : World} {Q : Exit → Act → World → Prop}, runR M call (namesOf k σ.nx).1 l A ⟨σ.h, (namesOf k σ.nx).2⟩ = some (A', σ') → FR n ι A a → Gl E.ng ι → Rep ι σ w →
  (∀ ι' a' w', FR n ι' A' a' → Rep ι' σ' w' → G σ.nx.nat ι σ w ι' σ' w' → Q .normal a' w') → (Code.region id ops true).wp P Q a w
def okC (E : Env P) (n : Nat) (okD : Nat → List RO → Array Oper → Bool) : IR → Code → Bool
  | .skip, .skip => true
  | .reg l, .region _ ops false => okROs E n ops l ops.toList
  | .rgd k l, .region _ ops true => okD k l ops
  | .seq a b, .seq x y => okC E n okD a x && okC E n okD b y
  | .cnd c a b, .cond z x y => okA E.ng c z && okC E n okD a x && okC E n okD b y
  | .blk i b, .block j x => i == j && okC E n okD b x
  | .loop b, .loop x => okC E n okD b x
  | .exit i, .exit j => i == j
  | .ret, .ret => true
  | .bad, _ => true
  | _, _ => false
theorem exec_sound {E : Env P} {M : Mach} (hpt : M.pt = E.pt) (hmt : MtOk P M.mt) {call : Pos → List V → St → Option (V × St)} (hc : CallOK P E.ng call) {n : Nat} {okD : Nat → List RO → Array Oper → Bool} (hD : RgdSound P E M n okD) (fuel : Nat) :
    ∀ (c : IR) (x : Code) {ι : Nm} {A A' : T V} {a : Act} {σ σ' : St} {w : World} {e : XE} {Q : Exit → Act → World → Prop}, okC E n okD c x = true → exec M call fuel c A σ = some (e, A', σ') → FR n ι A a → Gl E.ng ι → Rep ι σ w →
      (∀ ι' a' w', FR n ι' A' a' → Rep ι' σ' w' → G σ.nx.nat ι σ w ι' σ' w' → XQ e Q a' w') → x.wp P Q a w := by
  intro c
  induction c with
  | skip =>
    intro x ι A A' a σ σ' w e Q hok h F L R hQ
    cases x <;> simp only [okC, Bool.false_eq_true] at hok
    have : some (XE.nrm, A, σ) = some (e, A', σ') := h
    cases this
    exact wp_skip (hQ ι a w F R (G.refl _ _ _ _))
  | reg l =>
    intro x ι A A' a σ σ' w e Q hok h F L R hQ
    cases x <;> try simp only [okC, Bool.false_eq_true] at hok
    rename_i id ops dr
    have hok : (match dr with | false => okROs E n ops l ops.toList | true => false) = true := by cases dr <;> exact hok
    cases dr <;> simp only [Bool.false_eq_true] at hok
    have h : (match runR M call [] l A σ with | none => none | some (A', σ') => some (XE.nrm, A', σ')) = some (e, A', σ') := h
    split at h
    · cases h
    · rename_i A1 σ1 hr
      cases h
      exact wp_region_list (seq_sound hpt hmt hc l _ hok hr F L R hQ)
  | rgd k l =>
    intro x ι A A' a σ σ' w e Q hok h F L R hQ
    cases x <;> try simp only [okC, Bool.false_eq_true] at hok
    rename_i id ops dr
    have hok : (match dr with | true => okD k l ops | false => false) = true := by cases dr <;> exact hok
    cases dr <;> simp only [Bool.false_eq_true] at hok
    have h : (match runR M call (namesOf k σ.nx).1 l A ⟨σ.h, (namesOf k σ.nx).2⟩ with | none => none | some (A', σ') => some (XE.nrm, A', σ')) = some (e, A', σ') := h
    split at h
    · cases h
    · rename_i A1 σ1 hr
      cases h
      exact hD call hc id k l ops hok hr F L R hQ
  | seq c1 c2 ih1 ih2 =>
    intro x ι A A' a σ σ' w e Q hok h F L R hQ
    cases x <;> simp only [okC, Bool.false_eq_true, Bool.and_eq_true] at hok
    have h : (match exec M call fuel c1 A σ with | none => none | some (x, A', σ') => (match x with | .nrm => exec M call fuel c2 A' σ' | x => some (x, A', σ'))) = some (e, A', σ') := h
    split at h
    · cases h
    · rename_i e1 A1 σ1 hr
      refine wp_seq (ih1 _ hok.1 hr F L R ?_)
      intro ι1 a1 w1 F1 R1 G1
      cases e1 with
      | nrm => exact ih2 _ hok.2 h F1 (L.mono G1.ext) R1 (fun ι2 a2 w2 F2 R2 G2 => hQ ι2 a2 w2 F2 R2 (G1.trans G1.nx G2))
      | ext i => cases h; exact hQ ι1 a1 w1 F1 R1 G1
      | ret => cases h; exact hQ ι1 a1 w1 F1 R1 G1
  | cnd c c1 c2 ih1 ih2 =>
    intro x ι A A' a σ σ' w e Q hok h F L R hQ
    cases x <;> simp only [okC, Bool.false_eq_true, Bool.and_eq_true] at hok
    have h : (match ev A c with | .bool t => (match t with | true => exec M call fuel c1 A σ | false => exec M call fuel c2 A σ) | _ => none) = some (e, A', σ') := h
    split at h
    · rename_i t hv
      have hb := (ev_as F L hok.1.1 hv).bool_inv
      cases t with
      | true => exact wp_cond_true hb (ih1 _ hok.1.2 h F L R hQ)
      | false => exact wp_cond_false hb (ih2 _ hok.2 h F L R hQ)
    · cases h
  | blk i c ih =>
    intro x ι A A' a σ σ' w e Q hok h F L R hQ
    cases x <;> simp only [okC, Bool.false_eq_true, Bool.and_eq_true, beq_iff_eq] at hok
    obtain ⟨rfl, hok⟩ := hok
    have h : (match exec M call fuel c A σ with | none => none | some (x, A', σ') => (match x with | .ext j => (match Nat.beq j i with | true => some (XE.nrm, A', σ') | false => some (.ext j, A', σ')) | x => some (x, A', σ'))) = some (e, A', σ') := h
    split at h
    · cases h
    · rename_i e1 A1 σ1 hr
      refine wp_block (ih _ hok hr F L R ?_)
      intro ι1 a1 w1 F1 R1 G1
      cases e1 with
      | nrm => cases h; exact hQ ι1 a1 w1 F1 R1 G1
      | ext j =>
        simp only [XQ, Exit.inBlock]
        have h : (match Nat.beq j i with | true => some (XE.nrm, A1, σ1) | false => some (.ext j, A1, σ1)) = some (e, A', σ') := h
        split at h
        · rename_i hj
          have := Nat.eq_of_beq_eq_true hj
          cases h
          rw [if_pos this]
          exact hQ ι1 a1 w1 F1 R1 G1
        · rename_i hj
          have : ¬ j = i := fun h => by rw [h] at hj; simp at hj
          cases h
          rw [if_neg this]
          exact hQ ι1 a1 w1 F1 R1 G1
      | ret => cases h; exact hQ ι1 a1 w1 F1 R1 G1
  | loop c ih =>
    intro x ι A A' a σ σ' w e Q hok h F L R hQ
    cases x <;> simp only [okC, Bool.false_eq_true] at hok
    rename_i body
    have h : loopF (exec M call fuel c) fuel A σ = some (e, A', σ') := h
    refine LoopAt.wp ?_
    have key : ∀ (f : Nat) {ι : Nm} {A : T V} {a : Act} {σ : St} {w : World}, loopF (exec M call fuel c) f A σ = some (e, A', σ') → FR n ι A a → Gl E.ng ι → Rep ι σ w →
        (∀ ι' a' w', FR n ι' A' a' → Rep ι' σ' w' → G σ.nx.nat ι σ w ι' σ' w' → XQ e Q a' w') → LoopAt P body Q a w := by
      intro f
      induction f with
      | zero => intro ι A a σ w h; cases h
      | succ f ihf =>
        intro ι A a σ w h F L R hQ
        have h : (match exec M call fuel c A σ with | none => none | some (x, A', σ') => (match x with | .nrm => loopF (exec M call fuel c) f A' σ' | x => some (x, A', σ'))) = some (e, A', σ') := h
        split at h
        · cases h
        · rename_i e1 A1 σ1 hr
          refine LoopAt.round (ih _ hok hr F L R ?_)
          intro ι1 a1 w1 F1 R1 G1
          cases e1 with
          | nrm => exact ihf h F1 (L.mono G1.ext) R1 (fun ι2 a2 w2 F2 R2 G2 => hQ ι2 a2 w2 F2 R2 (G1.trans G1.nx G2))
          | ext i => cases h; exact hQ ι1 a1 w1 F1 R1 G1
          | ret => cases h; exact hQ ι1 a1 w1 F1 R1 G1
    exact key fuel h F L R hQ
  | exit i =>
    intro x ι A A' a σ σ' w e Q hok h F L R hQ
    cases x <;> simp only [okC, Bool.false_eq_true, beq_iff_eq] at hok
    subst hok
    have : some (XE.ext i, A, σ) = some (e, A', σ') := h
    cases this
    exact wp_exit (hQ ι a w F R (G.refl _ _ _ _))
  | ret =>
    intro x ι A A' a σ σ' w e Q hok h F L R hQ
    cases x <;> simp only [okC, Bool.false_eq_true] at hok
    have : some (XE.ret, A, σ) = some (e, A', σ') := h
    cases this
    exact wp_ret (hQ ι a w F R (G.refl _ _ _ _))
  | bad =>
    intro x ι A A' a σ σ' w e Q hok h F L R hQ
    cases h

def okRV (E : Env P) : RV → ResultVar → Bool
  | .t p, .tmp t => p.nat == t + 1
  | .c1 p, .cell a ty => p.nat == a + 1 && aggB P ty == some false
  | .cn p n, .cell a ty => p.nat == a + 1 && aggB P ty == some true && szB P ty n
  | _, _ => false
def okRVs (E : Env P) : List RV → List ResultVar → Bool
  | [], [] => true
  | r :: l, x :: m => okRV E r x && okRVs E l m
  | _, _ => false
def resOf (tmps : Array Value) : ResultVar → Sem Value
  | .tmp t => pure (tmps.getD t undef)
  | .cell a t => do loadVar t (← asAddr (tmps.getD a undef))
theorem cell_of_load {t : TypeId} {x v' : Value} {w : World} {ρ : Operand → Value} {op : Operand} (hx : ρ op = x) {d : Option Tmp} {ty : TypeId} {pos : String} {af : Array Edge} {g : Option (Nat × Bool)}
    (h : (execOp ρ ⟨d, .load t op, ty, pos, af, g⟩).run P w = .ok (.value v') w) : (do loadVar t (← asAddr x) : Sem Value).run P w = .ok v' w := by
  have h : (do pure (Next.value (← Instr.loadAt t (ρ op))) : Sem Next).run P w = .ok (.value v') w := h
  rw [hx] at h
  have e : (do loadVar t (← asAddr x) : Sem Value).run P w = (Instr.loadAt t x).run P w ∨ ∀ r, (Instr.loadAt t x).run P w ≠ .ok r w := by
    cases x
    case pointer a =>
      cases a with
      | none => right; intro r; simp [Instr.loadAt, Instr.sureAddr, stuck, Sem.run]
      | some a => left; simp [Instr.loadAt, Instr.sureAddr, asAddr, Sem.run_bind, Sem.run_pure]
    all_goals (right; intro r; simp [Instr.loadAt, Instr.sureAddr, stuck, Sem.run])
  rw [Sem.run_bind] at h
  cases hr : (Instr.loadAt t x).run P w with
  | ok r w1 =>
    rw [hr] at h
    simp only [Result.andThen_ok, Sem.run_pure, Result.ok.injEq, Next.value.injEq] at h
    obtain ⟨rfl, rfl⟩ := h
    rcases e with e | e
    · rw [e, hr]
    · exact absurd hr (e _)
  | halt x w1 => rw [hr] at h; cases h
theorem res1_sound {E : Env P} {n : Nat} {ι : Nm} {A : T V} {a : Act} {σ : St} {w : World} {v : V} (F : FR n ι A a) (L : Gl E.ng ι) (R : Rep ι σ w) : ∀ (r : RV) (x : ResultVar), okRV E r x = true →
    (match r with | .t p => some (ev A (.s p)) | .c1 p => qev [] (.ld1 (.s p)) A σ | .cn p n => qev [] (.ldn (.s p) n) A σ) = some v → ∃ v', (resOf a.tmps x).run P w = .ok v' w ∧ VR ι v v'
  | .t p, .tmp t, hok, hv => by
    simp only [okRV, beq_iff_eq] at hok
    cases hv
    have := ev_sound (x := .s p) (o := .tmp t) F L (by simp [okA, hok])
    exact ⟨_, rfl, this⟩
  | .c1 p, .cell t ty, hok, hv => by
    simp only [okRV, Bool.and_eq_true, beq_iff_eq] at hok
    obtain ⟨v', r1, r2⟩ := q_sound (E := E) (.ld1 (.s p)) (o := ⟨none, .load ty (.tmp t), 0, "", #[], none⟩) F L R (by simp [okQ, okA, hok.1, hok.2]) hv
    exact ⟨v', cell_of_load (ρ := a.eval) (op := .tmp t) rfl r1, r2⟩
  | .cn p k, .cell t ty, hok, hv => by
    simp only [okRV, Bool.and_eq_true, beq_iff_eq] at hok
    obtain ⟨v', r1, r2⟩ := q_sound (E := E) (.ldn (.s p) k) (o := ⟨none, .load ty (.tmp t), 0, "", #[], none⟩) F L R (by simp [okQ, okA, hok.1.1, hok.1.2, hok.2]) hv
    exact ⟨v', cell_of_load (ρ := a.eval) (op := .tmp t) rfl r1, r2⟩
  | .t _, .cell _ _, hok, _ => by cases hok
  | .c1 _, .tmp _, hok, _ => by cases hok
  | .cn _ _, .tmp _, hok, _ => by cases hok
theorem res_sound {E : Env P} {n : Nat} {ι : Nm} {A : T V} {a : Act} {σ : St} {w : World} (F : FR n ι A a) (L : Gl E.ng ι) (R : Rep ι σ w) : ∀ (l : List RV) (rs : List ResultVar) (vs : List V), okRVs E l rs = true → resF l A σ = some vs →
    ∃ cs : List Value, (rs.mapM (resOf a.tmps)).run P w = .ok cs w ∧ VRs ι vs cs
  | [], [], vs, _, h => by
    have : some [] = some vs := h
    cases this
    exact ⟨[], by rw [List.mapM_nil]; rfl, .nil⟩
  | [], _ :: _, _, h, _ => by simp [okRVs] at h
  | _ :: _, [], _, h, _ => by simp [okRVs] at h
  | r :: l, x :: m, vs, hok, h => by
    simp only [okRVs, Bool.and_eq_true] at hok
    have e : resF (r :: l) A σ = match resF l A σ with
      | none => none
      | some vs => (match (match r with | .t p => some (ev A (.s p)) | .c1 p => qev [] (.ld1 (.s p)) A σ | .cn p n => qev [] (.ldn (.s p) n) A σ) with | some v => some (v :: vs) | none => none) := rfl
    rw [e] at h
    split at h
    · cases h
    · rename_i vs1 h1
      split at h
      · rename_i v hv
        cases h
        obtain ⟨cs, q1, q2⟩ := res_sound F L R l m vs1 hok.2 h1
        have hx := res1_sound F L R r x hok.1 hv
        obtain ⟨v', r1, r2⟩ := hx
        refine ⟨v' :: cs, ?_, .cons r2 q2⟩
        rw [List.mapM_cons]
        simp only [Sem.run_bind, r1, q1, Result.andThen_ok, Sem.run_pure]
      · cases h
theorem results_sound {E : Env P} {n : Nat} {ι : Nm} {A : T V} {a : Act} {σ : St} {w : World} (F : FR n ι A a) (L : Gl E.ng ι) (R : Rep ι σ w) {fn : Func} {l : List RV} {vs : List V} (hok : okRVs E l fn.results.toList = true) (h : resF l A σ = some vs) :
    ∃ v', (results fn a.tmps).run P w = .ok v' w ∧ VR ι (one vs) v' := by
  obtain ⟨cs, h1, h2⟩ := res_sound F L R l _ vs hok h
  have e : results fn a.tmps = (do let vs ← fn.results.mapM (resOf a.tmps); pure (if h : vs.size = 1 then vs[0] else .tuple vs)) := by
    unfold results
    congr 1
  have e2 : (fn.results.mapM (resOf a.tmps)).run P w = .ok cs.toArray w := by
    rw [Array.mapM_eq_mapM_toList, map_eq_pure_bind]
    simp only [Sem.run_bind, h1, Result.andThen_ok, Sem.run_pure]
  refine ⟨_, by rw [e, Sem.run_bind, e2]; rfl, ?_⟩
  have hl := h2.1
  match vs, cs, h2, hl with
  | [], [], h2, _ => exact .mk_tup h2
  | [v], [c], h2, _ => exact h2.head
  | v :: v1 :: vs, c :: c1 :: cs, h2, _ =>
    have : ¬ (c :: c1 :: cs).toArray.size = 1 := by simp
    rw [dif_neg this]
    exact .mk_tup h2

theorem frameOf_get : ∀ (l : List V) (p : Pos) (t : T V) (q : Pos) (v : V), T.get q (frameOf l p t) = some v → (p.nat ≤ q.nat ∧ l[q.nat - p.nat]? = some v) ∨ T.get q t = some v
  | [], p, t, q, v, h => .inr h
  | x :: l, p, t, q, v, h => by
    have h : T.get q (frameOf l p.succ (T.set x p t)) = some v := h
    rcases frameOf_get l p.succ (T.set x p t) q v h with ⟨h1, h2⟩ | h1
    · rw [Pos.succ_nat] at h1 h2
      refine .inl ⟨by omega, ?_⟩
      have : q.nat - p.nat = (q.nat - (p.nat + 1)) + 1 := by omega
      rw [this, List.getElem?_cons_succ]
      exact h2
    · rw [T.get_set] at h1
      split at h1
      · rename_i e; subst e
        exact .inl ⟨Nat.le_refl _, by simpa using h1⟩
      · exact .inr h1
theorem FR.enter {n : Nat} {ι : Nm} {vs : List V} {args : Array Value} (hv : VRs ι vs args.toList) (hle : vs.length ≤ n) : FR n ι (frameOf vs .H .nil) { tmps := args ++ Array.replicate (n - args.size) undef, defers := [] } := by
  have hl : vs.length = args.size := by simpa using hv.1
  refine ⟨by simp; omega, rfl, fun p v t h1 h2 => ?_⟩
  rcases frameOf_get vs .H .nil p v h1 with ⟨h3, h4⟩ | h3
  · have hp : p.nat - Pos.H.nat = t := by show p.nat - 1 = t; omega
    rw [hp] at h4
    have ht : t < vs.length := (List.getElem?_eq_some_iff.1 h4).1
    have e : (args ++ Array.replicate (n - args.size) undef)[t]? = args[t]? := Array.getElem?_append_left (by omega)
    have e2 : args[t]? = some args[t] := Array.getElem?_eq_getElem (by omega)
    rw [Array.getD_eq_getD_getElem?, e, e2]
    refine hv.2 t v _ h4 ?_
    rw [Array.getElem?_toList]; exact e2
  · rw [T.get_nil] at h3; cases h3

/-- what is known of the functions of a machine -/
def FnIs (P : Program) (f : Pos) : Prop := ∃ fn, P.funcs[f.nat - 1]? = some fn ∧ fn.body.isSome = true ∧ (fn.name == "runtime.NumGoroutine") = false
structure MOk (P : Program) (E : Env P) (M : Mach) (okD : Nat → Nat → List RO → Array Oper → Bool) : Prop where
  pt : M.pt = E.pt
  mt : MtOk P M.mt
  rgd : ∀ n, RgdSound P E M n (okD n)
  code : ∀ f n b res, T.get f M.tab = some (.code n b res) → ∃ fn c, P.funcs[f.nat - 1]? = some fn ∧ fn.body = some c ∧ fn.ntmps = n ∧ (fn.name == "runtime.NumGoroutine") = false ∧ okC E n (okD n) b c = true ∧ okRVs E res fn.results.toList = true
  spec : ∀ f s, T.get f M.tab = some (.spec s) → FnIs P f ∧ ∀ vs σ v σ', M.spec s vs σ = some (v, σ') → ∀ (ι : Nm) (w : World) (args : Array Value), Gl E.ng ι → Rep ι σ w → VRs ι vs args.toList → Calls P (f.nat - 1) args w (Post ι σ w v σ')
theorem run_sound {E : Env P} {M : Mach} {okD : Nat → Nat → List RO → Array Oper → Bool} (K : MOk P E M okD) : ∀ k, CallOK P E.ng (runFn M k)
  | 0 => fun f vs σ v σ' h => by cases h
  | k + 1 => fun f vs σ v σ' h => by
    have ih := run_sound K k
    have h : runFn1 M (runFn M k) k f vs σ = some (v, σ') := h
    unfold runFn1 at h
    split at h
    · cases h
    · rename_i s hs
      obtain ⟨h1, h2⟩ := K.spec f s hs
      exact ⟨h1, h2 vs σ v σ' h⟩
    · rename_i n b res ht
      obtain ⟨fn, c, h1, h2, h3, h4, h5, h6⟩ := K.code f n b res ht
      refine ⟨⟨fn, h1, by rw [h2]; rfl, h4⟩, fun ι w args L R hv => ?_⟩
      split at h
      · cases h
      · rename_i hle
        have hle := ble_le hle
        rw [llen_eq] at hle
        split at h
        · cases h
        · rename_i x A σ1 hx
          refine calls_of_wp h1 h2 ?_
          rw [h3]
          refine exec_sound K.pt K.mt ih (K.rgd n) k b c h5 hx (FR.enter hv hle) L R ?_
          intro ι1 a1 w1 F1 R1 G1
          have fin : ∀ l, resF res A σ1 = some l → some (one l, σ1) = some (v, σ') → a1.defers = [] ∧ ∃ v', (results fn a1.tmps).run P w1 = .ok v' w1 ∧ Post ι σ w v σ' (.returned v') w1 := by
            intro l hl he
            cases he
            obtain ⟨v', r1, r2⟩ := results_sound F1 (L.mono G1.ext) R1 h6 hl
            exact ⟨F1.defers, v', r1, ι1, v', rfl, r2, R1, G1⟩
          cases x with
          | ext i => cases h
          | nrm =>
            simp only at h
            split at h
            · rename_i l hl; exact fin l hl h
            · cases h
          | ret =>
            simp only at h
            split at h
            · rename_i l hl; exact fin l hl h
            · cases h
end
end Go.Proofs.YtknhohgnilamcaaGreatDoor
