/-
  Machines are sound: operations, regions in the text's order, code, loops, functions. (Of no program.)
-/
import Derived.Test.YtknhohgnilamcaaGreatDoorEngO
import Derived.Tactics
import Derived.Orders
namespace Go.Proofs.YtknhohgnilamcaaGreatDoor
set_option linter.unusedVariables false
set_option linter.unusedSimpArgs false
set_option linter.unusedSectionVars false
open Go

def isLate (e : EOp) : Bool := match e with | .alo _ => true | .box _ _ => true | .bsl _ _ _ _ => true | _ => false
section
variable {P : Program}
def okX (E : Env P) (x : XOp) (op : Op) : Bool := match x with
  | .q o => okQ E o op
  | .e o => okE E o op
  | .l o _ => okE E o op && isLate o
  | .call f l => (match op with | .call ⟨.value (.func g), args, _⟩ => f.nat == g + 1 && okAs E.ng l args.toList | _ => false)
  | .callv g l => (match op with | .call ⟨.value x, args, _⟩ => okA E.ng g x && okAs E.ng l args.toList | _ => false)
  | .inv r name l => (match op with | .call ⟨.invoke x name', args, _⟩ => decide (name = name') && okA E.ng r x && okAs E.ng l args.toList | _ => false)
  | .bad => true
def okDst (n : Nat) (d : Option Pos) (t : Option Tmp) : Bool := match d, t with | none, none => true | some p, some t => p.nat == t + 1 && decide (t < n) | _, _ => false
def okGd (ops : Array Oper) (g : Option (Pos × Bool)) (h : Option (Nat × Bool)) : Bool := match g, h with
  | none, none => true
  | some (p, b), some (j, c) => b == c && (match (ops[j]?).bind (·.dst) with | some t => p.nat == t + 1 | none => false)
  | _, _ => false
def okRO (E : Env P) (n : Nat) (ops : Array Oper) (r : RO) (o : Oper) : Bool := okX E r.op o.op && okDst n r.dst o.dst && okGd ops r.gd o.guard
def isL : XOp → Bool | .l _ _ => true | _ => false
def okROs (E : Env P) (n : Nat) (ops : Array Oper) : List RO → List Oper → Bool
  | [], [] => true
  | r :: l, o :: m => okRO E n ops r o && !isL r.op && okROs E n ops l m
  | _, _ => false

/-- what a call comes to -/
def Post (ι : Nm) (σ : St) (w : World) (v : V) (σ' : St) : Ending → World → Prop := fun e w' => ∃ ι' v', e = .returned v' ∧ VR ι' v v' ∧ Rep ι' σ' w' ∧ G σ.nx.nat ι σ w ι' σ' w'
def CallOK (P : Program) (ng : GS) (call : Pos → List V → St → Option (V × St)) : Prop := ∀ f vs σ v σ', call f vs σ = some (v, σ') →
  (∃ fn, P.funcs[f.nat - 1]? = some fn ∧ fn.body.isSome = true ∧ (fn.name == "runtime.NumGoroutine") = false) ∧
  ∀ (ι : Nm) (w : World) (args : Array Value), Gl ng ι → Rep ι σ w → VRs ι vs args.toList → Calls P (f.nat - 1) args w (Post ι σ w v σ')
structure MtOk (P : Program) (mt : List (Nat × String × Pos)) : Prop where
  ok : ∀ x ∈ mt, ∀ (v : Value) (w : World), (method (P.types.size + Made.depth) x.1 v x.2.1).run P w = .ok (x.2.2.nat - 1, v) w

theorem natPos_nat (n : Nat) : (natPos n).nat = n + 1 := by
  induction n with
  | zero => rfl
  | succ n ih =>
    have : natPos (n + 1) = (natPos n).succ := rfl
    rw [this, Pos.succ_nat, ih]
theorem mtFind_mem {l : List (Nat × String × Pos)} {t : Nat} {name : String} {f : Pos} (h : mtFind l t name = some f) : (t, name, f) ∈ l := by
  induction l with
  | nil => cases h
  | cons x l ih =>
    have e : mtFind (x :: l) t name = match Nat.beq x.1 t && decide (x.2.1 = name) with | true => some x.2.2 | false => mtFind l t name := rfl
    rw [e] at h
    split at h
    · rename_i hb
      simp only [Bool.and_eq_true, decide_eq_true_eq] at hb
      have h1 := Nat.eq_of_beq_eq_true hb.1
      cases h
      obtain ⟨a, b, c⟩ := x
      simp only at h1 hb
      rw [← h1, ← hb.2]
      simp
    · exact List.mem_cons_of_mem _ (ih h)
theorem run_callFunc {f : Nat} {args : Array Value} {fn : Func} (hf : P.funcs[f]? = some fn) (hb : fn.body.isSome = true) (hn : (fn.name == "runtime.NumGoroutine") = false) (w : World) :
    (callFunc f args).run P w = .ok (.enter f args) w := by
  have hb' : fn.body ≠ none := fun h => by rw [h] at hb; cases hb
  have hn' : fn.name ≠ "runtime.NumGoroutine" := by simpa using hn
  simp [callFunc, program, Sem.run, hf, hn', hb']
theorem call_sound {ng : GS} {call : Pos → List V → St → Option (V × St)} (hc : CallOK P ng call) {f : Pos} {vs : List V} {σ σ' : St} {v : V} (h : call f vs σ = some (v, σ')) {ι : Nm} {w : World} {args : Array Value} (L : Gl ng ι) (R : Rep ι σ w) (hv : VRs ι vs args.toList)
    {o : Oper} {a : Act} (hr : (execOp a.eval o).run P w = (callFunc (f.nat - 1) args).run P w) {K : Act → World → Prop} {Q : Exit → Act → World → Prop}
    (hK : ∀ ι' v' w', VR ι' v v' → Rep ι' σ' w' → G σ.nx.nat ι σ w ι' σ' w' → K (a.put o.dst v') w') : o.wp P a w K Q := by
  obtain ⟨⟨fn, h1, h2, h3⟩, h4⟩ := hc f vs σ v σ' h
  unfold Oper.wp
  rw [hr, run_callFunc h1 h2 h3]
  simp only [Oper.upon]
  refine (h4 ι w args L R hv).mono ?_
  rintro e w' ⟨ι', v', rfl, q1, q2, q3⟩
  exact hK ι' v' w' q1 q2 q3
theorem xop_sound {E : Env P} {M : Mach} (hpt : M.pt = E.pt) (hmt : MtOk P M.mt) {call : Pos → List V → St → Option (V × St)} (hc : CallOK P E.ng call) {nms : List Pos} {x : XOp} {n : Nat} {ι : Nm} {A : T V} {a : Act} {σ σ' : St} {w : World} {o : Oper} {v : V}
    (F : FR n ι A a) (L : Gl E.ng ι) (R : Rep ι σ w) (hok : okX E x o.op = true) (hl : isL x = false) (h : xop M call nms x A σ = some (v, σ')) {K : Act → World → Prop} {Q : Exit → Act → World → Prop}
    (hK : ∀ ι' v' w', VR ι' v v' → Rep ι' σ' w' → G σ.nx.nat ι σ w ι' σ' w' → K (a.put o.dst v') w') : o.wp P a w K Q := by
  cases x with
  | q q =>
    simp only [xop, xQ, xL, xCallv, xInv, qevF_eq, eevF_eq] at h
    split at h
    · rename_i v1 hv
      cases h
      rw [hpt] at hv
      obtain ⟨v', r1, r2⟩ := q_sound q F L R hok hv
      unfold Oper.wp
      rw [r1]
      exact hK ι v' w r2 R (G.refl _ _ _ _)
    · cases h
  | e e =>
    simp only [xop, xQ, xL, xCallv, xInv, qevF_eq, eevF_eq] at h
    obtain ⟨ι', w', hh, q1, q2⟩ := e_sound e F L R hok h
    unfold Oper.wp
    rcases hh with ⟨v', r1, r2⟩ | ⟨r1, rfl⟩
    · rw [r1]; exact hK ι' v' w' r2 q1 q2
    · rw [r1]; exact hK ι' undef w' (.u _) q1 q2
  | l e j => cases hl
  | bad => cases h
  | call f l =>
    obtain ⟨d, op, ty, pos, af, g⟩ := o
    simp only [okX] at hok
    split at hok
    · rename_i g' args ats
      simp only [Bool.and_eq_true, beq_iff_eq] at hok
      simp only [xop, xQ, xL, xCallv, xInv, qevF_eq, eevF_eq] at h
      have hv := evs_sound F L _ _ hok.2
      rw [lmap_eq] at h
      refine call_sound hc h (args := args.map a.eval) L R (by simpa using hv) ?_ hK
      have : f.nat - 1 = g' := by omega
      unfold execOp
      simp only [resolve, Act.eval, Deferred.ofValue, invoke, Sem.run_bind, Sem.run_pure, Result.andThen_ok, this, Array.empty_append, Array.append_empty]
    · cases hok
  | callv g l =>
    obtain ⟨d, op, ty, pos, af, g0⟩ := o
    simp only [okX] at hok
    split at hok
    · rename_i x' args ats
      simp only [Bool.and_eq_true] at hok
      simp only [xop, xQ, xL, xCallv, xInv, qevF_eq, eevF_eq] at h
      split at h
      · rename_i f xs ys hg
        have hv := evs_sound F L _ _ hok.2
        obtain ⟨a1, b1, e1, e2, e3⟩ := (ev_as F L hok.1 hg).fn_inv
        rw [lmap_eq, lapp_eq, lapp_eq] at h
        refine call_sound hc h (args := a1 ++ args.map a.eval ++ b1) L R (by simpa using e2.append (hv.append e3)) ?_ hK
        have : (natPos f).nat - 1 = f := by rw [natPos_nat]; rfl
        unfold execOp
        simp only [resolve, e1, Deferred.ofValue, invoke, Sem.run_bind, Sem.run_pure, Result.andThen_ok, this]
      · cases h
    · cases hok
  | inv r name l =>
    obtain ⟨d, op, ty, pos, af, g0⟩ := o
    simp only [okX] at hok
    split at hok
    · rename_i x' name' args ats
      simp only [Bool.and_eq_true, decide_eq_true_eq] at hok
      obtain ⟨⟨rfl, h1⟩, h2⟩ := hok
      simp only [xop, xQ, xL, xCallv, xInv, qevF_eq, eevF_eq] at h
      split at h
      · rename_i t v1 hr
        split at h
        · rename_i f hf
          have hv := evs_sound F L _ _ h2
          obtain ⟨v1', e1, e2⟩ := (ev_as F L h1 hr).iface_inv
          have hm := hmt.ok _ (mtFind_mem hf)
          rw [lmap_eq] at h
          refine call_sound hc h (args := #[v1'] ++ args.map a.eval) L R (by simpa using VRs.cons e1 hv) ?_ hK
          unfold execOp
          have hex : (#[Value.iface t v1'] ++ args.map a.eval).extract 1 (#[Value.iface t v1'] ++ args.map a.eval).size = args.map a.eval := by
            apply Array.ext
            · simp
            · intro i h1 h2
              simp [Array.getElem_append]
          have hex2 : (#[Value.iface t v1'] ++ args.map a.eval)[0]? = some (Value.iface t v1') := by rw [Array.getElem?_append_left (by simp)]; rfl
          simp only [resolve, e2, invoke, Sem.run_bind, Sem.run_pure, Result.andThen_ok, hex, hex2, callMethod, program, Sem.run, hm v1' w]
        · cases h
      · cases h
    · cases hok

theorem want_sound {n : Nat} {ι : Nm} {A : T V} {a : Act} {ops : Array Oper} {g : Option (Pos × Bool)} {o : Oper} {b : Bool}
    (hF : ∀ p c, g = some (p, c) → ∀ v t, T.get p A = some v → p.nat = t + 1 → VR ι v (a.tmps.getD t undef)) (hok : okGd ops g o.guard = true) (h : wantG A g = some b) : Region.wanted o (yielded ops a.tmps) = b := by
  cases g with
  | none =>
    cases ho : o.guard with
    | none => simp only [wantG] at h; cases h; simp [Region.wanted, ho]
    | some x => rw [ho] at hok; simp [okGd] at hok
  | some x =>
    obtain ⟨p, c⟩ := x
    cases ho : o.guard with
    | none => rw [ho] at hok; simp [okGd] at hok
    | some y =>
      obtain ⟨j, want⟩ := y
      rw [ho] at hok
      simp only [okGd, Bool.and_eq_true, beq_iff_eq] at hok
      obtain ⟨rfl, hok⟩ := hok
      split at hok
      · rename_i t ht
        have hp : p.nat = t + 1 := by simpa using hok
        simp only [wantG] at h
        have he : ev A (.s p) = match T.get p A with | some v => v | none => .u := rfl
        have hy : yielded ops a.tmps j = match a.tmps[t]? with | some (.bool b) => some b | _ => none := by
          unfold yielded
          rw [ht]
          rfl
        cases hg : T.get p A with
        | none => rw [he, hg] at h; cases h
        | some v =>
          have hv := hF p c rfl v t hg hp
          rw [he, hg] at h
          simp only at h
          cases v <;> simp only at h <;> first | cases h | skip
          · rename_i d
            have hb := hv.bool_inv
            have h2 : a.tmps[t]? = some (.bool d) := by
              cases ht2 : a.tmps[t]? with
              | none => simp [ht2, undef] at hb
              | some z => simp [ht2] at hb; rw [hb]
            simp only [Region.wanted, ho, hy, h2]
            cases c <;> cases d <;> simp_all
          · obtain ⟨cc, hc, _⟩ := hv.of_tup
            have h2 : ∀ b, a.tmps[t]? ≠ some (.bool b) := fun b hb => by
              simp [hb] at hc
            have h3 : yielded ops a.tmps j = none := by
              rw [hy]
              split
              · rename_i b hb; exact absurd hb (h2 b)
              · rfl
            simp only [Region.wanted, ho, h3]
            rfl
      · cases hok
theorem FR.put {n : Nat} {ι : Nm} {A : T V} {a : Act} (F : FR n ι A a) {d : Option Pos} {t : Option Tmp} (hok : okDst n d t = true) {v : V} {v' : Value} (hv : VR ι v v') : FR n ι (putD A d v) (a.put t v') := by
  cases d with
  | none => cases t with
    | none => exact F
    | some t => simp [okDst] at hok
  | some p => cases t with
    | none => simp [okDst] at hok
    | some t =>
      simp only [okDst, Bool.and_eq_true, beq_iff_eq, decide_eq_true_eq] at hok
      obtain ⟨h1, h2⟩ := hok
      refine ⟨by simp [Act.put, F.size], F.defers, fun q x s hq hs => ?_⟩
      simp only [putD, T.get_set] at hq
      simp only [Act.put, Array.getD_eq_getD_getElem?, Array.getElem?_setIfInBounds]
      have hsz := F.size
      have h1' : p.nat = t + 1 := h1
      have hs' : q.nat = s + 1 := hs
      have h2' : t < n := h2
      split at hq
      · rename_i e; subst e
        cases hq
        have : t = s := by simp only [Tmp] at *; omega
        subst this
        rw [if_pos rfl, if_pos (by simp only [Tmp] at *; omega)]
        exact hv
      · rename_i e
        rw [if_neg (fun h => e (Pos.nat_inj (by simp only [Tmp] at *; omega)))]
        have := F.at_ q x s hq hs
        rw [Array.getD_eq_getD_getElem?] at this
        exact this
/-- a region that is done in the text's order -/
theorem seq_sound {E : Env P} {M : Mach} (hpt : M.pt = E.pt) (hmt : MtOk P M.mt) {call : Pos → List V → St → Option (V × St)} (hc : CallOK P E.ng call) {n : Nat} {ops : Array Oper} {Q : Exit → Act → World → Prop} :
    ∀ (l : List RO) (os : List Oper) {ι : Nm} {A A' : T V} {a : Act} {σ σ' : St} {w : World}, okROs E n ops l os = true → runR M call [] l A σ = some (A', σ') → FR n ι A a → Gl E.ng ι → Rep ι σ w →
      (∀ ι' a' w', FR n ι' A' a' → Rep ι' σ' w' → G σ.nx.nat ι σ w ι' σ' w' → Q .normal a' w') → wpList P ops Q os a w
  | [], [], ι, A, A', a, σ, σ', w, _, h, F, L, R, hQ => by
    have e : runR M call [] [] A σ = some (A, σ) := rfl
    rw [e] at h
    cases h
    exact hQ ι a w F R (G.refl _ _ _ _)
  | [], _ :: _, _, _, _, _, _, _, _, h, _, _, _, _, _ => by simp [okROs] at h
  | _ :: _, [], _, _, _, _, _, _, _, h, _, _, _, _, _ => by simp [okROs] at h
  | r :: l, o :: os, ι, A, A', a, σ, σ', w, hok, h, F, L, R, hQ => by
    simp only [okROs, okRO, Bool.and_eq_true] at hok
    obtain ⟨⟨⟨⟨h1, h2⟩, h3⟩, h4⟩, h5⟩ := hok
    have e : runR M call [] (r :: l) A σ = match xstep M call [] r A σ with | none => none | some (A', σ') => runR M call [] l A' σ' := rfl
    rw [e] at h
    split at h
    · cases h
    · rename_i A1 σ1 hs
      simp only [xstep] at hs
      split at hs
      · cases hs
      · rename_i hw
        have hw := want_sound (n := n) (a := a) (fun p c _ v t hg hp => F.at_ p v t hg hp) h3 hw
        cases hs
        simp only [wpList, hw]
        exact seq_sound hpt hmt hc l os h5 h (F.put h2 (.mk_tup .nil)) L R hQ
      · rename_i hw
        have hw := want_sound (n := n) (a := a) (fun p c _ v t hg hp => F.at_ p v t hg hp) h3 hw
        simp only [xfin] at hs
        split at hs
        · cases hs
        · rename_i v1 σ2 hx
          split at hs
          · cases hs
            simp only [wpList, hw, if_true]
            refine Or.inl (xop_sound hpt hmt hc F L R h1 (by simpa using h4) hx ?_)
            intro ι' v' w' q1 q2 q3
            exact seq_sound hpt hmt hc l os h5 h ((F.mono q3.ext).put h2 q1) (L.mono q3.ext) q2 (fun ι2 a2 w2 m1 m2 m3 => hQ ι2 a2 w2 m1 m2 (q3.trans q3.nx m3))
          · cases hs
end
end Go.Proofs.YtknhohgnilamcaaGreatDoor
