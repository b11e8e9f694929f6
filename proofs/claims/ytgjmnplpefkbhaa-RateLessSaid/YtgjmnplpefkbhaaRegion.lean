/-
  A region that draws its order is walked once, in one order that is named: whatever order the tape picks comes to the same.
  Conditions: what may lie in either order does not hang on one another (looked at by 'tqOk', which the kernel reckons); no operation ends the region by a panic.
-/
import Derived.Orders
import Derived.Tactics
import Derived.BigQuiet
namespace Go.Proofs.Ytgjmnplpefkbhaa
set_option linter.unusedSimpArgs false
set_option linter.unusedVariables false
open Go

/-- What an operation is in a region: 'pure': one value in every world; 'read': one value in this world; 'cread': one value in every world of the class C; 'eff': whatever; 'ceff': whatever, within C. -/
inductive Tg where
  | pure | read | cread | eff | ceff
  deriving DecidableEq

def NoQ : Exit → Act → World → Prop := fun _ _ _ => False

section
variable {P : Program} {ops : Array Oper} {C : World → Prop}

def Rv (P : Program) (o : Oper) (a : Act) (v : Value) (w : World) : Prop := (execOp a.eval o).run P w = .ok (.value v) w

/-- the worlds in which a quiet operation has its value -/
def Tg.cls (C : World → Prop) (w : World) : Tg → World → Prop
  | .pure, _ => True
  | .read, w' => w' = w
  | .cread, w' => C w'
  | .eff, _ => False
  | .ceff, _ => False

def quietQ (P : Program) (o : Oper) (D : World → Prop) (K : Act → World → Prop) (a : Act) (w : World) : Prop :=
  ∃ v, (∀ w', D w' → Rv P o a v w') ∧ D w ∧ K (a.put o.dst v) w

def stp (P : Program) (C : World → Prop) (t : Tg) (o : Oper) (K : Act → World → Prop) (a : Act) (w : World) : Prop :=
  match t with
  | .eff => o.wp P a w K NoQ
  | .ceff => C w ∧ o.wp P a w (fun a' w' => C w' ∧ K a' w') NoQ
  | t => quietQ P o (t.cls C w) K a w

def stpW (P : Program) (ops : Array Oper) (C : World → Prop) (t : Tg) (o : Oper) (K : Act → World → Prop) (a : Act) (w : World) : Prop :=
  if Region.wanted o (yielded ops a.tmps) then stp P C t o K a w else K (a.put o.dst undef) w

def tq (P : Program) (ops : Array Oper) (C : World → Prop) (tag : Nat → Tg) (Q : Act → World → Prop) : List Nat → Act → World → Prop
  | [], a, w => Q a w
  | i :: rest, a, w =>
    match ops[i]? with
    | none => tq P ops C tag Q rest a w
    | some o => stpW P ops C (tag i) o (tq P ops C tag Q rest) a w

/-- a2 is to the operation as a is -/
def Alk (ops : Array Oper) (o : Oper) (a a2 : Act) : Prop :=
  execOp a2.eval o = execOp a.eval o ∧ Region.wanted o (yielded ops a2.tmps) = Region.wanted o (yielded ops a.tmps)

theorem Alk.rfl' (o : Oper) (a : Act) : Alk ops o a a := ⟨rfl, rfl⟩
theorem Alk.put (o : Oper) (hs : ∀ cs b, o.op ≠ .select cs b) (a a2 : Act) (h : Alk ops o a a2) (dst : Option Tmp) (v : Value) (hd : ∀ d, dst = some d → d ∉ o.looksAt ops) :
    Alk ops o a (a2.put dst v) := ⟨(execOp_put o hs a2 dst v hd).trans h.1, (wanted_put o a2 dst v hd).trans h.2⟩

theorem NoQ_wp_mono {o : Oper} {a : Act} {w : World} {K K' : Act → World → Prop} (h : ∀ a w, K a w → K' a w) (hh : o.wp P a w K NoQ) : o.wp P a w K' NoQ := Oper.wp_mono h hh

/-- what is reached behind an operation is to another one as it was -/
theorem wp_info {x j : Oper} (hsj : ∀ cs b, j.op ≠ .select cs b) (hxj : ∀ d, x.dst = some d → d ∉ j.looksAt ops) {K : Act → World → Prop} {a : Act} {w : World}
    (h : x.wp P a w K NoQ) : x.wp P a w (fun a1 w1 => Alk ops j a a1 ∧ K a1 w1) NoQ := by
  unfold Oper.wp at *
  generalize (execOp a.eval x).run P w = r at *
  have k0 : ∀ v, Alk ops j a (a.put x.dst v) := fun v => Alk.put j hsj a a (Alk.rfl' j a) _ v hxj
  cases r with
  | ok n w' =>
    cases n <;> simp only [Oper.upon] at h ⊢
    case value u => exact ⟨k0 u, h⟩
    case skip => exact ⟨k0 _, h⟩
    case defer d => exact ⟨Alk.put j hsj a { a with defers := d :: a.defers } ⟨rfl, rfl⟩ _ _ hxj, h⟩
    case enter f args =>
      refine Calls.mono h fun e w'' he => ?_
      cases e with
      | returned u => exact ⟨k0 u, he⟩
      | panicked c => exact he
      | outgrown => exact he
    case row row args => exact Rows.mono h fun u w'' he => ⟨k0 u, he⟩
  | halt y w' =>
    cases y <;> simp only [Oper.upon] at h ⊢
    case panic u => exact h

theorem LetsOut_NoQ : ¬ LetsOut NoQ := fun ⟨_, _, h⟩ => h

/-- something is reached -/
theorem wp_some {x : Oper} {K : Act → World → Prop} {a : Act} {w : World} (h : x.wp P a w K NoQ) : ∃ a1 w1, K a1 w1 := by
  unfold Oper.wp at h
  generalize (execOp a.eval x).run P w = r at *
  cases r with
  | ok n w' =>
    cases n <;> simp only [Oper.upon] at h
    case value u => exact ⟨_, _, h⟩
    case skip => exact ⟨_, _, h⟩
    case defer d => exact ⟨_, _, h⟩
    case enter f args =>
      obtain ⟨e, w'', fr, he, _⟩ := h []
      cases e with
      | returned u => exact ⟨_, _, he⟩
      | panicked c => exact he.elim
      | outgrown => exact (LetsOut_NoQ he).elim
    case row row args =>
      obtain ⟨v, w'', hv, _⟩ := h default []
      exact ⟨_, _, hv⟩
  | halt y w' =>
    cases y <;> simp only [Oper.upon] at h
    case panic u => exact h.elim

/-- a slot that an operation does not look at may be filled ahead of it -/
theorem wp_push {x : Oper} (hsx : ∀ cs b, x.op ≠ .select cs b) {dst : Option Tmp} {v : Value} (hd : ∀ d, dst = some d → d ∉ x.looksAt ops) (hne : ∀ d, dst = some d → x.dst ≠ some d)
    {K : Act → World → Prop} {a : Act} {w : World} (h : x.wp P a w (fun a1 w1 => K (a1.put dst v) w1) NoQ) : x.wp P (a.put dst v) w K NoQ := by
  unfold Oper.wp at *
  rw [execOp_put (ops := ops) x hsx a dst v hd]
  generalize (execOp a.eval x).run P w = r at *
  have k0 : ∀ u, (a.put x.dst u).put dst v = (a.put dst v).put x.dst u := fun u => (Act.put_comm a v u hne).symm
  cases r with
  | ok n w' =>
    cases n <;> simp only [Oper.upon] at h ⊢
    case value u => rw [← k0]; exact h
    case skip => rw [← k0]; exact h
    case defer d =>
      rw [Act.put_defers, ← Act.put_comm _ v undef hne] at *
      exact h
    case enter f args =>
      refine Calls.mono h fun e w'' he => ?_
      cases e with
      | returned u => simp only [k0] at he; exact he
      | panicked c => exact he
      | outgrown => exact he
    case row row args => exact Rows.mono h fun u w'' he => by simp only [k0] at he; exact he
  | halt y w' =>
    cases y <;> simp only [Oper.upon] at h ⊢
    case panic u => exact h

theorem wp_pull {x : Oper} (hsx : ∀ cs b, x.op ≠ .select cs b) {dst : Option Tmp} {v : Value} (hd : ∀ d, dst = some d → d ∉ x.looksAt ops) (hne : ∀ d, dst = some d → x.dst ≠ some d)
    {K : Act → World → Prop} {a : Act} {w : World} (h : x.wp P (a.put dst v) w K NoQ) : x.wp P a w (fun a1 w1 => K (a1.put dst v) w1) NoQ := by
  unfold Oper.wp at *
  rw [execOp_put (ops := ops) x hsx a dst v hd] at h
  generalize (execOp a.eval x).run P w = r at *
  have k0 : ∀ u, (a.put x.dst u).put dst v = (a.put dst v).put x.dst u := fun u => (Act.put_comm a v u hne).symm
  cases r with
  | ok n w' =>
    cases n <;> simp only [Oper.upon] at h ⊢
    case value u => rw [k0]; exact h
    case skip => rw [k0]; exact h
    case defer d =>
      rw [Act.put_defers, Act.put_comm _ v undef hne] at h
      exact h
    case enter f args =>
      refine Calls.mono h fun e w'' he => ?_
      cases e with
      | returned u => simp only [k0]; exact he
      | panicked c => exact he
      | outgrown => exact he
    case row row args => exact Rows.mono h fun u w'' he => by simp only [k0]; exact he
  | halt y w' =>
    cases y <;> simp only [Oper.upon] at h ⊢
    case panic u => exact h

/-- where the world may stand behind an operation of this kind -/
def Tg.behind (C : World → Prop) (w : World) : Tg → World → Prop
  | .eff, _ => True
  | .ceff, w2 => C w2
  | _, w2 => w2 = w

theorem stp_front {t : Tg} {x j : Oper} (hsx : ∀ cs b, x.op ≠ .select cs b) (hsj : ∀ cs b, j.op ≠ .select cs b) {v : Value}
    (hxj : ∀ d, x.dst = some d → d ∉ j.looksAt ops) (hne : ∀ d, x.dst = some d → j.dst ≠ some d) (hjx : ∀ d, j.dst = some d → d ∉ x.looksAt ops)
    {K : Act → World → Prop} {a : Act} {w : World} (h : stpW P ops C t j K (a.put x.dst v) w) :
    stpW P ops C t j (fun a2 w2 => Alk ops x a a2 ∧ (Region.wanted j (yielded ops a.tmps) = true → t.behind C w w2) ∧ (Region.wanted j (yielded ops a.tmps) = false → w2 = w) ∧ K (a2.put x.dst v) w2) a w := by
  unfold stpW at *
  rw [wanted_put j a x.dst v hxj] at h
  have ke : execOp (a.put x.dst v).eval j = execOp a.eval j := execOp_put (ops := ops) j hsj a x.dst v hxj
  by_cases hw : Region.wanted j (yielded ops a.tmps) = true
  · rw [if_pos hw] at h ⊢
    have quiet : ∀ D : World → Prop, quietQ P j D K (a.put x.dst v) w → quietQ P j D (fun a2 w2 => Alk ops x a a2 ∧ (Region.wanted j (yielded ops a.tmps) = true → w2 = w) ∧ (Region.wanted j (yielded ops a.tmps) = false → w2 = w) ∧ K (a2.put x.dst v) w2) a w := by
      rintro D ⟨u, h1, h2, h3⟩
      refine ⟨u, fun w' hw' => ?_, h2, Alk.put x hsx a a (Alk.rfl' x a) _ _ hjx, fun _ => rfl, fun _ => rfl, ?_⟩
      · have := h1 w' hw'
        unfold Rv at *
        rw [ke] at this
        exact this
      · rw [← Act.put_comm a v u hne]; exact h3
    cases t with
    | pure => exact quiet _ h
    | read => exact quiet _ h
    | cread => exact quiet _ h
    | eff =>
      refine NoQ_wp_mono ?_ (wp_info (j := x) hsx hjx (wp_pull (ops := ops) hsj hxj hne h))
      rintro a1 w1 ⟨k1, k2⟩
      exact ⟨k1, fun _ => trivial, fun hf => (by rw [hw] at hf; cases hf), k2⟩
    | ceff =>
      refine ⟨h.1, NoQ_wp_mono ?_ (wp_info (j := x) hsx hjx (wp_pull (ops := ops) hsj hxj hne h.2))⟩
      rintro a1 w1 ⟨k1, k2, k3⟩
      exact ⟨k2, k1, fun _ => k2, fun hf => (by rw [hw] at hf; cases hf), k3⟩
  · rw [if_neg hw] at h ⊢
    refine ⟨Alk.put x hsx a a (Alk.rfl' x a) _ _ hjx, fun hf => absurd hf hw, fun _ => rfl, ?_⟩
    rw [← Act.put_comm a v undef hne]; exact h

def Tg.quiet : Tg → Bool
  | .pure | .read | .cread => true
  | _ => false
/-- may x (first in the named order) and j change places? -/
def Tg.compat : Tg → Tg → Bool
  | .pure, _ => true
  | _, .pure => true
  | .read, .read | .read, .cread | .cread, .read | .cread, .cread => true
  | .cread, .ceff | .ceff, .cread => true
  | _, _ => false

theorem Rv_inj {o : Oper} {a : Act} {u v : Value} {w : World} (h : Rv P o a u w) (k : Rv P o a v w) : u = v := by
  unfold Rv at *
  rw [h] at k
  cases k
  rfl
theorem Rv_alk {o : Oper} {a a2 : Act} (h : Alk ops o a a2) {v : Value} {w : World} : Rv P o a2 v w ↔ Rv P o a v w := by
  unfold Rv
  rw [h.1]

/-- an operation of quiet kind, ahead of which an effect stood -/
theorem swap_eff {x j : Oper} (hsx : ∀ cs b, x.op ≠ .select cs b) (hsj : ∀ cs b, j.op ≠ .select cs b)
    (hxj : ∀ d, x.dst = some d → d ∉ j.looksAt ops) (hne : ∀ d, x.dst = some d → j.dst ≠ some d) (hjx : ∀ d, j.dst = some d → d ∉ x.looksAt ops)
    (D : World → Prop) {K : Act → World → Prop} {a : Act} {w : World} (hD : D w)
    (h : x.wp P a w (fun a1 w1 => D w1 ∧ if Region.wanted j (yielded ops a1.tmps) then quietQ P j D K a1 w1 else K (a1.put j.dst undef) w1) NoQ) :
    if Region.wanted j (yielded ops a.tmps) then quietQ P j D (fun a2 w2 => Alk ops x a a2 ∧ w2 = w ∧ x.wp P a2 w2 (fun a3 w3 => D w3 ∧ K a3 w3) NoQ) a w
    else Alk ops x a (a.put j.dst undef) ∧ x.wp P (a.put j.dst undef) w (fun a3 w3 => D w3 ∧ K a3 w3) NoQ := by
  have h1 := wp_info (ops := ops) (j := j) hsj hxj h
  have hne' : ∀ d, j.dst = some d → x.dst ≠ some d := fun d hd hx => hne d hx hd
  by_cases hw : Region.wanted j (yielded ops a.tmps) = true
  · rw [if_pos hw]
    obtain ⟨a1, w1, hk, hDw1, hq⟩ := wp_some h1
    rw [hk.2, if_pos hw] at hq
    obtain ⟨v, hv, _, _⟩ := hq
    have hva : ∀ w', D w' → Rv P j a v w' := fun w' hw' => (Rv_alk hk).1 (hv w' hw')
    refine ⟨v, hva, hD, Alk.put x hsx a a (Alk.rfl' x a) _ _ hjx, rfl, ?_⟩
    refine wp_push (ops := ops) hsx hjx hne' (NoQ_wp_mono ?_ h1)
    rintro a3 w3 ⟨k1, k2, k3⟩
    rw [k1.2, if_pos hw] at k3
    obtain ⟨u, hu, _, hK⟩ := k3
    have : u = v := Rv_inj ((Rv_alk k1).1 (hu w hD)) (hva w hD)
    subst this
    exact ⟨k2, hK⟩
  · rw [if_neg hw]
    refine ⟨Alk.put x hsx a a (Alk.rfl' x a) _ _ hjx, wp_push (ops := ops) hsx hjx hne' (NoQ_wp_mono ?_ h1)⟩
    rintro a3 w3 ⟨k1, k2, k3⟩
    rw [k1.2, if_neg hw] at k3
    exact ⟨k2, k3⟩

theorem swap {tx tj : Tg} (hc : Tg.compat tx tj = true) {x j : Oper} (hsx : ∀ cs b, x.op ≠ .select cs b) (hsj : ∀ cs b, j.op ≠ .select cs b)
    (hxj : ∀ d, x.dst = some d → d ∉ j.looksAt ops) (hne : ∀ d, x.dst = some d → j.dst ≠ some d) (hjx : ∀ d, j.dst = some d → d ∉ x.looksAt ops)
    {K : Act → World → Prop} {a : Act} {w : World} (h : stpW P ops C tx x (stpW P ops C tj j K) a w) :
    stpW P ops C tj j (stpW P ops C tx x K) a w := by
  have hne' : ∀ d, j.dst = some d → x.dst ≠ some d := fun d hd hx => hne d hx hd
  have mono : ∀ {t : Tg} {o : Oper} {K K' : Act → World → Prop} {a : Act} {w : World}, (∀ a w, K a w → K' a w) → stpW P ops C t o K a w → stpW P ops C t o K' a w := by
    intro t o K K' a w hk hh
    unfold stpW at *
    split
    · rename_i hw
      rw [if_pos hw] at hh
      cases t with
      | eff => exact NoQ_wp_mono hk hh
      | ceff => exact ⟨hh.1, NoQ_wp_mono (fun a w ⟨p, q⟩ => ⟨p, hk a w q⟩) hh.2⟩
      | pure => obtain ⟨v, h1, h2, h3⟩ := hh; exact ⟨v, h1, h2, hk _ _ h3⟩
      | read => obtain ⟨v, h1, h2, h3⟩ := hh; exact ⟨v, h1, h2, hk _ _ h3⟩
      | cread => obtain ⟨v, h1, h2, h3⟩ := hh; exact ⟨v, h1, h2, hk _ _ h3⟩
    · rename_i hw
      rw [if_neg hw] at hh
      exact hk _ _ hh
  by_cases hwx : Region.wanted x (yielded ops a.tmps) = true
  · have h' := h
    unfold stpW at h'
    rw [if_pos hwx] at h'
    -- x quiet
    have quietx : ∀ D : World → Prop, (∀ w2, (if Region.wanted j (yielded ops a.tmps) then tj.behind C w w2 else w2 = w) → D w2 ∧ ∀ w', tx.cls C w2 w' → D w') → (∀ K' a' w', stp P C tx x K' a' w' = quietQ P x (tx.cls C w') K' a' w') → (D w → ∀ w2, D w2 → tx.cls C w2 w2) →
        quietQ P x D (stpW P ops C tj j K) a w → stpW P ops C tj j (stpW P ops C tx x K) a w := by
      intro D hD hstp hcls ⟨v, h1, h2, h3⟩
      refine mono ?_ (stp_front (v := v) hsx hsj hxj hne hjx h3)
      rintro a2 w2 ⟨k1, k2, k2', k3⟩
      have hd : if Region.wanted j (yielded ops a.tmps) then tj.behind C w w2 else w2 = w := by
        split
        · rename_i hw; exact k2 hw
        · rename_i hw; exact k2' (by simpa using hw)
      unfold stpW
      rw [k1.2, if_pos hwx, hstp]
      exact ⟨v, fun w' hw' => (Rv_alk k1).2 (h1 w' ((hD w2 hd).2 w' hw')), hcls h2 w2 (hD w2 hd).1, k3⟩
    cases tx with
    | pure => exact quietx (fun _ => True) (fun _ _ => ⟨trivial, fun _ _ => trivial⟩) (fun _ _ _ => rfl) (fun _ _ _ => trivial) h'
    | read =>
      have hq : tj.quiet = true := by cases tj <;> first | rfl | cases hc
      refine quietx (fun w' => w' = w) (fun w2 hw2 => ?_) (fun _ _ _ => rfl) (fun _ w2 _ => rfl) h'
      have e : w2 = w := by
        split at hw2
        · cases tj <;> first | exact hw2 | cases hq
        · exact hw2
      subst e
      exact ⟨rfl, fun w' hw' => hw'⟩
    | cread =>
      obtain ⟨v0, q1, q2, q3⟩ := h'
      refine quietx C (fun w2 hw2 => ⟨?_, fun w' hw' => hw'⟩) (fun _ _ _ => rfl) (fun _ w2 hw2 => hw2) ⟨v0, q1, q2, q3⟩
      split at hw2
      · cases tj <;> first | (cases hw2; exact q2) | exact hw2 | cases hc
      · subst hw2; exact q2
    | eff =>
      have hj : tj = .pure := by cases tj <;> first | rfl | cases hc
      subst hj
      have h2 := swap_eff (ops := ops) hsx hsj hxj hne hjx (fun _ => True) trivial (NoQ_wp_mono (fun a1 w1 k => ⟨trivial, k⟩) h')
      unfold stpW
      by_cases hw : Region.wanted j (yielded ops a.tmps) = true
      · rw [if_pos hw] at h2 ⊢
        obtain ⟨v, r1, r2, r3, r4, r5⟩ := h2
        refine ⟨v, r1, r2, ?_⟩
        dsimp only
        rw [if_pos (by rw [r3.2]; exact hwx)]
        exact NoQ_wp_mono (fun _ _ k => k.2) r5
      · rw [if_neg hw] at h2 ⊢
        rw [if_pos (by rw [h2.1.2]; exact hwx)]
        exact NoQ_wp_mono (fun _ _ k => k.2) h2.2
    | ceff =>
      have hj : tj = .pure ∨ tj = .cread := by cases tj <;> first | exact .inl rfl | exact .inr rfl | cases hc
      rcases hj with rfl | rfl
      · have h2 := swap_eff (ops := ops) (K := fun a w => C w ∧ K a w) hsx hsj hxj hne hjx (fun _ => True) trivial (NoQ_wp_mono (K' := fun a1 w1 => True ∧ if Region.wanted j (yielded ops a1.tmps) then quietQ P j (fun _ => True) (fun a w => C w ∧ K a w) a1 w1 else C w1 ∧ K (a1.put j.dst undef) w1) (fun a1 w1 ⟨c, k⟩ => ⟨trivial, by
          dsimp only at k
          split
          · rename_i hw; rw [if_pos hw] at k; obtain ⟨v, r1, r2, r3⟩ := k; exact ⟨v, r1, r2, c, r3⟩
          · rename_i hw; rw [if_neg hw] at k; exact ⟨c, k⟩⟩) h'.2)
        unfold stpW
        by_cases hw : Region.wanted j (yielded ops a.tmps) = true
        · rw [if_pos hw] at h2 ⊢
          obtain ⟨v, r1, r2, r3, r4, r5⟩ := h2
          refine ⟨v, r1, r2, ?_⟩
          dsimp only
          rw [if_pos (by rw [r3.2]; exact hwx)]
          exact ⟨h'.1, NoQ_wp_mono (fun _ _ k => k.2) r5⟩
        · rw [if_neg hw] at h2 ⊢
          rw [if_pos (by rw [h2.1.2]; exact hwx)]
          exact ⟨h'.1, NoQ_wp_mono (fun _ _ k => k.2) h2.2⟩
      · have h2 := swap_eff (ops := ops) (K := K) hsx hsj hxj hne hjx C h'.1 h'.2
        unfold stpW
        by_cases hw : Region.wanted j (yielded ops a.tmps) = true
        · rw [if_pos hw] at h2 ⊢
          obtain ⟨v, r1, r2, r3, r4, r5⟩ := h2
          refine ⟨v, r1, r2, ?_⟩
          dsimp only
          rw [if_pos (by rw [r3.2]; exact hwx)]
          exact ⟨h'.1, r5⟩
        · rw [if_neg hw] at h2 ⊢
          rw [if_pos (by rw [h2.1.2]; exact hwx)]
          exact ⟨h'.1, h2.2⟩
  · have h' := h
    unfold stpW at h'
    rw [if_neg hwx] at h'
    refine mono ?_ (stp_front (v := undef) hsx hsj hxj hne hjx h')
    rintro a2 w2 ⟨k1, k2, k2', k3⟩
    unfold stpW
    rw [k1.2, if_neg hwx]
    exact k3

theorem stpW_mono {t : Tg} {o : Oper} {K K' : Act → World → Prop} {a : Act} {w : World} (hk : ∀ a w, K a w → K' a w) (hh : stpW P ops C t o K a w) : stpW P ops C t o K' a w := by
  unfold stpW at *
  split
  · rename_i hw
    rw [if_pos hw] at hh
    cases t with
    | eff => exact NoQ_wp_mono hk hh
    | ceff => exact ⟨hh.1, NoQ_wp_mono (fun a w ⟨p, q⟩ => ⟨p, hk a w q⟩) hh.2⟩
    | pure => obtain ⟨v, h1, h2, h3⟩ := hh; exact ⟨v, h1, h2, hk _ _ h3⟩
    | read => obtain ⟨v, h1, h2, h3⟩ := hh; exact ⟨v, h1, h2, hk _ _ h3⟩
    | cread => obtain ⟨v, h1, h2, h3⟩ := hh; exact ⟨v, h1, h2, hk _ _ h3⟩
  · rename_i hw
    rw [if_neg hw] at hh
    exact hk _ _ hh

/-- may the two, in whichever order? -/
def pairOk (ops : Array Oper) (tag : Nat → Tg) (x j : Nat) : Bool :=
  match ops[x]?, ops[j]? with
  | some ox, some oj => Tg.compat (tag x) (tag j) && ox.apart ops oj
  | _, _ => true

theorem front {tag : Nat → Tg} {Q : Act → World → Prop} (hsel : ∀ (i : Nat) (o : Oper) cs b, ops[i]? = some o → o.op ≠ .select cs b) {j : Nat} {oj : Oper} (hj : ops[j]? = some oj) :
    ∀ (A B : List Nat), (∀ x ∈ A, pairOk ops tag x j = true) → ∀ a w, tq P ops C tag Q (A ++ j :: B) a w → stpW P ops C (tag j) oj (tq P ops C tag Q (A ++ B)) a w := by
  intro A
  induction A with
  | nil => intro B _ a w h; simpa [tq, hj] using h
  | cons x A ih =>
    intro B hA a w h
    have hx := hA x (by simp)
    have hA' : ∀ y ∈ A, pairOk ops tag y j = true := fun y hy => hA y (by simp [hy])
    simp only [List.cons_append] at h ⊢
    cases hox : ops[x]? with
    | none =>
      have h1 : tq P ops C tag Q (A ++ j :: B) a w := by simpa [tq, hox] using h
      have e : tq P ops C tag Q (x :: (A ++ B)) = tq P ops C tag Q (A ++ B) := by funext a w; simp [tq, hox]
      rw [e]
      exact ih B hA' a w h1
    | some ox =>
      have h1 : stpW P ops C (tag x) ox (tq P ops C tag Q (A ++ j :: B)) a w := by simpa [tq, hox] using h
      have h2 : stpW P ops C (tag x) ox (stpW P ops C (tag j) oj (tq P ops C tag Q (A ++ B))) a w := stpW_mono (fun a w k => ih B hA' a w k) h1
      simp only [pairOk, hox, hj, Bool.and_eq_true] at hx
      obtain ⟨p1, p2, p3⟩ := Oper.apart_spec hx.2
      have e : tq P ops C tag Q (x :: (A ++ B)) = stpW P ops C (tag x) ox (tq P ops C tag Q (A ++ B)) := by funext a w; simp [tq, hox]
      rw [e]
      exact swap hx.1 (fun cs b => hsel x ox cs b hox) (fun cs b => hsel j oj cs b hj) p1 p2 p3 h2

/-- j waits for x, over edges -/
inductive Reach (ops : Array Oper) (x : Nat) : Nat → Prop where
  | one {j : Nat} {o : Oper} {e : Edge} (ho : ops[j]? = some o) (he : e ∈ o.after) (hb : Region.binds .any e = true) (hx : e.on = x) : Reach ops x j
  | more {j : Nat} {o : Oper} {e : Edge} (ho : ops[j]? = some o) (he : e ∈ o.after) (hb : Region.binds .any e = true) (h : Reach ops x e.on) : Reach ops x j

theorem mask_spec (acc : Array Nat) (es : Array Edge) (x : Nat) (h : (es.foldl (fun s e => if Region.binds .any e then s ||| 2 ^ e.on ||| acc.getD e.on 0 else s) 0).testBit x = true) :
    ∃ e ∈ es, Region.binds .any e = true ∧ (e.on = x ∨ (acc.getD e.on 0).testBit x = true) := by
  have := Array.foldl_induction (as := es) (motive := fun _ (s : Nat) => s.testBit x = true → ∃ e ∈ es, Region.binds .any e = true ∧ (e.on = x ∨ (acc.getD e.on 0).testBit x = true)) (init := 0) (by simp)
    (f := fun s e => if Region.binds .any e then s ||| 2 ^ e.on ||| acc.getD e.on 0 else s) (by
      intro i s ih hs
      split at hs
      · rename_i hb
        simp only [Nat.testBit_or, Bool.or_eq_true] at hs
        rcases hs with (hs | hs) | hs
        · exact ih hs
        · rw [Nat.testBit_two_pow] at hs
          exact ⟨es[i], Array.getElem_mem _, hb, .inl (by simpa using hs)⟩
        · exact ⟨es[i], Array.getElem_mem _, hb, .inr hs⟩
      · exact ih hs)
  exact this h
theorem before_spec (ops : Array Oper) (x j : Nat) (h : ((Region.before ops).getD j 0).testBit x = true) : Reach ops x j := by
  have := Array.foldl_induction (as := ops) (motive := fun k (acc : Array Nat) => acc.size = k ∧ ∀ i, (acc.getD i 0).testBit x = true → Reach ops x i) (init := #[]) (by simp)
    (f := fun acc o => acc.push (o.after.foldl (fun s e => if Region.binds .any e then s ||| 2 ^ e.on ||| acc.getD e.on 0 else s) 0)) (by
      intro i acc ⟨hs, ih⟩
      refine ⟨by simp [hs], fun k hk => ?_⟩
      by_cases hki : k < acc.size
      · refine ih k ?_
        simp only [Array.getD_eq_getD_getElem?, Array.getElem?_push] at hk ⊢
        rw [if_neg (by omega)] at hk
        exact hk
      · by_cases hke : k = acc.size
        · subst hke
          simp only [Array.getD_eq_getD_getElem?, Array.getElem?_push, if_true, Option.getD_some] at hk
          obtain ⟨e, he, hb, h1⟩ := mask_spec acc _ x (by simpa using hk)
          have ho : ops[acc.size]? = some ops[i] := by rw [hs]; exact Array.getElem?_eq_getElem i.2
          rcases h1 with h1 | h1
          · exact .one ho he hb h1
          · exact .more ho he hb (ih _ h1)
        · simp only [Array.getD_eq_getD_getElem?, Array.getElem?_push] at hk
          rw [if_neg hke, Array.getElem?_eq_none (by omega)] at hk
          simp at hk)
  exact this.2 j h

def Closed (ops : Array Oper) (listed : Array Bool) : Prop :=
  ∀ (j : Nat) (o : Oper), ops[j]? = some o → listed.getD j false = true → ∀ e ∈ o.after, Region.binds .any e = true → listed.getD e.on false = true

theorem waits_listed {listed : Array Bool} (hc : Closed ops listed) {x j : Nat} (hr : Reach ops x j) : (∀ o, ops[j]? = some o → ∀ e ∈ o.after, Region.binds .any e = true → listed.getD e.on false = true) → listed.getD x false = true := by
  induction hr with
  | one ho he hb hx => intro hj; rw [← hx]; exact hj _ ho _ he hb
  | more ho he hb h ih => intro hj; exact ih fun o' ho' => hc _ o' ho' (hj _ ho _ he hb)

/-- Each stands behind all that it waits for. -/
def topoOk (ops : Array Oper) : List Nat → List Nat → Bool
  | _, [] => true
  | s, j :: r => (match ops[j]? with
      | some o => o.after.all fun e => !Region.binds .any e || s.contains e.on
      | none => true) && topoOk ops (j :: s) r

theorem topo_spec : ∀ (A : List Nat) (s : List Nat) (j : Nat) (B : List Nat), topoOk ops s (A ++ j :: B) = true → ∀ o, ops[j]? = some o → ∀ e ∈ o.after, Region.binds .any e = true → e.on ∈ s ∨ e.on ∈ A := by
  intro A
  induction A with
  | nil =>
    intro s j B h o ho e he hb
    simp only [List.nil_append, topoOk, ho, Bool.and_eq_true, Array.all_eq_true_iff_forall_mem] at h
    have := h.1 e he
    simp [hb] at this
    exact .inl this
  | cons x A ih =>
    intro s j B h o ho e he hb
    simp only [List.cons_append, topoOk, Bool.and_eq_true] at h
    rcases ih (x :: s) j B h.2 o ho e he hb with h1 | h1
    · rcases List.mem_cons.1 h1 with rfl | h1
      · exact .inr (by simp)
      · exact .inl h1
    · exact .inr (by simp [h1])

/-- The look: the order names each once; whoever stands ahead of another one in it may change places with it, or the later one waits for it. -/
def noDup : List Nat → Bool
  | [] => true
  | x :: r => !r.contains x && noDup r
theorem noDup_spec : ∀ l : List Nat, noDup l = true → l.Nodup
  | [], _ => List.nodup_nil
  | x :: r, h => by
    simp only [noDup, Bool.and_eq_true, Bool.not_eq_true'] at h
    exact List.nodup_cons.2 ⟨by simpa using h.1, noDup_spec r h.2⟩
def tqOk (ops : Array Oper) (tag : Nat → Tg) (l M : List Nat) : Bool :=
  l.all (fun i => decide (i < ops.size)) && (List.range ops.size).all (fun i => l.contains i) && noDup l && Region.noSelect ops && topoOk ops [] l && (Region.before ops).toList == M && go M l
where go (M : List Nat) : List Nat → Bool
  | [] => true
  | x :: r => r.all (fun j => pairOk ops tag x j || (M.getD j 0).testBit x) && go M r

theorem go_spec {tag : Nat → Tg} {M : List Nat} : ∀ (l : List Nat), tqOk.go ops tag M l = true → ∀ (A : List Nat) (j : Nat) (B : List Nat), l = A ++ j :: B → ∀ x ∈ A, pairOk ops tag x j = true ∨ (M.getD j 0).testBit x = true := by
  intro l
  induction l with
  | nil => intro _ A j B h; simp at h
  | cons y r ih =>
    intro h A j B e x hx
    simp only [tqOk.go, Bool.and_eq_true, List.all_eq_true] at h
    cases A with
    | nil => simp at hx
    | cons z A =>
      simp only [List.cons_append, List.cons.injEq] at e
      obtain ⟨rfl, rfl⟩ := e
      rcases List.mem_cons.1 hx with rfl | hx
      · have := h.1 j (by simp)
        rw [Bool.or_eq_true] at this
        exact this
      · exact ih h.2 A j B rfl x hx

theorem wpAny_of_tq {tag : Nat → Tg} {Q : Exit → Act → World → Prop} (hsel : ∀ (i : Nat) (o : Oper) cs b, ops[i]? = some o → o.op ≠ .select cs b)
    {l M : List Nat} (hM : (Region.before ops).toList = M) (hgo : tqOk.go ops tag M l = true) (hall : ∀ i, i < ops.size → i ∈ l) (hlt : ∀ i ∈ l, i < ops.size) (hnd : l.Nodup) (htopo : topoOk ops [] l = true) :
    ∀ (n : Nat) (listed : Array Bool) (a : Act) (w : World), (l.filter fun i => !listed.getD i true).length = n → Closed ops listed → listed.size = ops.size →
      tq P ops C tag (Q .normal) (l.filter fun i => !listed.getD i true) a w → wpAny P .any ops Q n listed a w := by
  intro n
  induction n with
  | zero =>
    intro listed a w hn hc hsz h
    have e : (l.filter fun i => !listed.getD i true) = [] := List.length_eq_zero_iff.1 hn
    rw [e] at h
    refine ⟨?_, h⟩
    cases hr : Region.ready .any ops listed with
    | nil => rfl
    | cons j r =>
      have hj : j ∈ Region.ready .any ops listed := by rw [hr]; simp
      obtain ⟨h0, o, ho, _⟩ := mem_ready.1 hj
      have : j ∈ (l.filter fun i => !listed.getD i true) := List.mem_filter.2 ⟨hall j (Array.getElem?_eq_some_iff.1 ho).1, by rw [h0]; rfl⟩
      rw [e] at this
      cases this
  | succ n ih =>
    intro listed a w hn hc hsz h
    have step : ∀ j ∈ Region.ready .any ops listed, wpOp P ops Q j (wpAny P .any ops Q n (listed.setIfInBounds j true)) a w := by
      intro j hj
      obtain ⟨h0, oj, hoj, hall'⟩ := mem_ready.1 hj
      have hjs : j < ops.size := (Array.getElem?_eq_some_iff.1 hoj).1
      have hjl : j ∈ l := hall j hjs
      obtain ⟨A, B, hAB⟩ := List.append_of_mem hjl
      have hf : (l.filter fun i => !listed.getD i true) = (A.filter fun i => !listed.getD i true) ++ j :: (B.filter fun i => !listed.getD i true) := by
        rw [hAB, List.filter_append, List.filter_cons, if_pos (by rw [h0]; rfl)]
      rw [hf] at h hn
      have hpairs : ∀ x ∈ A.filter fun i => !listed.getD i true, pairOk ops tag x j = true := by
        intro x hx
        obtain ⟨hxA, hxl⟩ := List.mem_filter.1 hx
        refine (go_spec l hgo A j B hAB x hxA).resolve_right fun hw => ?_
        have hre : Reach ops x j := before_spec ops x j (by rw [← hM] at hw; simpa using hw)
        have h1 := waits_listed hc hre (fun o ho e he hb => by rw [hoj] at ho; cases ho; exact hall' e he hb)
        have h2 : listed.getD x true = false := by simpa using hxl
        rcases Nat.lt_or_ge x listed.size with h' | h'
        · simp [h'] at h1 h2; rw [h1] at h2; cases h2
        · simp [Array.getElem?_eq_none h'] at h1
      have hfr := front (P := P) (C := C) (Q := Q .normal) hsel hoj _ _ hpairs a w h
      have hlist : (l.filter fun i => !(listed.setIfInBounds j true).getD i true) = (A.filter fun i => !listed.getD i true) ++ (B.filter fun i => !listed.getD i true) := by
        have hnj : j ∉ A ∧ j ∉ B := by
          rw [hAB] at hnd
          have := List.nodup_append.1 hnd
          refine ⟨fun hA => this.2.2 j hA j (by simp) rfl, ?_⟩
          exact (List.nodup_cons.1 this.2.1).1
        rw [hAB, List.filter_append, List.filter_cons, if_neg (by
          have hlt : j < listed.size := by rw [hsz]; exact hjs
          simp [hlt])]
        congr 1
        · refine List.filter_congr fun i hi => ?_
          rw [getD_set_ne true (fun e : j = i => hnj.1 (e ▸ hi))]
        · refine List.filter_congr fun i hi => ?_
          rw [getD_set_ne true (fun e : j = i => hnj.2 (e ▸ hi))]
      have hclosed : Closed ops (listed.setIfInBounds j true) := by
        intro k ok hok hk e he hb
        by_cases hjk : j = k
        · subst hjk
          rw [hoj] at hok
          cases hok
          exact getD_set_true (hall' e he hb)
        · rw [getD_set_ne false hjk] at hk
          exact getD_set_true (hc k ok hok hk e he hb)
      have next : ∀ a w, tq P ops C tag (Q .normal) ((A.filter fun i => !listed.getD i true) ++ (B.filter fun i => !listed.getD i true)) a w → wpAny P .any ops Q n (listed.setIfInBounds j true) a w := by
        intro a w k
        refine ih _ a w ?_ hclosed (by simp [hsz]) (by rw [hlist]; exact k)
        rw [hlist]
        simp only [List.length_append, List.length_cons] at hn ⊢
        omega
      unfold wpOp
      rw [hoj]
      show if Region.wanted oj (yielded ops a.tmps) = true then _ else _
      unfold stpW at hfr
      by_cases hw : Region.wanted oj (yielded ops a.tmps) = true
      · rw [if_pos hw] at hfr ⊢
        left
        have quiet : ∀ D : World → Prop, quietQ P oj D (tq P ops C tag (Q .normal) ((A.filter fun i => !listed.getD i true) ++ (B.filter fun i => !listed.getD i true))) a w → oj.wp P a w (wpAny P .any ops Q n (listed.setIfInBounds j true)) Q := by
          rintro D ⟨v, r1, r2, r3⟩
          have := r1 w r2
          unfold Rv at this
          unfold Oper.wp
          rw [this]
          exact next _ _ r3
        have any : ∀ {K : Act → World → Prop}, oj.wp P a w K NoQ → oj.wp P a w K Q := by
          intro K hh
          unfold Oper.wp at *
          generalize (execOp a.eval oj).run P w = r at *
          cases r with
          | ok m w' =>
            cases m <;> simp only [Oper.upon] at hh ⊢ <;> try exact hh
            case enter f args =>
              refine Calls.mono hh fun e w'' he => ?_
              cases e with
              | returned u => exact he
              | panicked c => exact he.elim
              | outgrown => exact (LetsOut_NoQ he).elim
          | halt y w' =>
            cases y <;> simp only [Oper.upon] at hh ⊢
            case panic u => exact hh.elim
        cases ht : tag j with
        | pure => rw [ht] at hfr; exact quiet _ hfr
        | read => rw [ht] at hfr; exact quiet _ hfr
        | cread => rw [ht] at hfr; exact quiet _ hfr
        | eff => rw [ht] at hfr; exact Oper.wp_mono next (any hfr)
        | ceff => rw [ht] at hfr; exact Oper.wp_mono (fun a w k => next a w k.2) (any hfr.2)
      · rw [if_neg hw] at hfr ⊢
        exact next _ _ hfr
    refine ⟨fun hr => ?_, step⟩
    -- nothing is ready, but something is left: the first in the order waits for nobody that is left
    exfalso
    cases hf : l.filter fun i => !listed.getD i true with
    | nil => rw [hf] at hn; cases hn
    | cons j r =>
      obtain ⟨A, B, hAB, hA, hj, _⟩ := List.filter_eq_cons_iff.1 hf
      have hjs : j < ops.size := hlt j (by rw [hAB]; simp)
      have hoj := Array.getElem?_eq_getElem hjs
      have : j ∈ Region.ready .any ops listed := by
        refine mem_ready.2 ⟨by simpa using hj, _, hoj, fun e he hb => ?_⟩
        rcases topo_spec A [] j B (by rw [← hAB]; exact htopo) _ hoj e he hb with h1 | h1
        · cases h1
        · have h2 := hA e.on h1
          have h3 : e.on < listed.size := by rw [hsz]; exact hlt e.on (by rw [hAB]; simp [h1])
          simp [h3] at h2 ⊢
          exact h2
      rw [hr] at this
      cases this

section steps
variable {tag : Nat → Tg} {Q : Act → World → Prop} {i : Nat} {rest : List Nat} {o : Oper} {a : Act} {w : World}
theorem tq_nil (h : Q a w) : tq P ops C tag Q [] a w := h
theorem tq_skip (ho : ops[i]? = some o) (hw : Region.wanted o (yielded ops a.tmps) = false) (h : tq P ops C tag Q rest (a.put o.dst undef) w) : tq P ops C tag Q (i :: rest) a w := by
  simp only [tq, ho, stpW, hw]; exact h
theorem tq_move (ho : ops[i]? = some o) (ht : tag i = .pure) (hw : Region.wanted o (yielded ops a.tmps) = true) (x : Operand) (hop : o.op = .move x) (h : tq P ops C tag Q rest (a.put o.dst (a.eval x)) w) : tq P ops C tag Q (i :: rest) a w := by
  simp only [tq, ho, stpW, hw, ht, stp, if_true]
  exact ⟨_, fun w' _ => by unfold Rv execOp; rw [hop]; rfl, trivial, h⟩
theorem tq_assign (ho : ops[i]? = some o) (ht : tag i = .pure) (hw : Region.wanted o (yielded ops a.tmps) = true) (x : Operand) (hop : o.op = .assign x) (h : tq P ops C tag Q rest (a.put o.dst (a.eval x)) w) : tq P ops C tag Q (i :: rest) a w := by
  simp only [tq, ho, stpW, hw, ht, stp, if_true]
  exact ⟨_, fun w' _ => by unfold Rv execOp; rw [hop]; rfl, trivial, h⟩
/-- a pure operation: one value in every world -/
theorem tq_pure (ho : ops[i]? = some o) (ht : tag i = .pure) (hw : Region.wanted o (yielded ops a.tmps) = true)
    (h : ∀ K : Act → World → Prop, (∀ a w, tq P ops C tag Q rest a w → K a w) → ∃ v, (∀ w', (execOp a.eval o).run P w' = .ok (.value v) w') ∧ K (a.put o.dst v) w) : tq P ops C tag Q (i :: rest) a w := by
  obtain ⟨v, h1, h2⟩ := h _ (fun _ _ k => k)
  simp only [tq, ho, stpW, hw, ht, stp, if_true]
  exact ⟨v, fun w' _ => h1 w', trivial, h2⟩
/-- one value in this world -/
theorem tq_read (ho : ops[i]? = some o) (ht : tag i = .read) (hw : Region.wanted o (yielded ops a.tmps) = true)
    (h : ∀ K : Act → World → Prop, (∀ a w, tq P ops C tag Q rest a w → K a w) → ∃ v, (execOp a.eval o).run P w = .ok (.value v) w ∧ K (a.put o.dst v) w) : tq P ops C tag Q (i :: rest) a w := by
  obtain ⟨v, h1, h2⟩ := h _ (fun _ _ k => k)
  simp only [tq, ho, stpW, hw, ht, stp, if_true]
  refine ⟨v, fun w' hw' => ?_, rfl, h2⟩
  have : w' = w := hw'
  subst this
  exact h1
/-- one value in every world of C -/
theorem tq_cread (ho : ops[i]? = some o) (ht : tag i = .cread) (hw : Region.wanted o (yielded ops a.tmps) = true) (hC : C w)
    (h : ∀ K : Act → World → Prop, (∀ a w, tq P ops C tag Q rest a w → K a w) → ∃ v, (∀ w', C w' → (execOp a.eval o).run P w' = .ok (.value v) w') ∧ K (a.put o.dst v) w) : tq P ops C tag Q (i :: rest) a w := by
  obtain ⟨v, h1, h2⟩ := h _ (fun _ _ k => k)
  simp only [tq, ho, stpW, hw, ht, stp, if_true]
  exact ⟨v, h1, hC, h2⟩
/-- only 'normal' -/
def NK (K : Act → World → Prop) : Exit → Act → World → Prop
  | .normal, a, w => K a w
  | _, _, _ => False
theorem LetsOut_NK {K : Act → World → Prop} : ¬ LetsOut (NK K) := fun ⟨_, _, h⟩ => h
theorem wp_of_list {K : Act → World → Prop} (hw : Region.wanted o (yielded ops a.tmps) = true) (h : wpList P ops (NK K) [o] a w) : o.wp P a w K NoQ := by
  simp only [wpList, hw, if_true] at h
  have h := h.resolve_right (fun hh => LetsOut_NK hh.2)
  unfold Oper.wp at *
  generalize (execOp a.eval o).run P w = r at *
  cases r with
  | ok m w' => cases m <;> simp only [Oper.upon] at h ⊢ <;> exact h
  | halt y w' => cases y <;> simp only [Oper.upon] at h ⊢ <;> exact h
/-- whatever: walked as a list of one operation -/
theorem tq_eff (ho : ops[i]? = some o) (ht : tag i = .eff) (hw : Region.wanted o (yielded ops a.tmps) = true)
    (h : ∀ K : Act → World → Prop, (∀ a w, tq P ops C tag Q rest a w → K a w) → wpList P ops (NK K) [o] a w) : tq P ops C tag Q (i :: rest) a w := by
  simp only [tq, ho, stpW, hw, ht, stp, if_true]
  exact wp_of_list hw (h _ (fun _ _ k => k))
/-- whatever, within C -/
theorem tq_ceff (ho : ops[i]? = some o) (ht : tag i = .ceff) (hw : Region.wanted o (yielded ops a.tmps) = true) (hC : C w)
    (h : ∀ K : Act → World → Prop, (∀ a w, C w → tq P ops C tag Q rest a w → K a w) → wpList P ops (NK K) [o] a w) : tq P ops C tag Q (i :: rest) a w := by
  simp only [tq, ho, stpW, hw, ht, stp, if_true]
  exact ⟨hC, wp_of_list hw (h _ (fun _ _ c k => ⟨c, k⟩))⟩

/-! the same steps by the kit's cheap one ('go_big_quiet_op') -/
def noCall : Op → Bool
  | .call { callee := .builtin .len, .. } | .call { callee := .builtin .cap, .. } | .call { callee := .builtin .max, .. } | .call { callee := .builtin .min, .. } => true
  | .call _ | .go _ | .defer _ | .send .. | .recv .. | .select .. | .store .. | .ready _ | .mapUpdate .. | .insert .. | .entryStore .. => false
  | _ => true
def Leafy (s : Sem Next) : Prop := ∀ (P : Program) (w : World) (n : Next) (w' : World), s.run P w = .ok n w' → ∃ v, n = .value v
theorem leaf_pure (v : Value) : Leafy (pure (.value v)) := fun P w n w' h => by
  rw [Sem.run_pure] at h
  cases h
  exact ⟨_, rfl⟩
theorem leaf_bind {α : Type} (s : Sem α) {f : α → Sem Next} (hf : ∀ a, Leafy (f a)) : Leafy (s >>= f) := fun P w n w' h => by
  rw [Sem.run_bind] at h
  cases hs : s.run P w with
  | ok v w1 => rw [hs] at h; exact hf v P w1 n w' h
  | halt x w1 => rw [hs] at h; cases h
theorem leaf_v (s : Sem Value) : Leafy (s >>= fun v => pure (.value v)) := leaf_bind s fun v => leaf_pure v
theorem leaf_nil : Leafy (runtimePanic .nilDeref) := fun P w n w' h => by
  simp [runtimePanic, program, goPanic, Sem.run_bind, Sem.run, Result.andThen] at h
theorem leaf_un (u : Unsupported) : Leafy (unsupported u) := fun P w n w' h => by
  simp [unsupported, Sem.run] at h
theorem leaf_op {o : Oper} (hn : noCall o.op = true) (ρ : Operand → Value) : Leafy (execOp ρ o) := by
  obtain ⟨d, op, ty, pos, af, g⟩ := o
  cases op
  case call c =>
    obtain ⟨cl, as, ats⟩ := c
    cases cl with
    | value f => simp [noCall] at hn
    | invoke r m => simp [noCall] at hn
    | builtin b => cases b <;> first | exact leaf_v _ | (simp [noCall] at hn)
  case nilCheck x =>
    show Leafy (match ρ x with | .pointer none | .nilIface | .nilFunc => _ | .func (.method name) first captured => _ | x => _)
    split
    · exact leaf_nil
    · exact leaf_nil
    · exact leaf_nil
    · split
      · exact leaf_nil
      · refine leaf_bind _ fun p => leaf_bind _ fun r => ?_
        split
        · exact leaf_bind _ fun _ => leaf_pure _
        · exact leaf_pure _
      · exact leaf_pure _
    · exact leaf_pure _
  all_goals first | exact leaf_pure _ | exact leaf_v _ | exact leaf_bind _ (fun _ => leaf_pure _) | (simp [noCall] at hn)

theorem quiet_val {o : Oper} (hn : noCall o.op = true) {a : Act} {D : World → Prop} {v : Value} {w : World} (h : o.quietAt P a D w v) : Rv P o a v w := by
  unfold Oper.quietAt at h
  cases hr : (execOp a.eval o).run P w with
  | ok n w' =>
    rw [hr] at h
    obtain ⟨u, rfl⟩ := leaf_op hn a.eval P w n w' hr
    obtain ⟨e1, e2⟩ : w' = w ∧ u = v := h
    subst e1; subst e2
    exact hr
  | halt x w' => rw [hr] at h; exact h.elim
theorem eq_tt : (true == true) = true := rfl
theorem eq_ff : (false == false) = true := rfl
theorem ne_tf : (true == false) = false := rfl
theorem ne_ft : (false == true) = false := rfl
theorem wanted_none {l : List Oper} (hg : o.guard = none) : Region.wanted o (yielded l.toArray a.tmps) = true := by simp [Region.wanted, hg]
theorem ops_at {l l' : List Oper} {i : Nat} {o : Oper} (h : l.drop i = o :: l') : l.toArray[i]? = some o := by
  have : (l.drop i)[0]? = some o := by rw [h]; rfl
  simpa using this
theorem wanted_is {l l' : List Oper} {j d : Nat} {want v b : Bool} {oj : Oper} (hg : o.guard = some (j, want)) (hoj : l.drop j = oj :: l') (hd : oj.dst = some d) (hv : a.tmps.getD d undef = .bool v) (hb : (v == want) = b) :
    Region.wanted o (yielded l.toArray a.tmps) = b := by
  have h1 : a.tmps[d]? = some (.bool v) := by
    cases h : a.tmps[d]? with
    | none => simp [h, undef] at hv
    | some u => simp [h] at hv; rw [hv]
  simp only [Region.wanted, hg, yielded, ops_at hoj, Option.bind_some, hd, h1]
  rw [← hb]
  cases v <;> cases want <;> rfl
theorem tq_skipq {l l' : List Oper} (ho : l.drop i = o :: l') (hw : Region.wanted o (yielded l.toArray a.tmps) = false) (h : tq P l.toArray C tag Q rest (a.put o.dst undef) w) : tq P l.toArray C tag Q (i :: rest) a w := tq_skip (ops_at ho) hw h
/-- a pure operation, by the kit's step -/
theorem tq_pureq {l l' : List Oper} (ho : l.drop i = o :: l') (ht : tag i = .pure) (hw : Region.wanted o (yielded l.toArray a.tmps) = true) (hn : noCall o.op = true)
    (h : ∀ K : Act → Prop, (∀ a, tq P l.toArray C tag Q rest a w → K a) → o.quiet P a (fun _ => True) K) : tq P l.toArray C tag Q (i :: rest) a w := by
  obtain ⟨v, h1, h2⟩ := h (fun a => tq P l.toArray C tag Q rest a w) (fun _ k => k)
  simp only [tq, ops_at ho, stpW, hw, ht, stp, if_true]
  exact ⟨v, fun w' _ => quiet_val hn (h1 w' trivial), trivial, h2⟩
theorem tq_readq {l l' : List Oper} (ho : l.drop i = o :: l') (ht : tag i = .read) (hw : Region.wanted o (yielded l.toArray a.tmps) = true) (hn : noCall o.op = true)
    (h : ∀ K : Act → Prop, (∀ a, tq P l.toArray C tag Q rest a w → K a) → o.quiet P a (fun w' => w' = w) K) : tq P l.toArray C tag Q (i :: rest) a w := by
  obtain ⟨v, h1, h2⟩ := h (fun a => tq P l.toArray C tag Q rest a w) (fun _ k => k)
  simp only [tq, ops_at ho, stpW, hw, ht, stp, if_true]
  exact ⟨v, fun w' hw' => quiet_val hn (h1 w' hw'), rfl, h2⟩
theorem tq_creadq {l l' : List Oper} (ho : l.drop i = o :: l') (ht : tag i = .cread) (hw : Region.wanted o (yielded l.toArray a.tmps) = true) (hn : noCall o.op = true) (hC : C w)
    (h : ∀ K : Act → Prop, (∀ a, tq P l.toArray C tag Q rest a w → K a) → o.quiet P a C K) : tq P l.toArray C tag Q (i :: rest) a w := by
  obtain ⟨v, h1, h2⟩ := h (fun a => tq P l.toArray C tag Q rest a w) (fun _ k => k)
  simp only [tq, ops_at ho, stpW, hw, ht, stp, if_true]
  exact ⟨v, fun w' hw' => quiet_val hn (h1 w' hw'), hC, h2⟩
/-- what a load gives in every world of C, block by block -/
theorem tq_cload {l l' : List Oper} (ho : l.drop i = o :: l') (ht : tag i = .cread) (hw : Region.wanted o (yielded l.toArray a.tmps) = true) (hC : C w) {t : TypeId} {x : Operand} (hop : o.op = .load t x) {b off : Nat} (hx : a.eval x = .pointer (some ⟨b, off, none⟩)) {v : Value}
    (hv : ∀ w', C w' → (Instr.loadAt t (.pointer (some ⟨b, off, none⟩))).run P w' = .ok v w') (h : tq P l.toArray C tag Q rest (a.put o.dst v) w) : tq P l.toArray C tag Q (i :: rest) a w := by
  simp only [tq, ops_at ho, stpW, hw, ht, stp, if_true]
  refine ⟨v, fun w' hw' => ?_, hC, h⟩
  unfold Rv
  have e : execOp a.eval o = (do pure (.value (← Instr.loadAt t (a.eval x)))) := by
    obtain ⟨d, op, ty, pos, af, g⟩ := o
    simp only at hop
    subst hop
    rfl
  rw [e, hx, Sem.run_bind, hv w' hw']
  rfl
theorem tq_have {l : List Nat} (hC : C w) (h : C w → tq P ops C tag Q l a w) : tq P ops C tag Q l a w := h hC
theorem tq_cloadx {l l' : List Oper} (ho : l.drop i = o :: l') (ht : tag i = .cread) (hw : Region.wanted o (yielded l.toArray a.tmps) = true) (hC : C w) {t : TypeId} {x : Operand} (hop : o.op = .load t x) {b off : Nat} (hx : a.eval x = .pointer (some ⟨b, off, none⟩))
    (h : ∃ v, (∀ w', C w' → (Instr.loadAt t (.pointer (some ⟨b, off, none⟩))).run P w' = .ok v w') ∧ tq P l.toArray C tag Q rest (a.put o.dst v) w) : tq P l.toArray C tag Q (i :: rest) a w :=
  let ⟨_, h1, h2⟩ := h
  tq_cload ho ht hw hC hop hx h1 h2
/-- whatever, within C -/
theorem tq_ceffq {l l' : List Oper} (ho : l.drop i = o :: l') (ht : tag i = .ceff) (hw : Region.wanted o (yielded l.toArray a.tmps) = true) (hC : C w)
    (h : ∀ K : Act → World → Prop, (∀ a w, C w → tq P l.toArray C tag Q rest a w → K a w) → wpList P l.toArray (NK K) [o] a w) : tq P l.toArray C tag Q (i :: rest) a w := tq_ceff (ops_at ho) ht hw hC h
theorem tq_effq {l l' : List Oper} (ho : l.drop i = o :: l') (ht : tag i = .eff) (hw : Region.wanted o (yielded l.toArray a.tmps) = true)
    (h : ∀ K : Act → World → Prop, (∀ a w, tq P l.toArray C tag Q rest a w → K a w) → wpList P l.toArray (NK K) [o] a w) : tq P l.toArray C tag Q (i :: rest) a w := tq_eff (ops_at ho) ht hw h
end steps

/-- A REGION THAT DRAWS ITS ORDER, WALKED IN ONE NAMED ORDER. -/
theorem wp_region_tq {id : Nat} {a : Act} {w : World} {Q : Exit → Act → World → Prop} (tag : Nat → Tg) (l M : List Nat) (hm : P.follows .mixedOrders = true) (hok : tqOk ops tag l M = true)
    (h : tq P ops C tag (Q .normal) l a w.drew) : (Code.region id ops true).wp P Q a w := by
  simp only [tqOk, Bool.and_eq_true, List.all_eq_true, decide_eq_true_eq] at hok
  obtain ⟨⟨⟨⟨⟨⟨h1, h2⟩, h3⟩, h4⟩, h5⟩, hM⟩, h6⟩ := hok
  have hM : (Region.before ops).toList = M := by simpa using hM
  refine wp_region_any hm ?_
  have hall : ∀ i, i < ops.size → i ∈ l := fun i hi => by simpa using h2 i (List.mem_range.2 hi)
  have hf : (l.filter fun i => !(Array.replicate ops.size false).getD i true) = l := by
    refine List.filter_eq_self.2 fun i hi => ?_
    simp [h1 i hi]
  have hlen : l.length = ops.size := by
    have hp : l.Perm (List.range ops.size) := by
      refine (List.perm_ext_iff_of_nodup (noDup_spec l h3) List.nodup_range).2 fun i => ⟨fun hi => List.mem_range.2 (h1 i hi), fun hi => hall i (List.mem_range.1 hi)⟩
    simpa using hp.length_eq
  refine wpAny_of_tq (C := C) (tag := tag) (fun i o cs b ho => Region.noSelect_spec h4 i o cs b ho) hM h6 hall h1 (noDup_spec l h3) h5 ops.size _ a _ (by rw [hf]; exact hlen) ?_ (by simp) (by rw [hf]; exact h)
  intro j o ho hl
  simp only [Array.getD_eq_getD_getElem?, Array.getElem?_replicate] at hl
  split at hl <;> simp at hl

end
attribute [irreducible] tq
end Go.Proofs.Ytgjmnplpefkbhaa
