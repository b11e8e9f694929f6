/-
  Regions that draw their order: what is checked beforehand. (Of no program.)
-/
import Derived.Test.YtknhohgnilamcaaGreatDoorEngT
namespace Go.Proofs.YtknhohgnilamcaaGreatDoor
set_option linter.unusedVariables false
set_option linter.unusedSimpArgs false
set_option linter.unusedSectionVars false
open Go

theorem pbeq {p q : Pos} (h : p.beq q = true) : p = q := by rw [Pos.beq_eq] at h; simpa using h
theorem pbeq_ne {p q : Pos} (h : p.beq q = false) : p ≠ q := by rw [Pos.beq_eq] at h; simpa using h
theorem nbeq {a b : Nat} (h : Nat.beq a b = true) : a = b := Nat.eq_of_beq_eq_true h
theorem veq0_eq : ∀ {x y : V}, veq0 x y = true → x = y := by
  intro x y h
  cases x <;> simp only [veq0] at h
  case bool a =>
    cases y <;> simp only [Bool.false_eq_true] at h
    rename_i b; cases a <;> cases b <;> first | rfl | cases h
  case int k a =>
    cases y <;> simp only [Bool.false_eq_true] at h
    split at h
    · rename_i hk
      rw [ieq_eq] at h
      rw [beqK_eq hk, of_decide_eq_true h]
    · cases h
  case str a =>
    cases y <;> simp only [Bool.false_eq_true] at h
    rw [nateq_eq] at h; rw [of_decide_eq_true h]
  case nilp => cases y <;> first | rfl | cases h
  case ptr p o =>
    cases y <;> simp only [Bool.false_eq_true] at h
    split at h
    · rename_i hk; rw [pbeq hk, nbeq h]
    · cases h
  case nils => cases y <;> first | rfl | cases h
  case slice p o l c e =>
    cases y <;> simp only [Bool.false_eq_true] at h
    split at h
    · rename_i hk
      simp only [Bool.and_eq_true] at hk
      obtain ⟨⟨⟨h1, h2⟩, h3⟩, h4⟩ := hk
      rw [pbeq h1, nbeq h2, nbeq h3, nbeq h4]
      split at h
      · split at h
        · rfl
        · cases h
      · split at h
        · cases h
        · rw [nbeq h]
    · cases h
  case nilm => cases y <;> first | rfl | cases h
  case map p =>
    cases y <;> simp only [Bool.false_eq_true] at h
    rw [pbeq h]
  case nilf => cases y <;> first | rfl | cases h
  case fn f a b =>
    cases a <;> cases b <;> first | (cases h; done) | skip
    cases y <;> first | (cases h; done) | skip
    rename_i f' a' b'
    cases a' <;> cases b' <;> first | (cases h; done) | skip
    have h : Nat.beq f f' = true := h
    rw [nbeq h]
  case nili => cases y <;> first | rfl | cases h
  all_goals cases h
theorem veqL_eq {f : V → V → Bool} (hf : ∀ x y, f x y = true → x = y) : ∀ {x y : List V}, veqL f x y = true → x = y
  | [], [], _ => rfl
  | [], _ :: _, h => by cases h
  | _ :: _, [], h => by cases h
  | x :: l, y :: m, h => by
    have h : (match f x y with | true => veqL f l m | false => false) = true := h
    split at h
    · rename_i hh; rw [hf _ _ hh, veqL_eq hf h]
    · cases h
theorem veqS_eq {f : V → V → Bool} (hf : ∀ x y, f x y = true → x = y) : ∀ x y : V, veqS f x y = true → x = y := by
  intro x y h
  cases x
  case agg l =>
    cases y <;> first | (cases h; done) | skip
    have h : veqL f l _ = true := h
    rw [veqL_eq hf h]
  case tup l =>
    cases y <;> first | (cases h; done) | skip
    have h : veqL f l _ = true := h
    rw [veqL_eq hf h]
  case iface t v =>
    cases y <;> first | (cases h; done) | skip
    rename_i u w
    have h : (match Nat.beq t u with | true => f v w | false => false) = true := h
    split at h
    · rename_i hh; rw [nbeq hh, hf _ _ h]
    · cases h
  all_goals exact veq0_eq h
theorem veq_eq {x y : V} (h : veq x y = true) : x = y := veqS_eq (veqS_eq (veqS_eq (fun _ _ h => veq0_eq h))) x y h
noncomputable def argEq : Arg → Arg → Bool
  | .s p, .s q => p.beq q
  | .g p, .g q => p.beq q
  | .v x, .v y => veq x y
  | _, _ => false
theorem argEq_eq {a b : Arg} (h : argEq a b = true) : a = b := by
  cases a <;> cases b <;> first | (cases h; done) | skip
  · rw [pbeq h]
  · rw [veq_eq h]
  · rw [pbeq h]
noncomputable def optEq : Option Arg → Option Arg → Bool
  | none, none => true | some a, some b => argEq a b | _, _ => false
theorem optEq_eq {a b : Option Arg} (h : optEq a b = true) : a = b := by
  cases a <;> cases b <;> simp only [optEq, Bool.false_eq_true] at h
  · rfl
  · rw [argEq_eq h]
/-- looks at the memory -/
def isPure : QOp → Bool | .ld1 _ => false | .ldn _ _ => false | .lkp _ _ _ _ _ => false | .lenm _ => false | .wts _ => false | .eqp _ _ _ _ => false | .slca _ _ _ _ _ => false | _ => true
theorem qev_pure {q : QOp} (h : isPure q = true) (pt : List Nat) (A : T V) (σ σ2 : St) : qev pt q A σ = qev pt q A σ2 := by
  cases q <;> first | (cases h; done) | rfl
noncomputable def reEq : QOp → QOp → Bool
  | .ld1 a, .ld1 b => argEq a b
  | .ldn a n, .ldn b m => argEq a b && Nat.beq n m
  | .lkp m k ks z ok, .lkp m' k' ks' z' ok' => argEq m m' && argEq k k' && decide (ks = ks') && veq z z' && decide (ok = ok')
  | .lenm a, .lenm b => argEq a b
  | .wts a, .wts b => argEq a b
  | .eqp kd ne a c, .eqp kd' ne' a' c' => decide (kd = kd') && decide (ne = ne') && argEq a a' && argEq c c'
  | .slca a lo hi esz n, .slca a' lo' hi' esz' n' => argEq a a' && optEq lo lo' && optEq hi hi' && Nat.beq esz esz' && Nat.beq n n'
  | _, _ => false
theorem reEq_eq {a b : QOp} (h : reEq a b = true) : a = b := by
  cases a <;> first | (simp only [reEq, Bool.false_eq_true] at h; done) | skip
  all_goals cases b <;> first | (simp only [reEq, Bool.false_eq_true] at h; done) | skip
  all_goals simp only [reEq, Bool.and_eq_true, decide_eq_true_eq] at h
  · obtain ⟨⟨⟨rfl, rfl⟩, h1⟩, h2⟩ := h
    rw [argEq_eq h1, argEq_eq h2]
  · obtain ⟨⟨⟨⟨h1, h2⟩, h3⟩, h4⟩, h5⟩ := h
    rw [argEq_eq h1, optEq_eq h2, optEq_eq h3, nbeq h4, nbeq h5]
  · rw [argEq_eq h]
  · rw [argEq_eq h.1, nbeq h.2]
  · obtain ⟨⟨⟨⟨h1, h2⟩, rfl⟩, h4⟩, rfl⟩ := h
    rw [argEq_eq h1, argEq_eq h2, veq_eq h4]
  · rw [argEq_eq h]
  · rw [argEq_eq h]

/-! slots -/
def Arg.slot : Arg → List Pos | .s p => [p] | _ => []
def RO.gslot (r : RO) : List Pos := match r.gd with | some (p, _) => [p] | none => []
def RO.slots (r : RO) : List Pos := r.gslot ++ r.op.args.flatMap Arg.slot
noncomputable def restr : List Pos → T V → T V | [], _ => .nil | p :: l, A => match T.get p A with | some v => T.set v p (restr l A) | none => restr l A
theorem restr_get (l : List Pos) (A : T V) (q : Pos) : T.get q (restr l A) = if q ∈ l then T.get q A else none := by
  induction l with
  | nil => simp [restr, T.get_nil]
  | cons p l ih =>
    unfold restr
    split
    · rename_i v hv
      rw [T.get_set, ih]
      by_cases e : q = p
      · subst e; simp [hv]
      · simp [e]
    · rename_i hv
      rw [ih]
      by_cases e : q = p
      · subst e; simp [hv]
      · simp [e]
theorem ev_restr {l : List Pos} {A : T V} {x : Arg} (h : ∀ p ∈ x.slot, p ∈ l) : ev A x = ev (restr l A) x := by
  cases x with
  | s p =>
    have e : ∀ B : T V, ev B (.s p) = match T.get p B with | some v => v | none => .u := fun _ => rfl
    rw [e, e, restr_get, if_pos (h p (by simp [Arg.slot]))]
  | v x => rfl
  | g p => rfl
  | f n => rfl
theorem ev_slots {A B : T V} {x : Arg} (h : ∀ p ∈ x.slot, T.get p A = T.get p B) : ev A x = ev B x := by
  cases x with
  | s p =>
    have e : ∀ B : T V, ev B (.s p) = match T.get p B with | some v => v | none => .u := fun _ => rfl
    rw [e, e, h p (by simp [Arg.slot])]
  | v x => rfl
  | g p => rfl
  | f n => rfl
theorem xop_congr {M : Mach} {call : Pos → List V → St → Option (V × St)} {nms : List Pos} {x : XOp} {A A' : T V} {σ : St} (h : ∀ y ∈ x.args, ev A y = ev A' y) : xop M call nms x A σ = xop M call nms x A' σ := by
  have hl : ∀ l : List Arg, (∀ y ∈ l, ev A y = ev A' y) → lmap (ev A) l = lmap (ev A') l := fun l hl => by
    rw [lmap_eq, lmap_eq]; exact List.map_congr_left hl
  cases x with
  | q o => simp only [xop, xQ, xL, xCallv, xInv, qevF_eq, eevF_eq, qev_congr h]
  | e o => simp only [xop, xQ, xL, xCallv, xInv, qevF_eq, eevF_eq, eev_congr h]
  | l o j => simp only [xop, xQ, xL, xCallv, xInv, qevF_eq, eevF_eq, eev_congr h]
  | call f l => simp only [xop, xQ, xL, xCallv, xInv, qevF_eq, eevF_eq, hl l h]
  | callv g l => simp only [xop, xQ, xL, xCallv, xInv, qevF_eq, eevF_eq, hl l (fun y hy => h y (by simp [XOp.args, hy])), h g (by simp [XOp.args])]
  | inv r n l => simp only [xop, xQ, xL, xCallv, xInv, qevF_eq, eevF_eq, hl l (fun y hy => h y (by simp [XOp.args, hy])), h r (by simp [XOp.args])]
  | bad => rfl
theorem wantG_congr {A A' : T V} {g : Option (Pos × Bool)} (h : ∀ p c, g = some (p, c) → T.get p A = T.get p A') : wantG A g = wantG A' g := by
  cases g with
  | none => rfl
  | some x =>
    obtain ⟨p, b⟩ := x
    have := ev_slots (A := A) (B := A') (x := .s p) (fun q hq => by simp [Arg.slot] at hq; subst hq; exact h _ _ rfl)
    simp only [wantG, this]
theorem late_inv {e : EOp} (he : isLate e = true) {p : Pos} {A : T V} {σ σ' : St} {v : V} (h : eev e (some p) A σ = some (v, σ')) : ∃ l, σ' = newB σ (some p) (.cells l [] false false) ∧ ∀ σ2, eev e (some p) A σ2 = some (v, newB σ2 (some p) (.cells l [] false false)) := by
  cases e <;> first | (cases he; done) | skip
  case alo z =>
    simp only [eev, Option.some.injEq, Prod.mk.injEq] at h
    obtain ⟨rfl, rfl⟩ := h
    exact ⟨z, rfl, fun _ => rfl⟩
  case box a n =>
    simp only [eev] at h
    split at h
    · rename_i l hl
      split at h
      · rename_i hb
        simp only [Option.some.injEq, Prod.mk.injEq] at h
        obtain ⟨rfl, rfl⟩ := h
        exact ⟨l, rfl, fun _ => by simp only [eev, hl, hb]; rfl⟩
      · cases h
    · cases h
  case bsl z ps len esz =>
    simp only [eev] at h
    split at h
    · rename_i l hl
      simp only [Option.some.injEq, Prod.mk.injEq] at h
      obtain ⟨rfl, rfl⟩ := h
      exact ⟨l, rfl, fun _ => by simp only [eev, hl]; rfl⟩
    · cases h
theorem namesOf_get : ∀ (k : Nat) (p : Pos) (j : Nat) (q : Pos), (namesOf k p).1[j]? = some q → q.nat = p.nat + j ∧ j < k
  | 0, p, j, q, h => by have h : ([] : List Pos)[j]? = some q := h; simp at h
  | k + 1, p, j, q, h => by
    have h : (p :: (namesOf k p.succ).1)[j]? = some q := h
    cases j with
    | zero => simp at h; subst h; simp
    | succ j =>
      rw [List.getElem?_cons_succ] at h
      obtain ⟨h1, h2⟩ := namesOf_get k p.succ j q h
      rw [Pos.succ_nat] at h1
      exact ⟨by omega, by omega⟩
theorem namesOf_nx : ∀ (k : Nat) (p : Pos), (namesOf k p).2.nat = p.nat + k
  | 0, p => rfl
  | k + 1, p => by
    have : (namesOf (k + 1) p).2 = (namesOf k p.succ).2 := rfl
    rw [this, namesOf_nx k p.succ, Pos.succ_nat]
    omega

/-! what must have been done before -/
def edgesB (o : Oper) : List Nat := (o.after.toList.filter (Region.binds .any)).map (·.on)
def tget : List (Nat × Nat) → Nat → Option Nat | [], _ => none | x :: l, i => match Nat.beq x.1 i with | true => some x.2 | false => tget l i
def maskE (tbl : List (Nat × Nat)) : List Nat → Option Nat
  | [] => some 0
  | i :: l => match tget tbl i with | none => none | some m => (match maskE tbl l with | none => none | some r => some (Nat.lor (Nat.lor m (Nat.shiftLeft 1 i)) r))
structure AO where
  ro : RO
  o : Oper
  m : Nat
def annot (ops : Array Oper) : List (Nat × Nat) → List RO → Option (List AO)
  | _, [] => some []
  | tbl, r :: l => match ops[r.idx]? with
    | none => none
    | some o => (match maskE tbl (edgesB o) with | none => none | some m => (match annot ops ((r.idx, m) :: tbl) l with | none => none | some t => some (⟨r, o, m⟩ :: t)))
def Closed (ops : Array Oper) (S : Nat → Prop) : Prop := ∀ i o, ops[i]? = some o → S i → ∀ e ∈ edgesB o, S e
def MaskOk (ops : Array Oper) (m : Nat) (o : Oper) : Prop := ∀ S : Nat → Prop, Closed ops S → (∀ e ∈ edgesB o, S e) → ∀ i, m.testBit i = true → S i
def TblOk (ops : Array Oper) (tbl : List (Nat × Nat)) : Prop := ∀ i m, (i, m) ∈ tbl → ∃ o, ops[i]? = some o ∧ MaskOk ops m o
theorem tget_mem {tbl : List (Nat × Nat)} {i m : Nat} (h : tget tbl i = some m) : (i, m) ∈ tbl := by
  induction tbl with
  | nil => cases h
  | cons x l ih =>
    unfold tget at h
    split at h
    · rename_i hb; cases h; rw [← nbeq hb]; simp
    · exact List.mem_cons_of_mem _ (ih h)
theorem maskE_ok {ops : Array Oper} {tbl : List (Nat × Nat)} (ht : TblOk ops tbl) : ∀ (l : List Nat) (m : Nat), maskE tbl l = some m → (∀ S : Nat → Prop, Closed ops S → (∀ e ∈ l, S e) → ∀ i, m.testBit i = true → S i) ∧ ∀ e ∈ l, ∃ m, (e, m) ∈ tbl
  | [], m, h => by
    simp only [maskE, Option.some.injEq] at h
    subst h
    exact ⟨fun S _ _ i hi => by simp at hi, fun e he => by cases he⟩
  | j :: l, m, h => by
    simp only [maskE] at h
    split at h
    · cases h
    · rename_i m1 h1
      split at h
      · cases h
      · rename_i r hr
        cases h
        obtain ⟨k1, k2⟩ := maskE_ok ht l r hr
        obtain ⟨o, ho, hm⟩ := ht j m1 (tget_mem h1)
        refine ⟨fun S hS he i hi => ?_, fun e he => ?_⟩
        · have hi : ((m1 ||| 1 <<< j) ||| r).testBit i = true := hi
          rw [Nat.testBit_or, Nat.testBit_or] at hi
          simp only [Bool.or_eq_true] at hi
          have hj : S j := he j (by simp)
          rcases hi with (hi | hi) | hi
          · exact hm S hS (hS j o ho hj) i hi
          · rw [Nat.one_shiftLeft, Nat.testBit_two_pow] at hi
            have : j = i := by simpa using hi
            rw [← this]; exact hj
          · exact k1 S hS (fun e h => he e (by simp [h])) i hi
        · rcases List.mem_cons.1 he with rfl | he
          · exact ⟨m1, tget_mem h1⟩
          · exact k2 e he
theorem annot_ok {ops : Array Oper} : ∀ (l : List RO) (tbl : List (Nat × Nat)) (L : List AO), TblOk ops tbl → annot ops tbl l = some L → L.map (·.ro) = l ∧ ∀ (k : Nat) (a : AO), L[k]? = some a →
      ops[a.ro.idx]? = some a.o ∧ MaskOk ops a.m a.o ∧ ∀ e ∈ edgesB a.o, (∃ (j : Nat) (b : AO), j < k ∧ L[j]? = some b ∧ b.ro.idx = e) ∨ ∃ m, (e, m) ∈ tbl
  | [], tbl, L, ht, h => by
    simp only [annot, Option.some.injEq] at h
    subst h
    exact ⟨rfl, fun k a h => by simp at h⟩
  | r :: l, tbl, L, ht, h => by
    simp only [annot] at h
    split at h
    · cases h
    · rename_i o ho
      split at h
      · cases h
      · rename_i m hm
        split at h
        · cases h
        · rename_i t hl
          cases h
          obtain ⟨k1, k2⟩ := maskE_ok ht _ m hm
          have ht2 : TblOk ops ((r.idx, m) :: tbl) := fun i m' hi => by
            rcases List.mem_cons.1 hi with e | hi
            · cases e; exact ⟨o, ho, k1⟩
            · exact ht i m' hi
          obtain ⟨j1, j2⟩ := annot_ok l _ t ht2 hl
          refine ⟨by simp [j1], fun k a hk => ?_⟩
          cases k with
          | zero =>
            simp at hk; subst hk
            exact ⟨ho, k1, fun e he => .inr (k2 e he)⟩
          | succ k =>
            rw [List.getElem?_cons_succ] at hk
            obtain ⟨q1, q2, q3⟩ := j2 k a hk
            refine ⟨q1, q2, fun e he => ?_⟩
            rcases q3 e he with ⟨j, b, x1, x2, x3⟩ | ⟨m', hm'⟩
            · exact .inl ⟨j + 1, b, by omega, by rw [List.getElem?_cons_succ]; exact x2, x3⟩
            · rcases List.mem_cons.1 hm' with e' | hm'
              · cases e'
                exact .inl ⟨0, ⟨r, o, m⟩, by omega, rfl, rfl⟩
              · exact .inr ⟨m', hm'⟩

/-! which may be done either way about -/
noncomputable def pmem (p : Pos) : List Pos → Bool | [] => false | q :: l => p.beq q || pmem p l
theorem pmem_iff {p : Pos} {l : List Pos} : pmem p l = true ↔ p ∈ l := by
  induction l with
  | nil => simp [pmem]
  | cons q l ih => simp [pmem, ih, Pos.beq_eq]
noncomputable def dstIn (d : Option Pos) (l : List Pos) : Bool := match d with | some p => pmem p l | none => false
theorem dstIn_false {d : Option Pos} {l : List Pos} (h : dstIn d l = false) {p : Pos} (hd : d = some p) : p ∉ l := fun hp => by
  subst hd; simp only [dstIn] at h; rw [pmem_iff.2 hp] at h; cases h
noncomputable def dstNe (d e : Option Pos) : Bool := match d, e with | some p, some q => !(p.beq q) | _, _ => true
theorem dstNe_ne {d e : Option Pos} (h : dstNe d e = true) {p : Pos} (hd : d = some p) : e ≠ some p := fun he => by
  subst hd; subst he; simp [dstNe, Pos.beq_eq] at h
def kindN : XOp → Nat | .q q => (match isPure q with | true => 0 | false => 1) | .l _ _ => 3 | _ => 2
noncomputable def apart (a b : RO) : Bool := !dstIn a.dst b.slots && !dstIn b.dst a.slots && dstNe a.dst b.dst
def gdEq (a b : Option (Pos × Bool)) : Bool := decide (a = b)
noncomputable def hasRe (a b : RO) : Bool := match a.dst, a.op with | some p, .q q => b.re.any (fun x => x.1.beq p && reEq x.2.1 q && gdEq x.2.2 a.gd) | _, _ => false
theorem hasRe_inv {a b : RO} (h : hasRe a b = true) : ∃ p q, a.dst = some p ∧ a.op = .q q ∧ (p, q, a.gd) ∈ b.re := by
  unfold hasRe at h
  split at h
  · rename_i p q h1 h2
    rw [List.any_eq_true] at h
    obtain ⟨x, hx, h⟩ := h
    simp only [Bool.and_eq_true] at h
    obtain ⟨⟨e1, e2⟩, e3⟩ := h
    refine ⟨p, q, h1, h2, ?_⟩
    obtain ⟨x1, x2, x3⟩ := x
    have : x3 = a.gd := of_decide_eq_true e3
    have e1 := pbeq e1
    have e2 := reEq_eq e2
    simp only at e1 e2
    rw [← e1, ← e2, ← this]
    exact hx
  · cases h
noncomputable def pairK (a b : RO) (clob : Bool) : Bool := match kindN a.op with
  | 0 => true
  | 1 => (match kindN b.op with | 0 => true | 1 => true | _ => hasRe a b && !clob)
  | _ => (match kindN b.op with | 0 => true | 3 => true | _ => false)
def lateJ : XOp → Option Nat | .l _ j => some j | _ => none
def lateNe (a b : XOp) : Bool := match lateJ a, lateJ b with | some i, some j => !(Nat.beq i j) | _, _ => true
noncomputable def keeps (a : RO) (b : RO) : Bool := !dstIn b.dst ((match a.dst with | some p => [p] | none => []) ++ a.slots)
noncomputable def sufOK (a : AO) : Bool → List AO → Bool
  | _, [] => true
  | c, b :: l => !(Nat.beq a.ro.idx b.ro.idx) && lateNe a.ro.op b.ro.op && (Nat.testBit b.m a.ro.idx || (apart a.ro b.ro && pairK a.ro b.ro (c || !keeps a.ro b.ro))) && sufOK a (c || !keeps a.ro b.ro) l
noncomputable def pairsOK : List AO → Bool | [] => true | a :: l => sufOK a (dstIn a.ro.dst a.ro.slots) l && pairsOK l
/-- what is known of two, the one listed ahead of the other -/
def Pair (L : List AO) (p q : Nat) (a b : AO) : Prop := a.ro.idx ≠ b.ro.idx ∧ lateNe a.ro.op b.ro.op = true ∧
  (Nat.testBit b.m a.ro.idx = true ∨ (apart a.ro b.ro = true ∧ ∃ c, pairK a.ro b.ro c = true ∧ (c = false → dstIn a.ro.dst a.ro.slots = false ∧ ∀ j d, p < j → j ≤ q → L[j]? = some d → keeps a.ro d.ro = true)))
theorem sufOK_spec {a : AO} {c0 : Bool} : ∀ (l : List AO) (c : Bool), (c = false → c0 = false) → sufOK a c l = true → ∀ (q : Nat) (b : AO), l[q]? = some b → a.ro.idx ≠ b.ro.idx ∧ lateNe a.ro.op b.ro.op = true ∧
    (Nat.testBit b.m a.ro.idx = true ∨ (apart a.ro b.ro = true ∧ ∃ c', pairK a.ro b.ro c' = true ∧ (c' = false → c0 = false ∧ ∀ j d, j ≤ q → l[j]? = some d → keeps a.ro d.ro = true)))
  | [], c, h0, h, q, b, hq => by simp at hq
  | x :: l, c, h0, h, q, b, hq => by
    simp only [sufOK, Bool.and_eq_true] at h
    obtain ⟨⟨⟨h1, h2⟩, h3⟩, h4⟩ := h
    have h1 : a.ro.idx ≠ x.ro.idx := fun e => by rw [e, nbeq_eq] at h1; simp at h1
    cases q with
    | zero =>
      simp at hq; subst hq
      refine ⟨h1, h2, ?_⟩
      simp only [Bool.or_eq_true, Bool.and_eq_true] at h3
      rcases h3 with h3 | ⟨h3, h5⟩
      · exact .inl h3
      · refine .inr ⟨h3, _, h5, fun hc => ?_⟩
        simp only [Bool.or_eq_false_iff, Bool.not_eq_false'] at hc
        refine ⟨h0 hc.1, fun j d hj hd => ?_⟩
        have : j = 0 := by omega
        subst this
        simp at hd; subst hd
        exact hc.2
    | succ q =>
      rw [List.getElem?_cons_succ] at hq
      obtain ⟨k1, k2, k3⟩ := sufOK_spec (c0 := (c || !keeps a.ro x.ro)) l _ (fun h => h) h4 q b hq
      refine ⟨k1, k2, ?_⟩
      rcases k3 with k3 | ⟨k3, c', k5, k6⟩
      · exact .inl k3
      · refine .inr ⟨k3, c', k5, fun hc => ?_⟩
        obtain ⟨m1, m2⟩ := k6 hc
        simp only [Bool.or_eq_false_iff, Bool.not_eq_false'] at m1
        refine ⟨h0 m1.1, fun j d hj hd => ?_⟩
        cases j with
        | zero => simp at hd; subst hd; exact m1.2
        | succ j => rw [List.getElem?_cons_succ] at hd; exact m2 j d (by omega) hd
theorem pairsOK_spec : ∀ (L : List AO), pairsOK L = true → ∀ (p q : Nat) (a b : AO), p < q → L[p]? = some a → L[q]? = some b → Pair L p q a b
  | [], h, p, q, a, b, hpq, hp, hq => by simp at hp
  | x :: l, h, p, q, a, b, hpq, hp, hq => by
    simp only [pairsOK, Bool.and_eq_true] at h
    obtain ⟨h1, h2⟩ := h
    cases q with
    | zero => omega
    | succ q =>
      rw [List.getElem?_cons_succ] at hq
      cases p with
      | zero =>
        simp at hp; subst hp
        obtain ⟨k1, k2, k3⟩ := sufOK_spec l _ (fun h => h) h1 q b hq
        refine ⟨k1, k2, ?_⟩
        rcases k3 with k3 | ⟨k3, c', k5, k6⟩
        · exact .inl k3
        · refine .inr ⟨k3, c', k5, fun hc => ⟨(k6 hc).1, fun j d hj1 hj2 hd => ?_⟩⟩
          cases j with
          | zero => omega
          | succ j => rw [List.getElem?_cons_succ] at hd; exact (k6 hc).2 j d (by omega) hd
      | succ p =>
        rw [List.getElem?_cons_succ] at hp
        obtain ⟨k1, k2, k3⟩ := pairsOK_spec l h2 p q a b (by omega) hp hq
        refine ⟨k1, k2, ?_⟩
        rcases k3 with k3 | ⟨k3, c', k5, k6⟩
        · exact .inl k3
        · refine .inr ⟨k3, c', k5, fun hc => ⟨(k6 hc).1, fun j d hj1 hj2 hd => ?_⟩⟩
          cases j with
          | zero => omega
          | succ j => rw [List.getElem?_cons_succ] at hd; exact (k6 hc).2 j d (by omega) (by omega) hd
/-- the check of a region that draws its order -/
noncomputable def okD {P : Program} (E : Env P) (n k : Nat) (l : List RO) (ops : Array Oper) : Bool := match annot ops [] l with
  | none => false
  | some L => pairsOK L && L.all (fun a => okRO E n ops a.ro a.o) && (List.range ops.size).all (fun i => l.any (fun r => Nat.beq r.idx i))
end Go.Proofs.YtknhohgnilamcaaGreatDoor
