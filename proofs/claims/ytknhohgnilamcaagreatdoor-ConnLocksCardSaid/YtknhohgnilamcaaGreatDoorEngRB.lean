/-
  Regions that draw their order are sound. (Of no program.)
-/
import Derived.Test.YtknhohgnilamcaaGreatDoorEngRA
namespace Go.Proofs.YtknhohgnilamcaaGreatDoor
set_option linter.unusedVariables false
set_option linter.unusedSimpArgs false
set_option linter.unusedSectionVars false
open Go

section
variable {P : Program} {E : Env P} {M : Mach} {call : Pos → List V → St → Option (V × St)} {n : Nat} {ops : Array Oper} {L : List AO} {nms : List Pos}

structure Stat (E : Env P) (n : Nat) (ops : Array Oper) (L : List AO) : Prop where
  op : ∀ (p : Nat) (a : AO), L[p]? = some a → ops[a.ro.idx]? = some a.o ∧ MaskOk ops a.m a.o ∧ okRO E n ops a.ro a.o = true ∧ ∀ e ∈ edgesB a.o, ∃ (j : Nat) (b : AO), j < p ∧ L[j]? = some b ∧ b.ro.idx = e
  pair : ∀ (p q : Nat) (a b : AO), p < q → L[p]? = some a → L[q]? = some b → Pair L p q a b
  cov : ∀ i, i < ops.size → ∃ (p : Nat) (a : AO), L[p]? = some a ∧ a.ro.idx = i
theorem stat_of_okD {k : Nat} {l : List RO} (h : okD E n k l ops = true) : ∃ L : List AO, L.map (·.ro) = l ∧ Stat E n ops L := by
  unfold okD at h
  split at h
  · cases h
  · rename_i L hL
    simp only [Bool.and_eq_true] at h
    obtain ⟨⟨h1, h2⟩, h3⟩ := h
    obtain ⟨k1, k2⟩ := annot_ok l [] L (fun i m hm => by cases hm) hL
    refine ⟨L, k1, ⟨fun p a ha => ?_, pairsOK_spec L h1, fun i hi => ?_⟩⟩
    · obtain ⟨q1, q2, q3⟩ := k2 p a ha
      refine ⟨q1, q2, (List.all_eq_true.1 h2) a (List.mem_of_getElem? ha), fun e he => ?_⟩
      rcases q3 e he with q3 | ⟨m, hm⟩
      · exact q3
      · cases hm
    · have := (List.all_eq_true.1 h3) i (by simpa using hi)
      rw [List.any_eq_true] at this
      obtain ⟨r, hr, hb⟩ := this
      rw [← k1] at hr
      obtain ⟨a, ha, rfl⟩ := List.mem_map.1 hr
      obtain ⟨p, hp⟩ := List.getElem?_of_mem ha
      exact ⟨p, a, hp, nbeq hb⟩

structure Tr (M : Mach) (call : Pos → List V → St → Option (V × St)) (nms : List Pos) (L : List AO) (A : Nat → T V) (σ : Nat → St) : Prop where
  step : ∀ (p : Nat) (a : AO), L[p]? = some a → xstep M call nms a.ro (A p) (σ p) = some (A (p + 1), σ (p + 1))
theorem tr_of_run : ∀ (L : List AO) (A0 A' : T V) (σ0 σ' : St), runR M call nms (L.map (·.ro)) A0 σ0 = some (A', σ') → ∃ A σ, A 0 = A0 ∧ σ 0 = σ0 ∧ Tr M call nms L A σ ∧ A L.length = A' ∧ σ L.length = σ'
  | [], A0, A', σ0, σ', h => by
    have h : some (A0, σ0) = some (A', σ') := h
    cases h
    exact ⟨fun _ => A0, fun _ => σ0, rfl, rfl, ⟨fun p a h => by simp at h⟩, rfl, rfl⟩
  | x :: L, A0, A', σ0, σ', h => by
    have h : (match xstep M call nms x.ro A0 σ0 with | none => none | some (A', σ') => runR M call nms (L.map (·.ro)) A' σ') = some (A', σ') := h
    split at h
    · cases h
    · rename_i A1 σ1 hs
      obtain ⟨A, σ, h1, h2, h3, h4, h5⟩ := tr_of_run L A1 A' σ1 σ' h
      refine ⟨fun k => match k with | 0 => A0 | k + 1 => A k, fun k => match k with | 0 => σ0 | k + 1 => σ k, rfl, rfl, ⟨fun p a ha => ?_⟩, h4, h5⟩
      cases p with
      | zero =>
        simp at ha; subst ha
        show xstep M call nms x.ro A0 σ0 = some (A 0, σ 0)
        rw [h1, h2]; exact hs
      | succ p =>
        rw [List.getElem?_cons_succ] at ha
        exact h3.step p a ha
theorem xstep_inv {r : RO} {A A' : T V} {σ σ' : St} (h : xstep M call nms r A σ = some (A', σ')) : (wantG A r.gd = some false ∧ A' = putD A r.dst (.tup []) ∧ σ' = σ) ∨
    (wantG A r.gd = some true ∧ ∃ v, xop M call nms r.op A σ = some (v, σ') ∧ A' = putD A r.dst v ∧ rechk M.pt A' σ' r.re = true) := by
  unfold xstep at h
  split at h
  · cases h
  · rename_i hw; cases h; exact .inl ⟨hw, rfl, rfl⟩
  · rename_i hw
    unfold xfin at h
    split at h
    · cases h
    · rename_i v σ2 hx
      split at h
      · rename_i hr
        cases h
        exact .inr ⟨hw, v, hx, rfl, hr⟩
      · cases h
theorem rechk_inv {pt : List Nat} {A : T V} {σ : St} : ∀ {l : List (Pos × QOp × Option (Pos × Bool))}, rechk pt A σ l = true → ∀ x ∈ l, wantG A x.2.2 = some true → qev pt x.2.1 A σ = some (ev A (.s x.1))
  | [], _, x, hx, _ => by cases hx
  | r :: l, h, x, hx, hw => by
    have h : (match wantG A r.2.2 with
      | none => false
      | some false => rechk pt A σ l
      | some true => (match qevF pt r.2.1 A σ with | some v => (match veq v (ev A (.s r.1)) with | true => rechk pt A σ l | false => false) | none => false)) = true := h
    rw [qevF_eq] at h
    rcases List.mem_cons.1 hx with rfl | hx
    · rw [hw] at h
      simp only at h
      split at h
      · rename_i v hv
        split at h
        · rename_i he
          rw [hv, veq_eq he]
        · cases h
      · cases h
    · split at h
      · cases h
      · exact rechk_inv h x hx hw
      · split at h
        · split at h
          · exact rechk_inv h x hx hw
          · cases h
        · cases h

def Actv (A : Nat → T V) (p : Nat) (a : AO) : Prop := wantG (A p) a.ro.gd = some true ∧ 2 ≤ kindN a.ro.op
variable {A : Nat → T V} {σ : Nat → St}
theorem kindN_lt {x : XOp} (h : ¬ 2 ≤ kindN x) : ∃ q, x = .q q := by
  cases x <;> first | exact ⟨_, rfl⟩ | (exfalso; apply h; simp [kindN])
theorem Tr.noact (T1 : Tr M call nms L A σ) {p : Nat} {a : AO} (ha : L[p]? = some a) (h : ¬ Actv A p a) : σ (p + 1) = σ p := by
  rcases xstep_inv (T1.step p a ha) with ⟨_, _, h3⟩ | ⟨h1, v, h2, _⟩
  · exact h3
  · have : ¬ 2 ≤ kindN a.ro.op := fun hk => h ⟨h1, hk⟩
    obtain ⟨q, hq⟩ := kindN_lt this
    rw [hq] at h2
    simp only [xop, xQ, xL, xCallv, xInv, qevF_eq, eevF_eq] at h2
    split at h2
    · simp only [Option.some.injEq, Prod.mk.injEq] at h2; exact h2.2.symm
    · cases h2
theorem putD_ne {A : T V} {d : Option Pos} {v : V} {s : Pos} (h : d ≠ some s) : T.get s (putD A d v) = T.get s A := by
  cases d with
  | none => rfl
  | some p =>
    simp only [putD, T.get_set]
    rw [if_neg]
    intro e; subst e; exact h rfl
theorem putD_self {A : T V} {v : V} {s : Pos} : T.get s (putD A (some s) v) = some v := by
  simp only [putD, T.get_set, if_pos]
theorem Tr.put (T1 : Tr M call nms L A σ) {p : Nat} {a : AO} (ha : L[p]? = some a) : ∃ v, A (p + 1) = putD (A p) a.ro.dst v := by
  rcases xstep_inv (T1.step p a ha) with ⟨_, h, _⟩ | ⟨_, v, _, h, _⟩
  · exact ⟨_, h⟩
  · exact ⟨v, h⟩
theorem Tr.slot (T1 : Tr M call nms L A σ) {s : Pos} {i : Nat} : ∀ (j : Nat), i ≤ j → j ≤ L.length → (∀ q a, i ≤ q → q < j → L[q]? = some a → a.ro.dst ≠ some s) → T.get s (A j) = T.get s (A i) := by
  intro j
  induction j with
  | zero => intro h1 h2 h3; have : i = 0 := by omega
            rw [this]
  | succ j ih =>
    intro h1 h2 h3
    by_cases hi : i = j + 1
    · rw [hi]
    · have hj : j < L.length := by omega
      have hget : L[j]? = some L[j] := List.getElem?_eq_getElem hj
      obtain ⟨v, hv⟩ := T1.put hget
      rw [hv, putD_ne (h3 j _ (by omega) (by omega) hget)]
      exact ih (by omega) (by omega) (fun q a x1 x2 x3 => h3 q a x1 (by omega) x3)
theorem gslot_slots {r : RO} {p : Pos} {c : Bool} (h : r.gd = some (p, c)) : p ∈ r.slots := by
  unfold RO.slots RO.gslot; rw [h]; simp
theorem arg_slots {r : RO} {x : Arg} (hx : x ∈ r.op.args) {p : Pos} (hp : p ∈ x.slot) : p ∈ r.slots := by
  unfold RO.slots
  exact List.mem_append_right _ (List.mem_flatMap.2 ⟨x, hx, hp⟩)
theorem keeps_inv {a b : RO} (h : keeps a b = true) {s : Pos} (hs : a.dst = some s ∨ s ∈ a.slots) : b.dst ≠ some s := by
  unfold keeps at h
  simp only [Bool.not_eq_true'] at h
  intro hd
  refine dstIn_false h hd ?_
  rcases hs with hs | hs
  · rw [hs]; simp
  · exact List.mem_append_right _ hs
/-- what has been looked at is still so -/
theorem read_stable (S : Stat E n ops L) (T1 : Tr M call nms L A σ) {p : Nat} {a : AO} {q : QOp} {v : V} (ha : L[p]? = some a) (hq : a.ro.op = .q q) (hk : isPure q = false) (hw : wantG (A p) a.ro.gd = some true) (hv : qev M.pt q (A p) (σ p) = some v) :
    ∀ (j : Nat), p ≤ j → j ≤ L.length → (∀ e b, p < e → e < j → L[e]? = some b → Actv A e b → b.m.testBit a.ro.idx = false) → qev M.pt q (A p) (σ j) = some v := by
  intro j
  induction j with
  | zero => intro h1 h2 h3; have : p = 0 := by omega
            subst this; exact hv
  | succ j ih =>
    intro h1 h2 h3
    by_cases hpj : p = j + 1
    · subst hpj; exact hv
    · have hj : j < L.length := by omega
      have hget : L[j]? = some L[j] := List.getElem?_eq_getElem hj
      have ih := ih (by omega) (by omega) (fun e b x1 x2 => h3 e b x1 (by omega))
      by_cases hact : Actv A j L[j]
      · by_cases hpj2 : p = j
        · exfalso
          subst hpj2
          rw [hget] at ha; cases ha
          have := hact.2
          rw [hq] at this
          simp [kindN, hk] at this
        · have hbit := h3 j _ (by omega) (by omega) hget hact
          obtain ⟨_, _, h5⟩ := S.pair p j a _ (by omega) ha hget
          rcases h5 with h5 | ⟨h5, c, h6, h7⟩
          · rw [hbit] at h5; cases h5
          · have hka : kindN a.ro.op = 1 := by rw [hq]; simp [kindN, hk]
            have h6 : hasRe a.ro L[j].ro = true ∧ c = false := by
              unfold pairK at h6
              rw [hka] at h6
              simp only at h6
              have := hact.2
              split at h6
              · omega
              · omega
              · simpa using h6
            obtain ⟨h6, hc⟩ := h6
            obtain ⟨h9, h8⟩ := h7 hc
            obtain ⟨d, q', e1, e2, e3⟩ := hasRe_inv h6
            rw [hq] at e2; cases e2
            have hst : ∀ s ∈ a.ro.slots, T.get s (A (j + 1)) = T.get s (A p) := fun s hs => T1.slot (j + 1) (by omega) (by omega) (fun x b x1 x2 x3 => by
              by_cases hx : x = p
              · subst hx
                rw [ha] at x3; cases x3
                intro hd; exact dstIn_false h9 hd hs
              · exact keeps_inv (h8 x b (by omega) (by omega) x3) (.inr hs))
            have hdst : T.get d (A (j + 1)) = some v := by
              rw [T1.slot (i := p + 1) (j + 1) (by omega) (by omega) (fun x b x1 x2 x3 => keeps_inv (h8 x b (by omega) (by omega) x3) (.inl e1))]
              rcases xstep_inv (T1.step p a ha) with ⟨k1, _, _⟩ | ⟨_, v1, k1, k2, _⟩
              · rw [hw] at k1; cases k1
              · rw [k2, e1, putD_self]
                rw [hq] at k1
                simp only [xop, xQ, xL, xCallv, xInv, qevF_eq, eevF_eq, hv, Option.some.injEq, Prod.mk.injEq] at k1
                rw [k1.1]
            rcases xstep_inv (T1.step j _ hget) with ⟨k1, _, _⟩ | ⟨_, v1, _, _, k2⟩
            · rw [hact.1] at k1; cases k1
            · have hw2 : wantG (A (j + 1)) a.ro.gd = some true := by
                rw [← hw]
                exact wantG_congr (fun p c h => hst p (gslot_slots h))
              have := rechk_inv k2 _ e3 hw2
              simp only at this
              have hev : ev (A (j + 1)) (.s d) = v := by
                have e : ev (A (j + 1)) (.s d) = match T.get d (A (j + 1)) with | some v => v | none => .u := rfl
                rw [e, hdst]
              rw [hev] at this
              rw [← this]
              exact qev_congr (fun x hx => (ev_slots (fun s hs => hst s (arg_slots (by rw [hq]; exact hx) hs))).symm)
      · rw [T1.noact hget hact]; exact ih

/-! along the way -/
def Dn (listed : Array Bool) (i : Nat) : Prop := listed.getD i false = true
def Pend (ι : Nm) (w : World) (s : St) (nm : Pos) (l : List V) : Prop := ∃ pl, ι nm = some pl ∧ ObR ι w nm (.cells l [] false false) ∧ (∀ q pq, ι q = some pq → pq.blk = pl.blk → q = nm) ∧ ¬ Img ι s pl.blk
structure Inv (P : Program) (n N : Nat) (ops : Array Oper) (L : List AO) (nms : List Pos) (A : Nat → T V) (σ : Nat → St) (ι0 : Nm) (w0 : World) (ι : Nm) (k : Nat) (listed : Array Bool) (a : Act) (w : World) : Prop where
  size : listed.size = ops.size
  closed : Closed ops (Dn listed)
  fsize : a.tmps.size = n
  defers : a.defers = []
  rep : Rep ι (σ k) w
  kle : k ≤ L.length
  before : ∀ (e : Nat) (b : AO), e < k → L[e]? = some b → Actv A e b → Dn listed b.ro.idx
  pend : ∀ (e : Nat) (b : AO), k ≤ e → L[e]? = some b → Actv A e b → Dn listed b.ro.idx → ∃ x j nm l, b.ro.op = .l x j ∧ nms[j]? = some nm ∧ σ (e + 1) = newB (σ e) (some nm) (.cells l [] false false) ∧ Pend ι w (σ k) nm l
  free : ∀ (e : Nat) (b : AO) x j nm, L[e]? = some b → b.ro.op = .l x j → nms[j]? = some nm → ¬ Dn listed b.ro.idx → ι nm = none
  slots : ∀ (s : Pos) t j v, s.nat = t + 1 → j ≤ L.length → (∀ (q : Nat) (b : AO), L[q]? = some b → b.ro.dst = some s → (Dn listed b.ro.idx ↔ q < j)) → T.get s (A j) = some v → VR ι v (a.tmps.getD t undef)
  g : G N ι0 (σ 0) w0 ι (σ k) w
structure Names (N : Nat) (nms : List Pos) (s0 : St) (ι0 : Nm) : Prop where
  lo : ∀ (j : Nat) nm, nms[j]? = some nm → N ≤ nm.nat
  hi : ∀ (j : Nat) nm, nms[j]? = some nm → nm.nat < s0.nx.nat
  inj : ∀ (i j : Nat) nm, nms[i]? = some nm → nms[j]? = some nm → i = j
  none : ∀ (j : Nat) nm, nms[j]? = some nm → ι0 nm = none
end
end Go.Proofs.YtknhohgnilamcaaGreatDoor
