/-
  Regions that draw their order are sound: step by step. (Of no program.)
-/
import Derived.Test.YtknhohgnilamcaaGreatDoorEngRB
namespace Go.Proofs.YtknhohgnilamcaaGreatDoor
set_option linter.unusedVariables false
set_option linter.unusedSimpArgs false
set_option linter.unusedSectionVars false
open Go

section
variable {P : Program} {E : Env P} {M : Mach} {call : Pos → List V → St → Option (V × St)} {n N : Nat} {ops : Array Oper} {L : List AO} {nms : List Pos} {A : Nat → T V} {σ : Nat → St} {ι0 ι : Nm} {w0 w : World} {k : Nat} {listed : Array Bool} {a : Act}

theorem get_newB {s : St} {nm q : Pos} {ob : Ob} : T.get q (newB s (some nm) ob).h = if q = nm then some ob else T.get q s.h := by
  show T.get q (T.set ob nm s.h) = _
  rw [T.get_set]
theorem lateNe_ne {x y : EOp} {i j : Nat} (h : lateNe (.l x i) (.l y j) = true) : i ≠ j := by
  intro e; subst e; simp [lateNe, lateJ, nbeq_eq] at h
theorem Stat.late_ne (S : Stat E n ops L) {p q : Nat} {b c : AO} {x y : EOp} {i j : Nat} (hpq : p ≠ q) (hb : L[p]? = some b) (hc : L[q]? = some c) (h1 : b.ro.op = .l x i) (h2 : c.ro.op = .l y j) : i ≠ j := by
  rcases Nat.lt_or_gt_of_ne hpq with h | h
  · have := (S.pair p q b c h hb hc).2.1
    rw [h1, h2] at this
    exact lateNe_ne this
  · have := (S.pair q p c b h hc hb).2.1
    rw [h1, h2] at this
    exact fun e => lateNe_ne this e.symm
theorem Stat.idx_inj (S : Stat E n ops L) {p q : Nat} {b c : AO} (hb : L[p]? = some b) (hc : L[q]? = some c) (h : b.ro.idx = c.ro.idx) : p = q := by
  rcases Nat.lt_trichotomy p q with h1 | h1 | h1
  · exact absurd h (S.pair p q b c h1 hb hc).1
  · exact h1
  · exact absurd h.symm (S.pair q p c b h1 hc hb).1
/-- what is pending comes in as soon as all ahead of it is done -/
theorem Inv.adv1 (S : Stat E n ops L) (T1 : Tr M call nms L A σ) (U : Names N nms (σ 0) ι0) (I : Inv P n N ops L nms A σ ι0 w0 ι k listed a w) (hk : k < L.length) (h : ∀ b, L[k]? = some b → Actv A k b → Dn listed b.ro.idx) :
    Inv P n N ops L nms A σ ι0 w0 ι (k + 1) listed a w := by
  have hget : L[k]? = some L[k] := List.getElem?_eq_getElem hk
  by_cases hact : Actv A k L[k]
  · have hd := h _ hget hact
    obtain ⟨x, j, nm, l, e1, e2, e3, pl, p1, p2, p3, p4⟩ := I.pend k _ (Nat.le_refl _) hget hact hd
    have hfree : T.get nm (σ k).h = none := by
      rcases xstep_inv (T1.step k _ hget) with ⟨q1, _, _⟩ | ⟨_, v, q1, _, _⟩
      · rw [hact.1] at q1; cases q1
      · rw [e1] at q1
        simp only [xop, xQ, xL, xCallv, xInv, qevF_eq, eevF_eq] at q1
        split at q1
        · rename_i nm' hn
          rw [lget_eq, e2] at hn; cases hn
          split at q1
          · rename_i hn; exact hn
          · cases q1
        · cases q1
    have hR := I.rep.adopt p1 hfree p3 p2
    have hR : Rep ι (σ (k + 1)) w := by rw [e3]; exact hR
    refine { I with rep := hR, kle := hk, before := ?_, pend := ?_, g := ?_ }
    · intro e b he hb ha
      by_cases hek : e = k
      · subst hek; exact h b hb ha
      · exact I.before e b (by omega) hb ha
    · intro e b he hb ha hdn
      obtain ⟨x', j', nm', l', f1, f2, f3, pl', g1, g2, g3, g4⟩ := I.pend e b (by omega) hb ha hdn
      refine ⟨x', j', nm', l', f1, f2, f3, pl', g1, g2, g3, ?_⟩
      rintro ⟨q, o, plq, i1, i2, i3, i4⟩
      have hq := g3 q plq i3 i4
      subst hq
      rw [e3, get_newB] at i1
      have hne : q ≠ nm := fun e' => by
        subst e'
        exact S.late_ne (by omega) hget hb e1 f1 (U.inj _ _ _ e2 f2)
      rw [if_neg hne] at i1
      exact g4 ⟨q, o, plq, i1, i2, i3, i4⟩
    · refine { I.g with nx := ?_, img := ?_ }
      · rw [e3]; exact I.g.nx
      · rintro r hr ⟨q, o, plq, i1, i2, i3, i4⟩
        rw [e3, get_newB] at i1
        split at i1
        · rename_i hq; subst hq
          have := I.g.new q plq i3 (U.none _ _ e2) (by rw [i4]; exact hr)
          rw [i4] at this
          exact this
        · exact I.g.img r hr ⟨q, o, plq, i1, i2, i3, i4⟩
  · have e := T1.noact hget hact
    refine { I with rep := by rw [e]; exact I.rep, kle := hk, before := ?_, pend := ?_, g := by rw [e]; exact I.g }
    · intro e b he hb ha
      by_cases hek : e = k
      · subst hek; rw [hget] at hb; cases hb; exact absurd ha hact
      · exact I.before e b (by omega) hb ha
    · intro e' b he hb ha hdn
      rw [e]
      exact I.pend e' b (by omega) hb ha hdn
theorem Inv.adv (S : Stat E n ops L) (T1 : Tr M call nms L A σ) (U : Names N nms (σ 0) ι0) : ∀ (d k : Nat), L.length - k = d → Inv P n N ops L nms A σ ι0 w0 ι k listed a w →
    ∃ k', Inv P n N ops L nms A σ ι0 w0 ι k' listed a w ∧ (k' = L.length ∨ ∃ b, L[k']? = some b ∧ Actv A k' b ∧ ¬ Dn listed b.ro.idx) := by
  intro d
  induction d with
  | zero => intro k hd I; exact ⟨k, I, .inl (by have := I.kle; omega)⟩
  | succ d ih =>
    intro k hd I
    have hk : k < L.length := by omega
    by_cases h : ∀ b, L[k]? = some b → Actv A k b → Dn listed b.ro.idx
    · exact ih (k + 1) (by omega) (I.adv1 S T1 U hk h)
    · refine ⟨k, I, .inr ?_⟩
      have hget : L[k]? = some L[k] := List.getElem?_eq_getElem hk
      refine ⟨_, hget, ?_⟩
      by_cases hact : Actv A k L[k]
      · refine ⟨hact, fun hd => h fun b hb _ => ?_⟩
        rw [hget] at hb; cases hb; exact hd
      · exact absurd (fun b hb ha => by rw [hget] at hb; cases hb; exact absurd ha hact) h

/-! one of those that are ready -/
structure Rdy (ops : Array Oper) (L : List AO) (listed : Array Bool) (p : Nat) (b : AO) : Prop where
  at_ : L[p]? = some b
  lt : b.ro.idx < ops.size
  not : ¬ Dn listed b.ro.idx
  edges : ∀ e ∈ edgesB b.o, Dn listed e
theorem Rdy.lower (S : Stat E n ops L) (I : Inv P n N ops L nms A σ ι0 w0 ι k listed a w) {p : Nat} {b : AO} (R : Rdy ops L listed p b) {q : Nat} {c : AO} (hq : q < p) (hc : L[q]? = some c) (h : ¬ Dn listed c.ro.idx) :
    apart c.ro b.ro = true ∧ ∃ x, pairK c.ro b.ro x = true := by
  obtain ⟨_, _, h3⟩ := S.pair q p c b hq hc R.at_
  rcases h3 with h3 | ⟨h3, x, h4, _⟩
  · exact absurd ((S.op p b R.at_).2.1 (Dn listed) I.closed R.edges _ h3) h
  · exact ⟨h3, x, h4⟩
theorem Rdy.upper (S : Stat E n ops L) (I : Inv P n N ops L nms A σ ι0 w0 ι k listed a w) {p : Nat} {b : AO} (R : Rdy ops L listed p b) {q : Nat} {c : AO} (hq : p < q) (hc : L[q]? = some c) (h : Dn listed c.ro.idx) :
    apart b.ro c.ro = true ∧ c.m.testBit b.ro.idx = false := by
  obtain ⟨_, _, h3⟩ := S.pair p q b c hq R.at_ hc
  have hbit : c.m.testBit b.ro.idx = false := by
    cases hb : c.m.testBit b.ro.idx with
    | false => rfl
    | true => exact absurd ((S.op q c hc).2.1 (Dn listed) I.closed (I.closed _ _ (S.op q c hc).1 h) _ hb) R.not
  rcases h3 with h3 | ⟨h3, _⟩
  · rw [hbit] at h3; cases h3
  · exact ⟨h3, hbit⟩
theorem apart_inv {x y : RO} (h : apart x y = true) : (∀ s, x.dst = some s → s ∉ y.slots) ∧ (∀ s, y.dst = some s → s ∉ x.slots) ∧ ∀ s, x.dst = some s → y.dst ≠ some s := by
  simp only [apart, Bool.and_eq_true, Bool.not_eq_true'] at h
  exact ⟨fun s hs => dstIn_false h.1.1 hs, fun s hs => dstIn_false h.1.2 hs, fun s hs => dstNe_ne h.2 hs⟩
theorem Rdy.slot (S : Stat E n ops L) (I : Inv P n N ops L nms A σ ι0 w0 ι k listed a w) {p : Nat} {b : AO} (R : Rdy ops L listed p b) {s : Pos} {t : Nat} (hs : s ∈ b.ro.slots) (ht : s.nat = t + 1) {v : V} (hv : T.get s (A p) = some v) : VR ι v (a.tmps.getD t undef) := by
  have hp : p < L.length := (List.getElem?_eq_some_iff.1 R.at_).1
  refine I.slots s t p v ht (by omega) (fun q c hc hd => ?_) hv
  rcases Nat.lt_trichotomy q p with h | h | h
  · refine ⟨fun _ => h, fun _ => ?_⟩
    by_cases hdn : Dn listed c.ro.idx
    · exact hdn
    · exact absurd hs ((apart_inv (R.lower S I h hc hdn).1).1 s hd)
  · subst h
    rw [R.at_] at hc; cases hc
    exact ⟨fun h => absurd h R.not, fun h => absurd h (Nat.lt_irrefl _)⟩
  · refine ⟨fun hdn => ?_, fun h' => absurd h' (by omega)⟩
    exact absurd hs ((apart_inv (R.upper S I h hc hdn).1).2.1 s hd)
theorem Rdy.frame (S : Stat E n ops L) (I : Inv P n N ops L nms A σ ι0 w0 ι k listed a w) {p : Nat} {b : AO} (R : Rdy ops L listed p b) : FR n ι (restr b.ro.slots (A p)) a := by
  refine ⟨I.fsize, I.defers, fun s v t h1 h2 => ?_⟩
  rw [restr_get] at h1
  split at h1
  · rename_i hs; exact R.slot S I hs h2 h1
  · cases h1
theorem dn_set {i x : Nat} (hs : i < listed.size) : Dn (listed.setIfInBounds i true) x ↔ x = i ∨ Dn listed x := by
  unfold Dn
  rw [Array.getD_eq_getD_getElem?, Array.getElem?_setIfInBounds, Array.getD_eq_getD_getElem?]
  by_cases h : i = x
  · subst h; simp [hs]
  · have : ¬ x = i := fun e => h e.symm
    simp [h, this]
/-- the frame behind it -/
theorem Rdy.slots (S : Stat E n ops L) (T1 : Tr M call nms L A σ) (I : Inv P n N ops L nms A σ ι0 w0 ι k listed a w) {p : Nat} {b : AO} (R : Rdy ops L listed p b) {ι' : Nm} (hx : Ext ι ι') {v : V} {v' : Value} (hv : VR ι' v v') (hA : A (p + 1) = putD (A p) b.ro.dst v) (hok : okDst n b.ro.dst b.o.dst = true) :
    ∀ (s : Pos) t j uu, s.nat = t + 1 → j ≤ L.length → (∀ (q : Nat) (c : AO), L[q]? = some c → c.ro.dst = some s → (Dn (listed.setIfInBounds b.ro.idx true) c.ro.idx ↔ q < j)) → T.get s (A j) = some uu → VR ι' uu ((a.put b.o.dst v').tmps.getD t undef) := by
  intro s t j uu hst hj hw hu
  have hlt : b.ro.idx < listed.size := by rw [I.size]; exact R.lt
  by_cases hd : b.ro.dst = some s
  · have hpj : p < j := (hw p b R.at_ hd).1 ((dn_set hlt).2 (.inl rfl))
    have : T.get s (A j) = T.get s (A (p + 1)) := T1.slot j (by omega) hj (fun q c h1 h2 h3 hdc => by
      have hdn := (hw q c h3 hdc).2 h2
      rw [dn_set hlt] at hdn
      rcases hdn with e | hdn
      · have := S.idx_inj h3 R.at_ e
        omega
      · exact (apart_inv (R.upper S I (by omega) h3 hdn).1).2.2 s hd hdc)
    rw [this, hA, hd, putD_self] at hu
    cases hu
    rw [hd] at hok
    cases ho : b.o.dst with
    | none => rw [ho] at hok; simp [okDst] at hok
    | some t' =>
      rw [ho] at hok
      simp only [okDst, Bool.and_eq_true, beq_iff_eq, decide_eq_true_eq] at hok
      obtain ⟨k1, k2⟩ := hok
      have k1 : s.nat = t' + 1 := k1
      have k2 : t' < n := k2
      have e : t' = t := by simp only [Tmp] at *; omega
      subst e
      have hsz := I.fsize
      simp only [Act.put, Array.getD_eq_getD_getElem?, Array.getElem?_setIfInBounds]
      rw [if_pos trivial, if_pos (by simp only [Tmp] at *; omega)]
      exact hv
  · have h1 := I.slots s t j uu hst hj (fun q c h1 h2 => by
      rw [← hw q c h1 h2, dn_set hlt]
      refine ⟨.inr, fun h => h.resolve_left fun e => ?_⟩
      have := S.idx_inj h1 R.at_ e
      subst this
      rw [R.at_] at h1; cases h1
      exact hd h2) hu
    have h2 : (a.put b.o.dst v').tmps.getD t undef = a.tmps.getD t undef := by
      cases ho : b.o.dst with
      | none => rfl
      | some t' =>
        have hne : t' ≠ t := fun e => by
          subst e
          cases hd2 : b.ro.dst with
          | none => rw [hd2, ho] at hok; simp [okDst] at hok
          | some s' =>
            rw [hd2, ho] at hok
            simp only [okDst, Bool.and_eq_true, beq_iff_eq, decide_eq_true_eq] at hok
            obtain ⟨k1, _⟩ := hok
            have k1 : s'.nat = t' + 1 := k1
            have : s' = s := Pos.nat_inj (by simp only [Tmp] at *; omega)
            subst this
            exact hd hd2
        simp only [Act.put, Array.getD_eq_getD_getElem?, Array.getElem?_setIfInBounds_ne hne]
    rw [h2]
    exact h1.mono hx
theorem Rdy.closed (S : Stat E n ops L) (I : Inv P n N ops L nms A σ ι0 w0 ι k listed a w) {p : Nat} {b : AO} (R : Rdy ops L listed p b) : Closed ops (Dn (listed.setIfInBounds b.ro.idx true)) := by
  have hlt : b.ro.idx < listed.size := by rw [I.size]; exact R.lt
  intro i o hi hd e he
  rw [dn_set hlt] at hd ⊢
  rcases hd with rfl | hd
  · rw [(S.op p b R.at_).1] at hi; cases hi
    exact .inr (R.edges e he)
  · exact .inr (I.closed i o hi hd e he)
theorem put_size {a : Act} {d : Option Tmp} {v : Value} : (a.put d v).tmps.size = a.tmps.size := by cases d <;> simp [Act.put]
theorem put_defers2 {a : Act} {d : Option Tmp} {v : Value} : (a.put d v).defers = a.defers := by cases d <;> simp [Act.put]
/-- the world and the names need not turn -/
theorem Rdy.still (S : Stat E n ops L) (T1 : Tr M call nms L A σ) (I : Inv P n N ops L nms A σ ι0 w0 ι k listed a w) {p : Nat} {b : AO} (R : Rdy ops L listed p b) (hact : ¬ Actv A p b) {v : V} {v' : Value} (hv : VR ι v v') (hA : A (p + 1) = putD (A p) b.ro.dst v) (hok : okDst n b.ro.dst b.o.dst = true) :
    Inv P n N ops L nms A σ ι0 w0 ι k (listed.setIfInBounds b.ro.idx true) (a.put b.o.dst v') w := by
  have hlt : b.ro.idx < listed.size := by rw [I.size]; exact R.lt
  refine { size := by simp [I.size], closed := R.closed S I, fsize := by rw [put_size]; exact I.fsize, defers := by rw [put_defers2]; exact I.defers, rep := I.rep, kle := I.kle, before := ?_, pend := ?_, free := ?_, slots := R.slots S T1 I (.refl ι) hv hA hok, g := I.g }
  · intro e c he hc ha
    exact (dn_set hlt).2 (.inr (I.before e c he hc ha))
  · intro e c he hc ha hd
    rw [dn_set hlt] at hd
    rcases hd with hd | hd
    · have := S.idx_inj hc R.at_ hd
      subst this
      rw [R.at_] at hc; cases hc
      exact absurd ha hact
    · exact I.pend e c he hc ha hd
  · intro e c x j nm hc h1 h2 h3
    exact I.free e c x j nm hc h1 h2 (fun h => h3 ((dn_set hlt).2 (.inr h)))
end
end Go.Proofs.YtknhohgnilamcaaGreatDoor
