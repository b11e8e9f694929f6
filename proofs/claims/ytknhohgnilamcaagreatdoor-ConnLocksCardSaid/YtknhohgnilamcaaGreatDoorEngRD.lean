/-
  Regions that draw their order are sound. (Of no program.)
-/
import Derived.Test.YtknhohgnilamcaaGreatDoorEngRC
namespace Go.Proofs.YtknhohgnilamcaaGreatDoor
set_option linter.unusedVariables false
set_option linter.unusedSimpArgs false
set_option linter.unusedSectionVars false
open Go

section
variable {P : Program} {E : Env P} {M : Mach} {call : Pos → List V → St → Option (V × St)} {n N : Nat} {ops : Array Oper} {L : List AO} {nms : List Pos} {A : Nat → T V} {σ : Nat → St} {ι0 ι : Nm} {w0 w : World} {k : Nat} {listed : Array Bool} {a : Act}

theorem Pend.go {ι' : Nm} {w' : World} {s s' : St} {nm : Pos} {l : List V} {N' : Nat} (h : Pend ι w s nm l) (R : Rep ι s w) (g : G N' ι s w ι' s' w') : Pend ι' w' s' nm l := by
  obtain ⟨pl, h1, h2, h3, h4⟩ := h
  have hlt := (R.pl _ _ h1).lt
  refine ⟨pl, g.ext _ _ h1, h2.keep g.ext (fun pl' h5 _ => ?_), fun q pq h5 h6 => ?_, fun h5 => h4 (g.img _ hlt h5)⟩
  · rw [h1] at h5; cases h5
    exact g.keep _ hlt h4
  · cases hq : ι q with
    | none => exact absurd (by have := g.new q pq h5 hq (by rw [h6]; exact hlt); rw [h6] at this; exact this) h4
    | some p1 =>
      have := g.ext q p1 hq
      rw [h5] at this; cases this
      exact h3 q pq hq h6
theorem lsound {e : EOp} (h : isLate e = true) : LSound E e := by
  cases e <;> first | (cases h; done) | skip
  · exact l_alo _
  · exact l_box _ _
  · exact l_bsl _ _ _ _
theorem Rdy.late (S : Stat E n ops L) (T1 : Tr M call nms L A σ) (U : Names N nms (σ 0) ι0) (L0 : Gl E.ng ι0) (I : Inv P n N ops L nms A σ ι0 w0 ι k listed a w) {p : Nat} {b : AO} (R : Rdy ops L listed p b) (hkp : k ≤ p) {e : EOp} {j : Nat} (hop : b.ro.op = .l e j) (hokE : okE E e b.o.op = true) (hlate : isLate e = true) (hok : okDst n b.ro.dst b.o.dst = true)
    (hw : wantG (A p) b.ro.gd = some true) {v : V} (hx : xop M call nms b.ro.op (A p) (σ p) = some (v, σ (p + 1))) (hA : A (p + 1) = putD (A p) b.ro.dst v) {K : Act → World → Prop} {Q : Exit → Act → World → Prop}
    (hK : ∀ a' w', (∃ ι k, Inv P n N ops L nms A σ ι0 w0 ι k (listed.setIfInBounds b.ro.idx true) a' w') → K a' w') : b.o.wp P a w K Q := by
  have hlt : b.ro.idx < listed.size := by rw [I.size]; exact R.lt
  rw [hop] at hx
  simp only [xop, xQ, xL, xCallv, xInv, qevF_eq, eevF_eq] at hx
  split at hx
  · rename_i nm hn
    rw [lget_eq] at hn
    split at hx
    · rename_i hfree
      obtain ⟨l, h1, h2⟩ := late_inv hlate hx
      have h3 : eev e (some nm) (restr b.ro.slots (A p)) (σ k) = some (v, newB (σ k) (some nm) (.cells l [] false false)) := by
        rw [← h2 (σ k)]
        exact eev_congr (fun x hx => (ev_restr (fun s hs => arg_slots (by rw [hop]; exact hx) hs)).symm)
      obtain ⟨l', c, ty, v', q1, q2, q3, q4⟩ := lsound hlate (o := b.o) (R.frame S I) (L0.mono I.g.ext) I.rep hokE h3
      have hl : l = l' := by
        have := congrArg (fun s => T.get nm s.h) q1
        simp only [get_newB, if_pos] at this
        cases this; rfl
      subst hl
      have hnone : ι nm = none := I.free p b e j nm R.at_ hop hn R.not
      obtain ⟨r1, r2⟩ := I.rep.name hnone (Nat.lt_of_lt_of_le (U.hi _ _ hn) I.g.nx) c ty (U.lo _ _ hn)
      have hself : nmSet ι nm ⟨w.heap.size, 0, c.size, 0⟩ nm = some ⟨w.heap.size, 0, c.size, 0⟩ := nmSet_self _ _ _
      have hv := q4 (nmSet ι nm ⟨w.heap.size, 0, c.size, 0⟩) hself
      have hne : ∀ q, q ≠ nm → nmSet ι nm ⟨w.heap.size, 0, c.size, 0⟩ q = ι q := fun q hq => by simp [nmSet, hq]
      have halone : ∀ q pq, nmSet ι nm ⟨w.heap.size, 0, c.size, 0⟩ q = some pq → pq.blk = w.heap.size → q = nm := fun q pq h1 h2 => by
        by_cases hq : q = nm
        · exact hq
        · rw [hne q hq] at h1
          have := (I.rep.pl q pq h1).lt
          omega
      unfold Oper.wp
      rw [q2]
      simp only [Oper.upon]
      refine hK _ _ ⟨nmSet ι nm ⟨w.heap.size, 0, c.size, 0⟩, k, { size := by simp [I.size], closed := R.closed S I, fsize := by rw [put_size]; exact I.fsize, defers := by rw [put_defers2]; exact I.defers, rep := r1, kle := I.kle, before := ?_, pend := ?_, free := ?_, slots := R.slots S T1 I r2.ext hv hA hok, g := I.g.trans (Nat.le_refl _) r2 }⟩
      · intro e' c' he hc ha
        exact (dn_set hlt).2 (.inr (I.before e' c' he hc ha))
      · intro e' c' he hc ha hd
        rw [dn_set hlt] at hd
        rcases hd with hd | hd
        · have := S.idx_inj hc R.at_ hd
          subst this
          rw [R.at_] at hc; cases hc
          refine ⟨e, j, nm, l, hop, hn, h1, _, hself, ?_, halone, ?_⟩
          · have hlen : l.length = c.size := by have := q3.1; simpa using this
            refine ⟨_, c, ty, hself, rfl, by rw [heap_alloc_if, if_pos rfl], rfl, by show 0 + l.length ≤ c.size; omega, fun i x y hx hy => ?_⟩
            refine (q3.2 i x y hx ?_).mono r2.ext
            simpa using hy
          · rintro ⟨q, o, plq, i1, i2, i3, i4⟩
            have hq := halone q plq i3 i4
            subst hq
            obtain ⟨pl, hpl⟩ := (I.rep.ob q o i1).place (Ob.wr_live i2)
            rw [hnone] at hpl; cases hpl
        · obtain ⟨x', j', nm', l', f1, f2, f3, f4⟩ := I.pend e' c' he hc ha hd
          exact ⟨x', j', nm', l', f1, f2, f3, f4.go I.rep r2⟩
      · intro e' c' x j' nm' hc e1 e2 hd
        have hd' : ¬ Dn listed c'.ro.idx := fun h => hd ((dn_set hlt).2 (.inr h))
        have hnm : nm' ≠ nm := fun e0 => by
          subst e0
          have hee : e' ≠ p := fun e0 => by
            subst e0
            rw [R.at_] at hc; cases hc
            exact hd ((dn_set hlt).2 (.inl rfl))
          exact S.late_ne hee hc R.at_ e1 hop (U.inj _ _ _ e2 hn)
        rw [hne nm' hnm]
        exact I.free e' c' x j' nm' hc e1 e2 hd'
    · cases hx
  · cases hx
theorem pairK_eff {x y : RO} {c : Bool} (h : pairK x y c = true) (hx : 2 ≤ kindN x.op) : kindN y.op = 0 ∨ kindN y.op = 3 := by
  unfold pairK at h
  split at h
  · omega
  · omega
  · split at h
    · left; assumption
    · right; assumption
    · cases h
theorem rdy_step (hpt : M.pt = E.pt) (hmt : MtOk P M.mt) (hc : CallOK P E.ng call) (S : Stat E n ops L) (T1 : Tr M call nms L A σ) (U : Names N nms (σ 0) ι0) (hN : N ≤ (σ 0).nx.nat) (L0 : Gl E.ng ι0) (I : Inv P n N ops L nms A σ ι0 w0 ι k listed a w) {p : Nat} {b : AO} (R : Rdy ops L listed p b)
    {K : Act → World → Prop} {Q : Exit → Act → World → Prop} (hK : ∀ a' w', (∃ ι k, Inv P n N ops L nms A σ ι0 w0 ι k (listed.setIfInBounds b.ro.idx true) a' w') → K a' w') : wpOp P ops Q b.ro.idx K a w := by
  obtain ⟨k, I, hmax⟩ := I.adv S T1 U _ _ rfl
  have hlt : b.ro.idx < listed.size := by rw [I.size]; exact R.lt
  have hp : p < L.length := (List.getElem?_eq_some_iff.1 R.at_).1
  obtain ⟨hop, hmask, hok, hedge⟩ := S.op p b R.at_
  simp only [okRO, Bool.and_eq_true] at hok
  obtain ⟨⟨hokX, hokD⟩, hokG⟩ := hok
  have hguard : ∀ q c, b.ro.gd = some (q, c) → ∀ v t, T.get q (A p) = some v → q.nat = t + 1 → VR ι v (a.tmps.getD t undef) := fun q c hg v t h1 h2 => R.slot S I (gslot_slots hg) h2 h1
  have hlow : k < p → kindN b.ro.op = 0 ∨ kindN b.ro.op = 3 := fun h => by
    rcases hmax with hm | ⟨c, hc1, hc2, hc3⟩
    · omega
    · obtain ⟨_, x, h5⟩ := R.lower S I h hc1 hc3
      exact pairK_eff h5 hc2.2
  unfold Go.wpOp
  rw [hop]
  simp only
  rcases xstep_inv (T1.step p b R.at_) with ⟨h1, h2, h3⟩ | ⟨h1, v, h2, h3, h4⟩
  · have hw := want_sound (n := n) (a := a) hguard hokG h1
    rw [hw]
    simp only [Bool.false_eq_true, if_false]
    refine hK _ _ ⟨ι, k, R.still S T1 I (fun h => ?_) (.mk_tup .nil) h2 hokD⟩
    have := h.1; rw [h1] at this; cases this
  · have hw := want_sound (n := n) (a := a) hguard hokG h1
    rw [hw]
    simp only [if_true]
    left
    by_cases hkind : 2 ≤ kindN b.ro.op
    · have hact : Actv A p b := ⟨h1, hkind⟩
      have hkp : k ≤ p := Nat.le_of_not_lt fun h => R.not (I.before p b h R.at_ hact)
      cases hl : isL b.ro.op with
      | true =>
        obtain ⟨e, j, he⟩ : ∃ e j, b.ro.op = .l e j := by
          generalize b.ro.op = x at hl
          cases x <;> first | (cases hl; done) | exact ⟨_, _, rfl⟩
        rw [he] at hokX
        simp only [okX, Bool.and_eq_true] at hokX
        exact R.late S T1 U L0 I hkp he hokX.1 hokX.2 hokD h1 h2 h3 hK
      | false =>
        have hk2 : kindN b.ro.op = 2 := by
          generalize b.ro.op = x at hl hkind
          cases x <;> first | rfl | (cases hl; done) | skip
          rename_i q
          exfalso
          simp only [kindN] at hkind
          split at hkind <;> omega
        have hkp : k = p := by
          rcases Nat.lt_or_ge k p with h | h
          · have := hlow h; omega
          · omega
        subst hkp
        have h5 : xop M call nms b.ro.op (restr b.ro.slots (A k)) (σ k) = some (v, σ (k + 1)) := by
          rw [← h2]
          exact xop_congr (fun x hx => (ev_restr (fun s hs => arg_slots hx hs)).symm)
        refine xop_sound hpt hmt hc (R.frame S I) (L0.mono I.g.ext) I.rep hokX hl h5 ?_
        intro ι' v' w' q1 q2 q3
        refine hK _ _ ⟨ι', k + 1, { size := by simp [I.size], closed := R.closed S I, fsize := by rw [put_size]; exact I.fsize, defers := by rw [put_defers2]; exact I.defers, rep := q2, kle := hp, before := ?_, pend := ?_, free := ?_, slots := R.slots S T1 I q3.ext q1 h3 hokD, g := I.g.trans (Nat.le_trans hN I.g.nx) q3 }⟩
        · intro e c he hc1 ha
          rw [dn_set hlt]
          by_cases hek : e = k
          · subst hek
            rw [R.at_] at hc1; cases hc1
            exact .inl rfl
          · exact .inr (I.before e c (by omega) hc1 ha)
        · intro e c he hc1 ha hd
          rw [dn_set hlt] at hd
          rcases hd with hd | hd
          · have := S.idx_inj hc1 R.at_ hd
            omega
          · obtain ⟨x', j', nm', l', f1, f2, f3, f4⟩ := I.pend e c (by omega) hc1 ha hd
            exact ⟨x', j', nm', l', f1, f2, f3, f4.go I.rep q3⟩
        · intro e c x j nm hc1 e1 e2 hd
          have hd' : ¬ Dn listed c.ro.idx := fun h => hd ((dn_set hlt).2 (.inr h))
          rw [q3.old nm (Nat.lt_of_lt_of_le (U.hi _ _ e2) I.g.nx)]
          exact I.free e c x j nm hc1 e1 e2 hd'
    · obtain ⟨q, hq⟩ := kindN_lt hkind
      have hnact : ¬ Actv A p b := fun h => hkind h.2
      have hv : qev M.pt q (A p) (σ p) = some v := by
        rw [hq] at h2
        simp only [xop, xQ, xL, xCallv, xInv, qevF_eq, eevF_eq] at h2
        split at h2
        · rename_i v' hv
          simp only [Option.some.injEq, Prod.mk.injEq] at h2
          rw [hv, h2.1]
        · cases h2
      have hvk : qev M.pt q (A p) (σ k) = some v := by
        cases hpure : isPure q with
        | true => rw [qev_pure hpure M.pt (A p) (σ k) (σ p)]; exact hv
        | false =>
          have hkp : p ≤ k := Nat.le_of_not_lt fun h => by
            have := hlow h
            rw [hq] at this
            simp [kindN, hpure] at this
          refine read_stable S T1 R.at_ hq hpure h1 hv k hkp I.kle (fun e c he1 he2 hc1 ha => ?_)
          exact (R.upper S I he1 hc1 (I.before e c he2 hc1 ha)).2
      rw [hq] at hokX
      have hvk : qev E.pt q (restr b.ro.slots (A p)) (σ k) = some v := by
        rw [← hvk, hpt]
        exact qev_congr (fun x hx => (ev_restr (fun s hs => arg_slots (by rw [hq]; exact hx) hs)).symm)
      obtain ⟨v', r1, r2⟩ := q_sound q (o := b.o) (R.frame S I) (L0.mono I.g.ext) I.rep hokX hvk
      unfold Oper.wp
      rw [r1]
      exact hK _ _ ⟨ι, k, R.still S T1 I hnact r2 h3 hokD⟩

theorem ready_rdy (S : Stat E n ops L) (hsz : listed.size = ops.size) {i : Nat} (h : i ∈ Region.ready .any ops listed) : ∃ (p : Nat) (b : AO), b.ro.idx = i ∧ Rdy ops L listed p b := by
  unfold Region.ready at h
  rw [List.mem_filter] at h
  obtain ⟨h1, h2⟩ := h
  have hi : i < ops.size := by simpa using h1
  obtain ⟨p, b, hp, hb⟩ := S.cov i hi
  have hop := (S.op p b hp).1
  rw [hb] at hop
  simp only [hop, Bool.and_eq_true, Bool.not_eq_true', Option.map_some, Option.getD_some] at h2
  refine ⟨p, b, hb, ⟨hp, by rw [hb]; exact hi, ?_, fun e he => ?_⟩⟩
  · intro hd
    rw [hb] at hd
    unfold Dn at hd
    have hil : i < listed.size := by omega
    have h3 := h2.1
    simp [Array.getD, hil] at h3 hd
    rw [h3] at hd; cases hd
  · obtain ⟨x, hx, rfl⟩ := List.mem_map.1 he
    rw [List.mem_filter] at hx
    have h4 := h2.2
    rw [Array.all_eq_true'] at h4
    have := h4 x (by simpa using hx.1)
    rw [hx.2] at this
    unfold Dn
    simpa using this
theorem not_ready_all (S : Stat E n ops L) (hsz : listed.size = ops.size) (h : Region.ready .any ops listed = []) : ∀ (p : Nat) (b : AO), L[p]? = some b → Dn listed b.ro.idx := by
  intro p
  induction p using Nat.strongRecOn with
  | _ p ih =>
    intro b hb
    obtain ⟨hop, _, _, hedge⟩ := S.op p b hb
    by_cases hd : Dn listed b.ro.idx
    · exact hd
    · exfalso
      have hlt : b.ro.idx < ops.size := (Array.getElem?_eq_some_iff.1 hop).1
      have hmem : b.ro.idx ∈ Region.ready .any ops listed := by
        unfold Region.ready
        rw [List.mem_filter]
        refine ⟨by simpa using hlt, ?_⟩
        simp only [hop, Bool.and_eq_true, Bool.not_eq_true', Option.map_some, Option.getD_some]
        constructor
        · have hil : b.ro.idx < listed.size := by omega
          unfold Dn at hd
          simp [Array.getD, hil] at hd ⊢
          exact hd
        · rw [Array.all_eq_true']
          intro x hx
          cases hbind : Region.binds .any x with
          | false => rfl
          | true =>
            have : x.on ∈ edgesB b.o := List.mem_map.2 ⟨x, List.mem_filter.2 ⟨by simpa using hx, hbind⟩, rfl⟩
            obtain ⟨j, c, hj, hc, he⟩ := hedge _ this
            have := ih j hj c hc
            rw [he] at this
            unfold Dn at this
            simpa using this
      rw [h] at hmem
      cases hmem
def cnt (listed : Array Bool) (m : Nat) : Nat := (List.range m).countP (fun i => !listed.getD i false)
theorem countP_lt {α : Type} {f g : α → Bool} : ∀ (l : List α), (∀ x ∈ l, g x = true → f x = true) → (∃ x ∈ l, f x = true ∧ g x = false) → l.countP g < l.countP f
  | [], _, h => by obtain ⟨x, h, _⟩ := h; cases h
  | y :: l, h1, h2 => by
    have hle : l.countP g ≤ l.countP f := List.countP_mono_left (fun x hx hg => h1 x (List.mem_cons_of_mem _ hx) hg)
    rw [List.countP_cons, List.countP_cons]
    obtain ⟨x, hx, hf, hg⟩ := h2
    rcases List.mem_cons.1 hx with rfl | hx
    · rw [hf, hg]; simp; omega
    · have := countP_lt l (fun x hx hg => h1 x (List.mem_cons_of_mem _ hx) hg) ⟨x, hx, hf, hg⟩
      cases hgy : g y with
      | true => rw [h1 y (by simp) hgy]; simp; omega
      | false => cases f y <;> simp <;> omega
theorem any_sound (hpt : M.pt = E.pt) (hmt : MtOk P M.mt) (hc : CallOK P E.ng call) (S : Stat E n ops L) (T1 : Tr M call nms L A σ) (U : Names N nms (σ 0) ι0) (hN : N ≤ (σ 0).nx.nat) (L0 : Gl E.ng ι0) {Q : Exit → Act → World → Prop}
    (hQ : ∀ ι' a' w', FR n ι' (A L.length) a' → Rep ι' (σ L.length) w' → G N ι0 (σ 0) w0 ι' (σ L.length) w' → Q .normal a' w') :
    ∀ (fuel : Nat) (listed : Array Bool) (a : Act) (w : World), cnt listed ops.size ≤ fuel → (∃ ι k, Inv P n N ops L nms A σ ι0 w0 ι k listed a w) → wpAny P .any ops Q fuel listed a w := by
  have fin : ∀ (listed : Array Bool) (a : Act) (w : World), (∃ ι k, Inv P n N ops L nms A σ ι0 w0 ι k listed a w) → Region.ready .any ops listed = [] → Q .normal a w := by
    rintro listed a w ⟨ι, k, I⟩ hr
    have hall := not_ready_all S I.size hr
    obtain ⟨k', I, hk⟩ := I.adv S T1 U _ _ rfl
    have hk : k' = L.length := by
      rcases hk with hk | ⟨b, hb, _, hd⟩
      · exact hk
      · exact absurd (hall _ b hb) hd
    subst hk
    refine hQ ι a w ⟨I.fsize, I.defers, fun s v t h1 h2 => ?_⟩ I.rep I.g
    refine I.slots s t _ v h2 (Nat.le_refl _) (fun q b hb _ => ⟨fun _ => (List.getElem?_eq_some_iff.1 hb).1, fun _ => hall q b hb⟩) h1
  intro fuel
  induction fuel with
  | zero =>
    rintro listed a w hcnt ⟨ι, k, I⟩
    have hr : Region.ready .any ops listed = [] := by
      cases hr : Region.ready .any ops listed with
      | nil => rfl
      | cons i l =>
        obtain ⟨p, b, rfl, R⟩ := ready_rdy S I.size (listed := listed) (i := i) (by rw [hr]; simp)
        exfalso
        have hz : cnt listed ops.size = 0 := by omega
        unfold cnt at hz
        rw [List.countP_eq_zero] at hz
        have := hz b.ro.idx (by simpa using R.lt)
        have hn := R.not
        unfold Dn at hn
        simp at this hn
        rw [hn] at this
        cases this
    exact ⟨hr, fin listed a w ⟨ι, k, I⟩ hr⟩
  | succ fuel ih =>
    rintro listed a w hcnt ⟨ι, k, I⟩
    refine ⟨fun hr => fin listed a w ⟨ι, k, I⟩ hr, fun i hi => ?_⟩
    obtain ⟨p, b, rfl, R⟩ := ready_rdy S I.size hi
    refine rdy_step hpt hmt hc S T1 U hN L0 I R ?_
    intro a' w' hI
    refine ih _ a' w' ?_ hI
    have hlt : b.ro.idx < listed.size := by rw [I.size]; exact R.lt
    have : cnt (listed.setIfInBounds b.ro.idx true) ops.size < cnt listed ops.size := by
      refine countP_lt _ (fun x _ hx => ?_) ⟨b.ro.idx, by simpa using R.lt, ?_, ?_⟩
      · have h2 := mt (fun h => (dn_set (x := x) hlt).2 (.inr h))
        unfold Dn at h2
        simp only [Bool.not_eq_true'] at hx ⊢
        cases h3 : listed.getD x false with
        | false => rfl
        | true => exact absurd h3 (h2 (by rw [hx]; simp))
      · have hn := R.not
        unfold Dn at hn
        cases h3 : listed.getD b.ro.idx false with
        | false => rfl
        | true => exact absurd h3 hn
      · have := (dn_set (x := b.ro.idx) hlt).2 (.inl rfl)
        unfold Dn at this
        rw [this]; rfl
    omega
theorem rgd_sound (hpt : M.pt = E.pt) (hmt : MtOk P M.mt) (hm : P.follows .mixedOrders = true) (n : Nat) : RgdSound P E M n (okD E n) := by
  intro call hc id k l ops hok ι A0 A' a σ0 σ' w Q hr F L0 R hQ
  obtain ⟨L, hL, S⟩ := stat_of_okD hok
  rw [← hL] at hr
  obtain ⟨A, σ, e1, e2, T1, e3, e4⟩ := tr_of_run L _ _ _ _ hr
  have hnx : (namesOf k σ0.nx).2.nat = σ0.nx.nat + k := namesOf_nx k σ0.nx
  have h0 : σ 0 = ⟨σ0.h, (namesOf k σ0.nx).2⟩ := e2
  have U : Names σ0.nx.nat (namesOf k σ0.nx).1 (σ 0) ι := by
    constructor
    · intro j nm h; have := namesOf_get _ _ _ _ h; omega
    · intro j nm h
      have := namesOf_get _ _ _ _ h
      rw [h0]; show nm.nat < (namesOf k σ0.nx).2.nat
      omega
    · intro i j nm h1 h2
      have h1 := namesOf_get _ _ _ _ h1
      have h2 := namesOf_get _ _ _ _ h2
      omega
    · intro j nm h
      have := namesOf_get _ _ _ _ h
      cases hn : ι nm with
      | none => rfl
      | some pl => have := R.dom nm pl hn; omega
  refine wp_region_any hm ?_
  refine any_sound (w0 := w) hpt hmt hc S T1 U (by rw [h0]; show _ ≤ (namesOf k σ0.nx).2.nat; omega) L0 ?_ _ _ _ _ ?_ ⟨ι, 0, ?_⟩
  · intro ι' a' w' F' R' G'
    rw [e3] at F'
    rw [e4] at R' G'
    refine hQ ι' a' w' F' R' { G' with nx := ?_, keep := ?_, img := ?_, new := ?_ }
    · have := G'.nx
      rw [h0] at this
      have : (namesOf k σ0.nx).2.nat ≤ σ'.nx.nat := this
      omega
    · intro r hr hi
      exact G'.keep r hr (fun x => hi (by rw [h0] at x; exact x))
    · intro r hr hi
      have := G'.img r hr hi
      rw [h0] at this; exact this
    · intro q pl h1 h2 h3
      have := G'.new q pl h1 h2 h3
      rw [h0] at this; exact this
  · refine Nat.le_trans List.countP_le_length ?_
    simp
  · have hno : ∀ i, ¬ Dn (Array.replicate ops.size false) i := fun i h => by
      unfold Dn at h
      rw [Array.getD_eq_getD_getElem?, Array.getElem?_replicate] at h
      split at h <;> simp at h
    refine { size := by simp, closed := fun i o _ h => absurd h (hno i), fsize := F.size, defers := F.defers, rep := ?_, kle := Nat.zero_le _, before := fun e b h => absurd h (Nat.not_lt_zero _), pend := fun e b _ _ _ h => absurd h (hno _), free := fun e b x j nm _ _ h _ => U.none j nm h, slots := ?_, g := ?_ }
    · rw [h0]
      exact (R.nx (by rw [hnx]; omega)).drew
    · intro s t j v hs hj hw hv
      have hA : T.get s (A j) = T.get s (A 0) := T1.slot j (Nat.zero_le _) hj (fun q b _ hq hb hd => hno _ ((hw q b hb hd).2 hq))
      rw [hA, e1] at hv
      exact F.at_ s v t hv hs
    · exact G.drew _ _ _ _
end
end Go.Proofs.YtknhohgnilamcaaGreatDoor
