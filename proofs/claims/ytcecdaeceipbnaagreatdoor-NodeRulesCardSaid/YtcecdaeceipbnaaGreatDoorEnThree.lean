/-
  The abstract machine: texts joined. (Of no program.)
-/
import Derived.Test.YtcecdaeceipbnaaGreatDoorEnTwo
import Derived.MapKept
import Derived.DeepKeys3
import Derived.Stop.LaidErr
import Derived.Below
import Derived.RangeFuncSeq
import Derived.RangeFuncGives
import Derived.RangeFuncLeaves
/-
  Regions that draw their order are sound. (Of no program.)
-/
namespace Go.Proofs.YtcecdaeceipbnaaGreatDoor
set_option linter.unusedVariables false
set_option linter.unusedSimpArgs false
set_option linter.unusedSectionVars false
open Go

section
variable {P : Program} {E : Env P} {M : Mach} {call : Pos → List V → St → Option (V × St)} {n N : Nat} {ds : List Deferred} {ops : Array Oper} {L : List AO} {nms : List Pos} {A : Nat → T V} {σ : Nat → St} {ι0 ι : Nm} {w0 w : World} {k : Nat} {listed : Array Bool} {a : Act}

theorem Pend.go {ι' : Nm} {w' : World} {s s' : St} {nm : Pos} {ob : Ob} {N' : Nat} (h : Pend ι w s nm ob) (R : Rep ι s w) (g : G N' ι s w ι' s' w') : Pend ι' w' s' nm ob := by
  obtain ⟨pl, h1, h2, h0, h3, h4⟩ := h
  have hlt := (R.pl _ _ h1).lt
  refine ⟨pl, g.ext _ _ h1, h2.keep g.ext (fun pl' h5 _ => ?_), h0, fun q pq h5 h6 => ?_, fun h5 => h4 (g.img _ hlt h5)⟩
  · rw [h1] at h5; cases h5
    exact g.keep _ hlt h4
  · cases hq : ι q with
    | none => exact absurd (by have := g.new q pq h5 hq (by rw [h6]; exact hlt); rw [h6] at this; exact this) h4
    | some p1 =>
      have := g.ext q p1 hq
      rw [h5] at this; cases this
      exact h3 q pq hq h6
theorem lsound {e : EOp} (h : isLate e = true) (hm : ∀ ks, e ≠ .mkm ks) : LSound E e := by
  cases e <;> first | (cases h; done) | skip
  · exact l_alo _
  · exact l_box _ _
  · exact l_bsl _ _ _ _
  · exact absurd rfl (hm _)
theorem late_npv {e : EOp} (h : isLate e = true) : isPv e = false := by cases e <;> first | rfl | cases h
/-- a block that nobody knows yet is made: it gets its name, but nothing is said of it -/
theorem Rep.name2 {ι : Nm} {s : St} {w : World} (R : Rep ι s w) {p : Pos} (hp : ι p = none) (h2 : p.nat < s.nx.nat) {ro : Obj} {pl0 : Pl} (hb : pl0.blk = w.heap.size) (hok : PlOk (w.alloc ro) pl0) {N : Nat} (hN : N ≤ p.nat) :
    Rep (nmSet ι p pl0) s (w.alloc ro) ∧ G N ι s w (nmSet ι p pl0) s (w.alloc ro) := by
  have hx : Ext ι (nmSet ι p pl0) := nmSet_ext hp
  have hold : ∀ r, r < w.heap.size → (w.alloc ro).heap[r]? = w.heap[r]? := fun r hr => by rw [heap_alloc_if, if_neg (by omega)]
  have hι : ∀ q, q ≠ p → nmSet ι p pl0 q = ι q := fun q hq => by simp [nmSet, hq]
  have hlt : ∀ q pl, ι q = some pl → pl.blk < w.heap.size := fun q pl hq => (R.pl q pl hq).lt
  have hlive : ∀ q o, T.get q s.h = some o → o.live = true → q ≠ p := fun q o hq hl e => by
    subst e
    obtain ⟨pl, h⟩ := (R.ob q o hq).place hl
    rw [hp] at h; cases h
  constructor
  · constructor
    · intro q o hq
      exact (R.ob q o hq).keep hx fun pl h3 _ => hold _ (hlt q pl h3)
    · intro q pl hq
      by_cases e1 : q = p
      · subst e1; rw [nmSet_self] at hq; cases hq
        exact hok
      · rw [hι q e1] at hq
        exact (R.pl q pl hq).heap fun r hr o k => (hold r hr).trans k
    · intro q pl hq
      by_cases e1 : q = p
      · subst e1; exact h2
      · rw [hι q e1] at hq; exact R.dom q pl hq
    · exact R.hdom
    · intro q o q' o' a b hq hw hq' hl ha hb hab hqq
      rw [hι q (hlive q o hq hw)] at ha
      rw [hι q' (hlive q' o' hq' hl)] at hb
      exact R.sep2 q o q' o' a b hq hw hq' hl ha hb hab hqq
    · exact R.kin
    · exact R.kpres
    · intro q o q' o' a b hq hw hk hq' hl ha hb hab
      rw [hι q (hlive q o hq (Ob.wr_live hw))] at ha
      rw [hι q' (hlive q' o' hq' hl)] at hb
      exact R.fin q o q' o' a b hq hw hk hq' hl ha hb hab
  · refine ⟨hx, fun q hq => hι q (fun e => by subst e; omega), Nat.le_refl _, by rw [World.size_alloc]; omega, rfl, rfl, rfl, fun r hr _ => hold r hr, ?_, fun q pl h3 h4 h5 => by
      by_cases e1 : q = p
      · subst e1; rw [nmSet_self] at h3; cases h3; omega
      · rw [hι q e1, h4] at h3; cases h3⟩
    rintro r hr ⟨q, o, pl, hq, hw, hpl', rfl⟩
    rw [hι q (hlive q o hq (Ob.wr_live hw))] at hpl'
    exact ⟨q, o, pl, hq, hw, hpl', rfl⟩
/-- what a late operation makes -/
theorem lsound2 {e : EOp} (h : isLate e = true) {n : Nat} {ds : List Deferred} {ι : Nm} {B : T V} {a : Act} {s s' : St} {w : World} {o : Oper} {v : V} {nm : Pos} (F : FR n ds ι B a) (L0 : Gl E.ng ι) (R : Rep ι s w) (hok : okE E e o.op = true) (hx : eev e (some nm) B s = some (v, s')) :
    ∃ ob ro pl v', s' = newB s (some nm) ob ∧ ob.kin = [] ∧ (execOp a.eval o).run P w = .ok (.value v') (w.alloc ro) ∧ pl.blk = w.heap.size ∧ PlOk (w.alloc ro) pl ∧
      ∀ ι' : Nm, Ext ι ι' → ι' nm = some pl → ObR ι' (w.alloc ro) nm ob ∧ VR ι' v v' := by
  by_cases hm : ∀ ks, e ≠ .mkm ks
  · obtain ⟨l, c, ty, v', q1, q2, q3, q4⟩ := lsound h hm (o := o) F.self L0 R hok hx
    refine ⟨.cells l [] false false, .cells c ty, ⟨w.heap.size, 0, c.size, 0⟩, v', q1, rfl, q2, rfl, ⟨fun _ => ⟨c, ty, by rw [heap_alloc_if, if_pos rfl], rfl⟩, (fun h => by cases h), (fun h => by cases h), (fun h => by cases h), Nat.zero_le _⟩, fun ι' hx hι => ⟨?_, q4 ι' hι⟩⟩
    have hlen : l.length = c.size := by have := q3.1; simpa using this
    refine ⟨_, c, ty, hι, rfl, by rw [heap_alloc_if, if_pos rfl], rfl, by show 0 + l.length ≤ c.size; omega, fun i x y hx' hy => ?_⟩
    refine (q3.2 i x y hx' ?_).mono hx
    simpa using hy
  · have : ∃ ks, e = .mkm ks := Classical.byContradiction fun hno => hm fun ks hks => hno ⟨ks, hks⟩
    obtain ⟨ks, rfl⟩ := this
    obtain ⟨d, op, ty, pos, af, g⟩ := o
    cases op <;> simp only [okE, Bool.false_eq_true, Bool.and_eq_true] at hok
    rename_i t r
    obtain ⟨h1, h2⟩ := hok
    simp only [eev, Option.some.injEq, Prod.mk.injEq] at hx
    obtain ⟨rfl, rfl⟩ := hx
    have hk : PlOk (w.alloc (.map #[] 0)) ⟨w.heap.size, 0, 0, 1⟩ := ⟨(fun h => by cases h), fun _ => ⟨#[], 0, by rw [heap_alloc_if, if_pos rfl]⟩, (fun h => by cases h), (fun h => by cases h), by simp⟩
    refine ⟨.map [] 0 ks, .map #[] 0, ⟨w.heap.size, 0, 0, 1⟩, .map (some w.heap.size), rfl, rfl, exv2 (s := Instr.makeMap t (r.map a.eval)) rfl ?_, rfl, hk, fun ι' _ hι => ⟨⟨_, #[], hι, rfl, by rw [heap_alloc_if, if_pos rfl], rfl, fun i x y h => by simp at h, fun i x h => by simp at h, fun i j x y h => by simp at h⟩, .map _ _ hι rfl⟩⟩
    split at h2
    · rename_i k e hu
      split at h1
      · simp only [Option.map_none, Instr.makeMap, newObj, Sem.run_bind, Sem.run, Result.andThen, Sem.run_pure]; rfl
      · simp only [Option.map_some, Act.eval, Instr.makeMap, Sem.run_bind, run_underlying hu, Result.andThen_ok, asInt, asIntOf, Sem.run_pure, newObj, Sem.run, Result.andThen]; rfl
      · cases h1
    · cases h2
theorem Rdy.late (S : Stat E n ops L) (T1 : Tr M call nms L A σ) (U : Names N nms (σ 0) ι0) (L0 : Gl E.ng ι0) (I : Inv P n ds N ops L nms A σ ι0 w0 ι k listed a w) {p : Nat} {b : AO} (R : Rdy ops L listed p b) (hkp : k ≤ p) {e : EOp} {j : Nat} (hop : b.ro.op = .l e j) (hokE : okE E e b.o.op = true) (hlate : isLate e = true) (hok : okDst n b.ro.dst b.o.dst = true)
    (hw : wantG (A p) b.ro.gd = some true) {v : V} (hx : xop M call nms b.ro.op (A p) (σ p) = some (v, σ (p + 1))) (hA : A (p + 1) = putD (A p) b.ro.dst v) {K : Act → World → Prop} {Q : Exit → Act → World → Prop}
    (hK : ∀ a' w', (∃ ι k, Inv P n ds N ops L nms A σ ι0 w0 ι k (listed.setIfInBounds b.ro.idx true) a' w') → K a' w') : b.o.wp P a w K Q := by
  have hlt : b.ro.idx < listed.size := by rw [I.size]; exact R.lt
  have hnpv := late_npv hlate
  rw [hop] at hx
  simp only [xop, xQ, xL, xCallv, xInv, qevF_eq, eevF_eq, hnpv] at hx
  split at hx
  · rename_i nm hn
    rw [lget_eq] at hn
    split at hx
    · rename_i hfree
      obtain ⟨ob, hkin, h1, h2⟩ := late_inv hlate hx
      have h3 : eev e (some nm) (restr b.ro.slots (A p)) (σ k) = some (v, newB (σ k) (some nm) ob) := by
        rw [← h2 (σ k)]
        exact eev_congr (fun x hx => (ev_restr (fun s hs => arg_slots (by rw [hop]; exact hx) hs)).symm)
      obtain ⟨ob', ro, pl0, v', q1, q0, q2, q5, q6, q7⟩ := lsound2 hlate (o := b.o) (R.frame S I) (L0.mono I.g.ext) I.rep hokE h3
      have hl : ob = ob' := by
        have := congrArg (fun s => T.get nm s.h) q1
        simp only [get_newB, if_pos] at this
        cases this; rfl
      subst hl
      have hnone : ι nm = none := I.free p b e j nm R.at_ hop hnpv hn R.not
      obtain ⟨r1, r2⟩ := I.rep.name2 hnone (Nat.lt_of_lt_of_le (U.hi _ _ hn) I.g.nx) q5 q6 (U.lo _ _ hn)
      have hself : nmSet ι nm pl0 nm = some pl0 := nmSet_self _ _ _
      obtain ⟨hob, hv⟩ := q7 (nmSet ι nm pl0) r2.ext hself
      have hne : ∀ q, q ≠ nm → nmSet ι nm pl0 q = ι q := fun q hq => by simp [nmSet, hq]
      have halone : ∀ q pq, nmSet ι nm pl0 q = some pq → pq.blk = pl0.blk → q = nm := fun q pq h1 h2 => by
        by_cases hq : q = nm
        · exact hq
        · rw [hne q hq] at h1
          have := (I.rep.pl q pq h1).lt
          omega
      have hfst : ∀ (i : Nat) (d : AO) (y : EOp), L[i]? = some d → d.ro.op = .l y j → p ≤ i := fun i d y i1 i2 => Nat.le_of_not_lt fun hlt => by
        have := (S.same hlt i1 R.at_ i2 hop).2.2.1
        rw [hop] at this
        rw [kind_pv this] at hnpv; cases hnpv
      have hnd : ∀ (i : Nat) (d : AO) (y : EOp), L[i]? = some d → d.ro.op = .l y j → ¬ Dn listed d.ro.idx := fun i d y i1 i2 hd => by
        by_cases e' : p = i
        · subst e'; rw [R.at_] at i1; cases i1; exact R.not hd
        · have hpi := hfst i d y i1 i2
          have hs := S.same (by omega) R.at_ i1 hop i2
          exact R.not ((S.op i d i1).2.1 (Dn listed) I.closed (I.closed _ _ (S.op i d i1).1 hd) _ hs.2.1)
      unfold Oper.wp
      rw [q2]
      simp only [Oper.upon]
      refine hK _ _ ⟨nmSet ι nm pl0, k, { size := by simp [I.size], closed := R.closed S I, fsize := by rw [put_size]; exact I.fsize, defers := by rw [put_defers2]; exact I.defers, rep := r1, kle := I.kle, before := ?_, pend := ?_, cont := ?_, clean := I.clean, free := ?_, slots := R.slots S T1 I r2.ext hv hA hok, g := I.g.trans (Nat.le_refl _) r2 }⟩
      · intro e' c' he hc ha
        exact (dn_set hlt).2 (.inr (I.before e' c' he hc ha))
      · intro e' c' he hc ha hd
        rw [dn_set hlt] at hd
        rcases hd with hd | hd
        · have := S.idx_inj hc R.at_ hd
          subst this
          rw [R.at_] at hc; cases hc
          exact ⟨e, j, hop⟩
        · exact I.pend e' c' he hc ha hd
      · intro e' c' x' j' nm' p' he hc f1 f2 f3 f4 f5 f6 f7 f8
        by_cases hj : j' = j
        · subst hj
          rw [hn] at f2; cases f2
          have hep : e' = p := by
            refine Classical.byContradiction fun hne' => ?_
            rw [dn_set hlt] at f4
            rcases f4 with f4 | f4
            · exact hne' (S.idx_inj hc R.at_ f4)
            · exact hnd e' c' x' hc f1 f4
          subst hep
          refine ⟨ob, ?_, pl0, hself, hob, hkin, halone, ?_⟩
          · rw [(T1.calm S (p := e' + 1) p' (by omega) f6 (fun i d i1 i2 i3 => f7 i d (by omega) i2 i3)).2 nm (fun i d y j2 i1 i2 i3 i4 i5 i6 => ?_)]
            · rw [h1, get_newB, if_pos rfl]
            · have := U.inj _ _ _ i6 hn
              subst this
              have := (f8 i d y i3 i4).2 i2
              rw [dn_set hlt] at this
              rcases this with this | this
              · have := S.idx_inj i3 R.at_ this
                omega
              · exact hnd i d y i3 i4 this
          · rintro ⟨q, o, plq, i1, i2, i3, i4⟩
            have hq := halone q plq i3 i4
            subst hq
            obtain ⟨pl, hpl⟩ := (I.rep.ob q o i1).place (Ob.wr_live i2)
            rw [hnone] at hpl; cases hpl
        · have hdn : ∀ (q : Nat) (d : AO) (y : EOp), L[q]? = some d → d.ro.op = .l y j' → (Dn (listed.setIfInBounds b.ro.idx true) d.ro.idx ↔ Dn listed d.ro.idx) := fun q d y i1 i2 => by
            rw [dn_set hlt]
            refine ⟨fun h => h.resolve_left fun e' => ?_, .inr⟩
            have := S.idx_inj i1 R.at_ e'
            subst this
            rw [R.at_] at i1; cases i1
            rw [hop] at i2; cases i2
            exact hj rfl
          obtain ⟨ob2, t1, t2⟩ := I.cont e' c' x' j' nm' p' he hc f1 f2 f3 ((hdn e' c' x' hc f1).1 f4) f5 f6 f7 (fun q d y i1 i2 => by rw [← hdn q d y i1 i2]; exact f8 q d y i1 i2)
          exact ⟨ob2, t1, t2.go I.rep r2⟩
      · intro e' c' x j' nm' hc e1 e0 e2 hd
        have hd' : ¬ Dn listed c'.ro.idx := fun h => hd ((dn_set hlt).2 (.inr h))
        have hnm : nm' ≠ nm := fun e0' => by
          subst e0'
          have hj := U.inj _ _ _ e2 hn
          subst hj
          have h5 := hfst e' c' x hc e1
          by_cases e' : p = e'
          · subst e'; rw [R.at_] at hc; cases hc
            exact hd ((dn_set hlt).2 (.inl rfl))
          · have := (S.same (by omega) R.at_ hc hop e1).2.2.1
            rw [e1] at this
            rw [kind_pv this] at e0; cases e0
        rw [hne nm' hnm]
        exact I.free e' c' x j' nm' hc e1 e0 e2 hd'
    · cases hx
  · cases hx
/-- where a block of the region's own is all that is known -/
theorem Pend.tiny {s : St} {nm : Pos} {ob : Ob} (R : Rep ι s w) (h : Pend ι w s nm ob) : Rep ι ⟨T.set ob nm .nil, s.nx⟩ w := by
  obtain ⟨pl, h1, h2, h0, h3, h4⟩ := h
  have R0 : Rep ι ⟨.nil, s.nx⟩ w := R.drop rfl (fun q o hq => by rw [T.get_nil] at hq; cases hq) (fun q o r hq => by rw [T.get_nil] at hq; cases hq)
  refine R0.adopts rfl (fun q o hq => by rw [T.get_nil] at hq; cases hq) (fun q o hq => ?_)
  rw [T.get_set] at hq
  split at hq
  · rename_i e; subst e; cases hq
    exact .inr ⟨T.get_nil _, pl, h1, h2, h0, h3⟩
  · rw [T.get_nil] at hq; cases hq
theorem pv_read {a : Arg} {n : Nat} {ds : List Deferred} {B : T V} {ac : Act} {s s' : St} {o : Oper} {v : V} {nm : Pos} (F : FR n ds ι B ac) (L0 : Gl E.ng ι) (R : Rep ι s w) (hok : okP E (.prd a) o.op = true) (hx : eev (.prd a) (some nm) B s = some (v, s')) :
    ∃ v', (execOp ac.eval o).run P w = .ok (.value v') w ∧ VR ι v v' := by
  have hq : qev E.pt (.ld1 a) B s = some v := by
    simp only [eev] at hx
    split at hx
    · rename_i q o' hq
      split at hx
      · rename_i hb
        have := pbeq hb
        subst this
        split at hx
        · rename_i l kin fz ro hg
          split at hx
          · rename_i x hx'
            simp only [Option.some.injEq, Prod.mk.injEq] at hx
            obtain ⟨rfl, rfl⟩ := hx
            simp only [qev, hq, hg, hx']
          · cases hx
        · cases hx
      · cases hx
    · cases hx
  exact q_sound (.ld1 a) F.self L0 R hok hq
theorem pv_put {m k u : Arg} {ks : KSh} {n : Nat} {ds : List Deferred} {B : T V} {ac : Act} {s s' : St} {o : Oper} {v : V} {nm : Pos} (F : FR n ds ι B ac) (L0 : Gl E.ng ι) (R : Rep ι s w) (hok : okP E (.pin m k u ks) o.op = true) (hx : eev (.pin m k u ks) (some nm) B s = some (v, s')) :
    ∃ w', (execOp ac.eval o).run P w = .ok .skip w' ∧ v = .u ∧ Rep ι s' w' ∧ G s.nx.nat ι s w ι s' w' ∧ ∃ es ck, T.get nm s.h = some (.map es ck ks) := by
  obtain ⟨d, op, ty, pos, af, g⟩ := o
  have hok' : okE E (.mup m k u ks) op = true := hok
  clear hok
  cases op <;> simp only [okE, Bool.false_eq_true, Bool.and_eq_true] at hok'
  all_goals
    rename_i t m' k' v'
    obtain ⟨⟨⟨h1, h2⟩, h3⟩, h4⟩ := hok'
    split at h4
    · rename_i kt et hu
      have K := E.mgood _ (by simpa using h4)
      simp only [eev] at hx
      split at hx
      · rename_i q' hm
        split at hx
        · rename_i hb
          have := pbeq hb
          subst this
          split at hx
          · rename_i hsh
            split at hx
            · rename_i q hm2
              cases hm2
              split at hx
              · rename_i es ck ks' hg
                split at hx
                · rename_i hks
                  have hks : ks' = ks := of_decide_eq_true hks
                  subst hks
                  have hv : v = .u := by split at hx <;> cases hx <;> rfl
                  subst hv
                  obtain ⟨w', r1, r2, r3⟩ := upd_map (t := t) R hu K hg hsh (ev_sound F L0 h2) (ev_sound F L0 h3) (ev_as F L0 h1 hm) hx
                  exact ⟨w', exu (s := Instr.mapUpdate t (ac.eval m') (ac.eval k') (ac.eval v')) rfl r1, rfl, r2, r3, es, ck, hg⟩
                · cases hx
              · cases hx
            · rename_i hx'
              exact absurd rfl (hx' _)
          · cases hx
        · cases hx
      · cases hx
    · cases h4
theorem Rdy.priv (S : Stat E n ops L) (T1 : Tr M call nms L A σ) (U : Names N nms (σ 0) ι0) (L0 : Gl E.ng ι0) (I : Inv P n ds N ops L nms A σ ι0 w0 ι k listed a w) {p : Nat} {b : AO} (R : Rdy ops L listed p b) (hkp : k ≤ p) {e : EOp} {j : Nat} (hop : b.ro.op = .l e j) (hokE : okP E e b.o.op = true) (hpv : isPv e = true) (hok : okDst n b.ro.dst b.o.dst = true)
    (hw : wantG (A p) b.ro.gd = some true) {v : V} (hx : xop M call nms b.ro.op (A p) (σ p) = some (v, σ (p + 1))) (hA : A (p + 1) = putD (A p) b.ro.dst v) {K : Act → World → Prop} {Q : Exit → Act → World → Prop}
    (hK : ∀ a' w', (∃ ι k, Inv P n ds N ops L nms A σ ι0 w0 ι k (listed.setIfInBounds b.ro.idx true) a' w') → K a' w') : b.o.wp P a w K Q := by
  have hlt : b.ro.idx < listed.size := by rw [I.size]; exact R.lt
  have hpl : p < L.length := (List.getElem?_eq_some_iff.1 R.at_).1
  have hactp : Actv A p b := (act_l hop).2 hw
  rw [hop] at hx
  simp only [xop, xQ, xL, xCallv, xInv, qevF_eq, eevF_eq, hpv] at hx
  split at hx
  · rename_i nm hn
    rw [lget_eq] at hn
    replace hx : eev e (some nm) (A p) (σ p) = some (v, σ (p + 1)) := by split at hx <;> exact hx
    obtain ⟨ob, ob', g1, g2, g3, g4, g5⟩ := priv_inv hpv hx
    obtain ⟨p0, a0, e0, c1, c2, c3, c4⟩ := S.cr p b e j R.at_ hop
    have hp0 : p0 < p := by
      refine Nat.lt_of_le_of_ne c1 fun e' => ?_
      subst e'
      rw [R.at_] at c2; cases c2
      rw [hop] at c3; cases c3
      rw [hpv] at c4; cases c4
    have sm := S.same hp0 c2 R.at_ c3 hop
    have hact0 : Actv A p0 a0 := (T1.same hp0 c2 R.at_ c3 hop sm).2 hactp
    have hdn0 : Dn listed a0.ro.idx := (S.op p b R.at_).2.1 (Dn listed) I.closed R.edges _ sm.2.1
    have hk0 : k ≤ p0 := Nat.le_of_not_lt fun hlt' => by
      obtain ⟨m, m1, m2, m3⟩ := I.clean p0 a0 e0 j hlt' c2 c3 hact0
      rcases m3 with m3 | ⟨d, m3, m4⟩
      · omega
      · by_cases e' : m = p
        · subst e'; rw [R.at_] at m3; cases m3
          rw [isN_l hop] at m4; cases m4
        · have := (sm.2.2.2.2 m d m1 (by omega) m3).2
          rw [this] at m4; cases m4
    have hpre : ∀ (q : Nat) (c : AO) (y : EOp), L[q]? = some c → c.ro.op = .l y j → (Dn listed c.ro.idx ↔ q < p) := fun q c y i1 i2 => by
      rcases Nat.lt_trichotomy q p with h | h | h
      · exact ⟨fun _ => h, fun _ => (S.op p b R.at_).2.1 (Dn listed) I.closed R.edges _ (S.same h i1 R.at_ i2 hop).2.1⟩
      · subst h; rw [R.at_] at i1; cases i1
        exact ⟨fun h => absurd h R.not, fun h => absurd h (Nat.lt_irrefl _)⟩
      · refine ⟨fun hd => absurd ?_ R.not, fun h' => absurd h' (by omega)⟩
        exact (S.op q c i1).2.1 (Dn listed) I.closed (I.closed _ _ (S.op q c i1).1 hd) _ (S.same h R.at_ i1 hop i2).2.1
    obtain ⟨obx, t1, t2⟩ := I.cont p0 a0 e0 j nm p hk0 c2 c3 hn hact0 hdn0 hp0 (by omega) (fun q c i1 i2 i3 => (sm.2.2.2.2 q c i1 i2 i3).2) hpre
    rw [g1] at t1; cases t1
    have RT := t2.tiny I.rep
    obtain ⟨σ2, y1, y2, y3⟩ := g5 ⟨T.set ob nm .nil, (σ k).nx⟩ (by rw [T.get_set, if_pos rfl])
    replace y1 : eev e (some nm) (restr b.ro.slots (A p)) ⟨T.set ob nm .nil, (σ k).nx⟩ = some (v, σ2) := by
      rw [← y1]
      exact eev_congr (fun x hx => (ev_restr (fun s hs => arg_slots (by rw [hop]; exact hx) hs)).symm)
    have hupd : ∀ (q : Nat) (d : AO) (y : EOp) (j' : Nat), L[q]? = some d → d.ro.op = .l y j' → j' ≠ j → (Dn (listed.setIfInBounds b.ro.idx true) d.ro.idx ↔ Dn listed d.ro.idx) := fun q d y j' i1 i2 hne => by
      rw [dn_set hlt]
      refine ⟨fun h => h.resolve_left fun e' => ?_, .inr⟩
      have := S.idx_inj i1 R.at_ e'
      subst this
      rw [R.at_] at i1; cases i1
      rw [hop] at i2; cases i2
      exact hne rfl
    have main : ∀ (w' : World) (v' : Value), VR ι v v' → Rep ι (σ k) w' → G N ι0 (σ 0) w0 ι (σ k) w' → Pend ι w' (σ k) nm ob' → (∀ nm2 ob2, nm2 ≠ nm → Pend ι w (σ k) nm2 ob2 → Pend ι w' (σ k) nm2 ob2) → K (a.put b.o.dst v') w' := fun w' v' hv hR hG hP hO => by
      refine hK _ _ ⟨ι, k, { size := by simp [I.size], closed := R.closed S I, fsize := by rw [put_size]; exact I.fsize, defers := by rw [put_defers2]; exact I.defers, rep := hR, kle := I.kle, before := ?_, pend := ?_, cont := ?_, clean := I.clean, free := ?_, slots := R.slots S T1 I (.refl ι) hv hA hok, g := hG }⟩
      · intro e' c' he hc ha
        exact (dn_set hlt).2 (.inr (I.before e' c' he hc ha))
      · intro e' c' he hc ha hd
        rw [dn_set hlt] at hd
        rcases hd with hd | hd
        · have := S.idx_inj hc R.at_ hd
          subst this
          rw [R.at_] at hc; cases hc
          exact ⟨e, j, hop⟩
        · exact I.pend e' c' he hc ha hd
      · intro e' c' x' j' nm' p' he hc f1 f2 f3 f4 f5 f6 f7 f8
        by_cases hj : j' = j
        · subst hj
          rw [hn] at f2; cases f2
          have hpp : p < p' := (f8 p b e R.at_ hop).1 ((dn_set hlt).2 (.inl rfl))
          have he'p : e' ≤ p := Nat.le_of_not_lt fun h => by
            rw [dn_set hlt] at f4
            rcases f4 with f4 | f4
            · have := S.idx_inj hc R.at_ f4
              omega
            · have := (hpre e' c' x' hc f1).1 f4
              omega
          refine ⟨ob', ?_, hP⟩
          rw [(T1.calm S (p := p + 1) p' (by omega) f6 (fun i d i1 i2 i3 => f7 i d (by omega) i2 i3)).2 nm (fun i d y j2 i1 i2 i3 i4 i5 i6 => ?_)]
          · rw [g4, if_pos rfl]
          · have := U.inj _ _ _ i6 hn
            subst this
            have := (f8 i d y i3 i4).2 i2
            rw [dn_set hlt] at this
            rcases this with this | this
            · have := S.idx_inj i3 R.at_ this
              omega
            · have := (hpre i d y i3 i4).1 this
              omega
        · have hne : nm' ≠ nm := fun e' => by subst e'; exact hj (U.inj _ _ _ f2 hn)
          obtain ⟨ob2, z1, z2⟩ := I.cont e' c' x' j' nm' p' he hc f1 f2 f3 ((hupd e' c' x' j' hc f1 hj).1 f4) f5 f6 f7 (fun q d y i1 i2 => by rw [← hupd q d y j' i1 i2 hj]; exact f8 q d y i1 i2)
          exact ⟨ob2, z1, hO nm' ob2 hne z2⟩
      · intro e' c' x j' nm' hc e1 e0 e2 hd
        exact I.free e' c' x j' nm' hc e1 e0 e2 (fun h => hd ((dn_set hlt).2 (.inr h)))
    cases e <;> first | (cases hpv; done) | skip
    case prd x =>
      obtain ⟨v', r1, r2⟩ := pv_read (o := b.o) (R.frame S I) (L0.mono I.g.ext) RT hokE y1
      have hob : ob' = ob := by
        have hs : σ (p + 1) = σ p := by
          simp only [eev] at hx
          split at hx
          · split at hx
            · split at hx
              · split at hx
                · simp only [Option.some.injEq, Prod.mk.injEq] at hx; exact hx.2.symm
                · cases hx
              · cases hx
            · cases hx
          · cases hx
        have := g4 nm
        rw [hs, g1, if_pos rfl] at this
        exact (Option.some.inj this).symm
      unfold Oper.wp
      rw [r1]
      refine main w v' r2 I.rep I.g ?_ (fun _ _ _ h => h)
      rw [hob]; exact t2
    case pin m' k' u' ks =>
      obtain ⟨w', r1, rfl, r2, r3, es, ck, r4⟩ := pv_put (o := b.o) (R.frame S I) (L0.mono I.g.ext) RT hokE y1
      rw [T.get_set, if_pos rfl] at r4
      cases r4
      obtain ⟨pl, h1, h2, h0, h3, h4⟩ := t2
      have hkd : pl.kd = 1 := by
        obtain ⟨pl', _, k1, k2, _⟩ := h2
        rw [h1] at k1; cases k1; exact k2
      have himg : ∀ r, Img ι ⟨T.set (Ob.map es ck ks) nm .nil, (σ k).nx⟩ r → r = pl.blk := by
        rintro r ⟨q, o, plq, i1, i2, i3, i4⟩
        rw [T.get_set] at i1
        split at i1
        · rename_i e'; subst e'
          rw [h1] at i3; cases i3; exact i4.symm
        · rw [T.get_nil] at i1; cases i1
      have hlt' := (I.rep.pl _ _ h1).lt
      have hkeep : ∀ r, r < w.heap.size → r ≠ pl.blk → w'.heap[r]? = w.heap[r]? := fun r hr hne => r3.keep r hr (fun h => hne (himg r h))
      have hfar : ∀ q o pq, T.get q (σ k).h = some o → o.live = true → ι q = some pq → pq.blk ≠ pl.blk := fun q o pq i1 i2 i3 i4 => by
        have := h3 q pq i3 i4
        subst this
        rw [h1] at i3; cases i3
        cases o with
        | cells l kin fz ro =>
          obtain ⟨pl', _, _, k1, k2, _⟩ := I.rep.ob _ _ i1
          rw [h1] at k1; cases k1
          rw [hkd] at k2; cases k2
        | map es2 ck2 ks2 => exact h4 ⟨_, _, pl, i1, rfl, h1, rfl⟩
        | mit m s n st => exact h4 ⟨_, _, pl, i1, rfl, h1, rfl⟩
        | sit l n => exact h4 ⟨_, _, pl, i1, rfl, h1, rfl⟩
        | dead => cases i2
      have hR : Rep ι (σ k) w' := { I.rep with
        ob := fun q o hq => (I.rep.ob q o hq).keep (.refl ι) fun pq hpq hlv => hkeep _ (I.rep.pl q pq hpq).lt (hfar q o pq hq hlv hpq)
        pl := r2.pl }
      have hG : G N ι0 (σ 0) w0 ι (σ k) w' := { I.g with
        size := Nat.le_trans I.g.size r3.size
        os := r3.os.trans I.g.os
        tape := r3.tape.trans I.g.tape
        out := r3.out.trans I.g.out
        keep := fun r hr hi => (hkeep r (Nat.lt_of_lt_of_le hr I.g.size) (fun e' => hi (by
          subst e'
          exact I.g.new nm pl h1 (U.none _ _ hn) hr))).trans (I.g.keep r hr hi) }
      unfold Oper.wp
      rw [r1]
      refine main w' undef (.u _) hR hG ⟨pl, h1, ?_, g2 h0, h3, h4⟩ ?_
      · exact r2.ob nm ob' (by rw [y3, if_pos rfl])
      · rintro nm2 ob2 hne ⟨pl2, j1, j2, j3, j4, j5⟩
        refine ⟨pl2, j1, j2.keep (.refl ι) (fun pq hpq hlv => ?_), j3, j4, j5⟩
        rw [j1] at hpq; cases hpq
        refine hkeep _ (I.rep.pl _ _ j1).lt (fun e' => hne ?_)
        exact (j4 nm pl h1 e'.symm).symm
  · cases hx
theorem pairK_eff {x y : RO} {c : Bool} (h : pairK x y c = true) (hx : 2 ≤ kindN x.op) : kindN y.op = 0 ∨ kindN y.op = 3 ∨ kindN y.op = 4 := by
  unfold pairK at h
  split at h
  · omega
  · omega
  · split at h
    · left; assumption
    · right; left; assumption
    · right; right; assumption
    · cases h
theorem rdy_step (hpt : M.pt = E.pt) (hmt : MtOk P M.mt) (hc : CallOK P E.ng call) (S : Stat E n ops L) (T1 : Tr M call nms L A σ) (U : Names N nms (σ 0) ι0) (hN : N ≤ (σ 0).nx.nat) (L0 : Gl E.ng ι0) (I : Inv P n ds N ops L nms A σ ι0 w0 ι k listed a w) {p : Nat} {b : AO} (R : Rdy ops L listed p b)
    {K : Act → World → Prop} {Q : Exit → Act → World → Prop} (hK : ∀ a' w', (∃ ι k, Inv P n ds N ops L nms A σ ι0 w0 ι k (listed.setIfInBounds b.ro.idx true) a' w') → K a' w') : wpOp P ops Q b.ro.idx K a w := by
  obtain ⟨k, I, hmax⟩ := I.adv S T1 U _ _ (Nat.le_refl _)
  have hlt : b.ro.idx < listed.size := by rw [I.size]; exact R.lt
  have hp : p < L.length := (List.getElem?_eq_some_iff.1 R.at_).1
  obtain ⟨hop, hmask, hok, hedge⟩ := S.op p b R.at_
  simp only [okRO, Bool.and_eq_true] at hok
  obtain ⟨⟨hokX, hokD⟩, hokG⟩ := hok
  have hguard : ∀ q c, b.ro.gd = some (q, c) → ∀ v t, T.get q (A p) = some v → q.nat = t + 1 → VR ι v (a.tmps.getD t undef) := fun q c hg v t h1 h2 => R.slot S I (gslot_slots hg) h2 h1
  have hlow : k < p → Actv A p b ∨ isN b.ro.op = true → kindN b.ro.op = 0 ∨ kindN b.ro.op = 3 ∨ kindN b.ro.op = 4 := fun h hb => by
    rcases hmax with hm | ⟨q, c, hq, hc1, hc2, hc3, hc4⟩
    · omega
    · rcases Nat.lt_or_ge q p with h' | h'
      · obtain ⟨_, x, h5⟩ := R.lower S I h' hc1 hc3
        exact pairK_eff h5 hc2.2
      · rcases hc4 with hc4 | hc4
        · omega
        · have hN := hc4 p b (by omega) h' R.at_
          rcases hb with hb | hb
          · obtain ⟨x, j, ho⟩ := act_kind hb hN
            rw [ho]
            simp only [kindN]
            cases isPv x <;> simp
          · rw [hN] at hb; cases hb
  unfold Go.wpOp
  rw [hop]
  simp only
  rcases xstep_inv (T1.step p b R.at_) with ⟨h1, h2, h3⟩ | ⟨h1, v, h2, h3, h4⟩
  · have hw := want_sound (n := n) (a := a) hguard hokG h1
    rw [hw]
    simp only [Bool.false_eq_true, if_false]
    refine hK _ _ ⟨ι, k, R.still S T1 I (fun h => ?_) (.mk_tup .nil) h2 hokD⟩
    have := h.1; rw [h1] at this; cases this
  · have hw := want_sound (n := n) (a := a) hguard hokG h1
    rw [hw]
    simp only [if_true]
    left
    by_cases hkind : 2 ≤ kindN b.ro.op
    · have hact : Actv A p b := ⟨h1, hkind⟩
      have hkp : k ≤ p := Nat.le_of_not_lt fun h => R.not (I.before p b h R.at_ hact)
      cases hl : isL b.ro.op with
      | true =>
        obtain ⟨e, j, he⟩ : ∃ e j, b.ro.op = .l e j := by
          generalize b.ro.op = x at hl
          cases x <;> first | (cases hl; done) | exact ⟨_, _, rfl⟩
        rw [he] at hokX
        simp only [okX, Bool.or_eq_true, Bool.and_eq_true] at hokX
        rcases hokX with hokX | hokX
        · exact R.late S T1 U L0 I hkp he hokX.1 hokX.2 hokD h1 h2 h3 hK
        · have hpv : isPv e = true := by cases e <;> first | rfl | (simp only [okP, Bool.false_eq_true] at hokX)
          exact R.priv S T1 U L0 I hkp he hokX hpv hokD h1 h2 h3 hK
      | false =>
        have hk2 : kindN b.ro.op = 2 := by
          generalize b.ro.op = x at hl hkind
          cases x <;> first | rfl | (cases hl; done) | skip
          rename_i q
          exfalso
          simp only [kindN] at hkind
          split at hkind <;> omega
        have hkp : k = p := by
          rcases Nat.lt_or_ge k p with h | h
          · have := hlow h (.inl hact); omega
          · omega
        subst hkp
        have h5 : xop M call nms b.ro.op (restr b.ro.slots (A k)) (σ k) = some (v, σ (k + 1)) := by
          rw [← h2]
          exact xop_congr (fun x hx => (ev_restr (fun s hs => arg_slots hx hs)).symm)
        refine xop_sound hpt hmt hc (R.frame S I) (L0.mono I.g.ext) I.rep hokX hl h5 ?_
        intro ι' v' w' q1 q2 q3
        refine hK _ _ ⟨ι', k + 1, { size := by simp [I.size], closed := R.closed S I, fsize := by rw [put_size]; exact I.fsize, defers := by rw [put_defers2]; exact I.defers, rep := q2, kle := hp, before := ?_, pend := ?_, cont := ?_, clean := ?_, free := ?_, slots := R.slots S T1 I q3.ext q1 h3 hokD, g := I.g.trans (Nat.le_trans hN I.g.nx) q3 }⟩
        · intro e c he hc1 ha
          rw [dn_set hlt]
          by_cases hek : e = k
          · subst hek
            rw [R.at_] at hc1; cases hc1
            exact .inl rfl
          · exact .inr (I.before e c (by omega) hc1 ha)
        · intro e c he hc1 ha hd
          rw [dn_set hlt] at hd
          rcases hd with hd | hd
          · have := S.idx_inj hc1 R.at_ hd
            omega
          · exact I.pend e c (by omega) hc1 ha hd
        · intro e c x j nm p' he hc1 f1 f2 f3 f4 f5 f6 f7 f8
          have hdn : ∀ (q : Nat) (d : AO) (y : EOp) (j' : Nat), L[q]? = some d → d.ro.op = .l y j' → (Dn (listed.setIfInBounds b.ro.idx true) d.ro.idx ↔ Dn listed d.ro.idx) := fun q d y j' i1 i2 => by
            rw [dn_set hlt]
            refine ⟨fun h => h.resolve_left fun e' => ?_, .inr⟩
            have := S.idx_inj i1 R.at_ e'
            subst this
            rw [R.at_] at i1; cases i1
            rw [i2] at hl; cases hl
          obtain ⟨ob2, z1, z2⟩ := I.cont e c x j nm p' (by omega) hc1 f1 f2 f3 ((hdn e c x j hc1 f1).1 f4) f5 f6 f7 (fun q d y i1 i2 => by rw [← hdn q d y j i1 i2]; exact f8 q d y i1 i2)
          exact ⟨ob2, z1, z2.go I.rep q3⟩
        · intro e c x j he hc1 f1 f2
          by_cases hek : e = k
          · subst hek; rw [R.at_] at hc1; cases hc1
            rw [f1] at hl; cases hl
          · obtain ⟨m, m1, m2, m3⟩ := I.clean e c x j (by omega) hc1 f1 f2
            exact ⟨m, m1, by omega, m3⟩
        · intro e c x j nm hc1 e1 e0 e2 hd
          have hd' : ¬ Dn listed c.ro.idx := fun h => hd ((dn_set hlt).2 (.inr h))
          rw [q3.old nm (Nat.lt_of_lt_of_le (U.hi _ _ e2) I.g.nx)]
          exact I.free e c x j nm hc1 e1 e0 e2 hd'
    · obtain ⟨q, hq⟩ := kindN_lt hkind
      have hnact : ¬ Actv A p b := fun h => hkind h.2
      have hv : qev M.pt q (A p) (σ p) = some v := by
        rw [hq] at h2
        simp only [xop, xQ, xL, xCallv, xInv, qevF_eq, eevF_eq] at h2
        split at h2
        · rename_i v' hv
          simp only [Option.some.injEq, Prod.mk.injEq] at h2
          rw [hv, h2.1]
        · cases h2
      have hvk : qev M.pt q (A p) (σ k) = some v := by
        cases hpure : isPure q with
        | true => rw [qev_pure hpure M.pt (A p) (σ k) (σ p)]; exact hv
        | false =>
          have hkp : p ≤ k := Nat.le_of_not_lt fun h => by
            have := hlow h (.inr (by rw [hq]; simp [isN, kindN, hpure]))
            rw [hq] at this
            simp [kindN, hpure] at this
          refine read_stable S T1 R.at_ hq hpure h1 hv k hkp I.kle (fun e c he1 he2 hc1 ha => ?_)
          exact (R.upper S I he1 hc1 (I.before e c he2 hc1 ha)).2
      rw [hq] at hokX
      have hvk : qev E.pt q (restr b.ro.slots (A p)) (σ k) = some v := by
        rw [← hvk, hpt]
        exact qev_congr (fun x hx => (ev_restr (fun s hs => arg_slots (by rw [hq]; exact hx) hs)).symm)
      obtain ⟨v', r1, r2⟩ := q_sound q (o := b.o) (R.frame S I).self (L0.mono I.g.ext) I.rep hokX hvk
      unfold Oper.wp
      rw [r1]
      exact hK _ _ ⟨ι, k, R.still S T1 I hnact r2 h3 hokD⟩

theorem ready_rdy (S : Stat E n ops L) (hsz : listed.size = ops.size) {i : Nat} (h : i ∈ Region.ready .any ops listed) : ∃ (p : Nat) (b : AO), b.ro.idx = i ∧ Rdy ops L listed p b := by
  unfold Region.ready at h
  rw [List.mem_filter] at h
  obtain ⟨h1, h2⟩ := h
  have hi : i < ops.size := by simpa using h1
  obtain ⟨p, b, hp, hb⟩ := S.cov i hi
  have hop := (S.op p b hp).1
  rw [hb] at hop
  simp only [hop, Bool.and_eq_true, Bool.not_eq_true', Option.map_some, Option.getD_some] at h2
  refine ⟨p, b, hb, ⟨hp, by rw [hb]; exact hi, ?_, fun e he => ?_⟩⟩
  · intro hd
    rw [hb] at hd
    unfold Dn at hd
    have hil : i < listed.size := by omega
    have h3 := h2.1
    simp [Array.getD, hil] at h3 hd
    rw [h3] at hd; cases hd
  · obtain ⟨x, hx, rfl⟩ := List.mem_map.1 he
    rw [List.mem_filter] at hx
    have h4 := h2.2
    rw [Array.all_eq_true'] at h4
    have := h4 x (by simpa using hx.1)
    rw [hx.2] at this
    unfold Dn
    simpa using this
theorem not_ready_all (S : Stat E n ops L) (hsz : listed.size = ops.size) (h : Region.ready .any ops listed = []) : ∀ (p : Nat) (b : AO), L[p]? = some b → Dn listed b.ro.idx := by
  intro p
  induction p using Nat.strongRecOn with
  | _ p ih =>
    intro b hb
    obtain ⟨hop, _, _, hedge⟩ := S.op p b hb
    by_cases hd : Dn listed b.ro.idx
    · exact hd
    · exfalso
      have hlt : b.ro.idx < ops.size := (Array.getElem?_eq_some_iff.1 hop).1
      have hmem : b.ro.idx ∈ Region.ready .any ops listed := by
        unfold Region.ready
        rw [List.mem_filter]
        refine ⟨by simpa using hlt, ?_⟩
        simp only [hop, Bool.and_eq_true, Bool.not_eq_true', Option.map_some, Option.getD_some]
        constructor
        · have hil : b.ro.idx < listed.size := by omega
          unfold Dn at hd
          simp [Array.getD, hil] at hd ⊢
          exact hd
        · rw [Array.all_eq_true']
          intro x hx
          cases hbind : Region.binds .any x with
          | false => rfl
          | true =>
            have : x.on ∈ edgesB b.o := List.mem_map.2 ⟨x, List.mem_filter.2 ⟨by simpa using hx, hbind⟩, rfl⟩
            obtain ⟨j, c, hj, hc, he⟩ := hedge _ this
            have := ih j hj c hc
            rw [he] at this
            unfold Dn at this
            simpa using this
      rw [h] at hmem
      cases hmem
def cnt (listed : Array Bool) (m : Nat) : Nat := (List.range m).countP (fun i => !listed.getD i false)
theorem countP_lt {α : Type} {f g : α → Bool} : ∀ (l : List α), (∀ x ∈ l, g x = true → f x = true) → (∃ x ∈ l, f x = true ∧ g x = false) → l.countP g < l.countP f
  | [], _, h => by obtain ⟨x, h, _⟩ := h; cases h
  | y :: l, h1, h2 => by
    have hle : l.countP g ≤ l.countP f := List.countP_mono_left (fun x hx hg => h1 x (List.mem_cons_of_mem _ hx) hg)
    rw [List.countP_cons, List.countP_cons]
    obtain ⟨x, hx, hf, hg⟩ := h2
    rcases List.mem_cons.1 hx with rfl | hx
    · rw [hf, hg]; simp; omega
    · have := countP_lt l (fun x hx hg => h1 x (List.mem_cons_of_mem _ hx) hg) ⟨x, hx, hf, hg⟩
      cases hgy : g y with
      | true => rw [h1 y (by simp) hgy]; simp; omega
      | false => cases f y <;> simp <;> omega
theorem any_sound (hpt : M.pt = E.pt) (hmt : MtOk P M.mt) (hc : CallOK P E.ng call) (S : Stat E n ops L) (T1 : Tr M call nms L A σ) (U : Names N nms (σ 0) ι0) (hN : N ≤ (σ 0).nx.nat) (L0 : Gl E.ng ι0) {Q : Exit → Act → World → Prop}
    (hQ : ∀ ι' a' w', FR n ds ι' (A L.length) a' → Rep ι' (σ L.length) w' → G N ι0 (σ 0) w0 ι' (σ L.length) w' → Q .normal a' w') :
    ∀ (fuel : Nat) (listed : Array Bool) (a : Act) (w : World), cnt listed ops.size ≤ fuel → (∃ ι k, Inv P n ds N ops L nms A σ ι0 w0 ι k listed a w) → wpAny P .any ops Q fuel listed a w := by
  have fin : ∀ (listed : Array Bool) (a : Act) (w : World), (∃ ι k, Inv P n ds N ops L nms A σ ι0 w0 ι k listed a w) → Region.ready .any ops listed = [] → Q .normal a w := by
    rintro listed a w ⟨ι, k, I⟩ hr
    have hall := not_ready_all S I.size hr
    obtain ⟨k', I, hk⟩ := I.adv S T1 U _ _ (Nat.le_refl _)
    have hk : k' = L.length := by
      rcases hk with hk | ⟨q, b, _, hb, _, hd, _⟩
      · exact hk
      · exact absurd (hall _ b hb) hd
    subst hk
    refine hQ ι a w ⟨I.fsize, I.defers, fun s v t h1 h2 => ?_⟩ I.rep I.g
    refine I.slots s t _ v h2 (Nat.le_refl _) (fun q b hb _ => ⟨fun _ => (List.getElem?_eq_some_iff.1 hb).1, fun _ => hall q b hb⟩) h1
  intro fuel
  induction fuel with
  | zero =>
    rintro listed a w hcnt ⟨ι, k, I⟩
    have hr : Region.ready .any ops listed = [] := by
      cases hr : Region.ready .any ops listed with
      | nil => rfl
      | cons i l =>
        obtain ⟨p, b, rfl, R⟩ := ready_rdy S I.size (listed := listed) (i := i) (by rw [hr]; simp)
        exfalso
        have hz : cnt listed ops.size = 0 := by omega
        unfold cnt at hz
        rw [List.countP_eq_zero] at hz
        have := hz b.ro.idx (by simpa using R.lt)
        have hn := R.not
        unfold Dn at hn
        simp at this hn
        rw [hn] at this
        cases this
    exact ⟨hr, fin listed a w ⟨ι, k, I⟩ hr⟩
  | succ fuel ih =>
    rintro listed a w hcnt ⟨ι, k, I⟩
    refine ⟨fun hr => fin listed a w ⟨ι, k, I⟩ hr, fun i hi => ?_⟩
    obtain ⟨p, b, rfl, R⟩ := ready_rdy S I.size hi
    refine rdy_step hpt hmt hc S T1 U hN L0 I R ?_
    intro a' w' hI
    refine ih _ a' w' ?_ hI
    have hlt : b.ro.idx < listed.size := by rw [I.size]; exact R.lt
    have : cnt (listed.setIfInBounds b.ro.idx true) ops.size < cnt listed ops.size := by
      refine countP_lt _ (fun x _ hx => ?_) ⟨b.ro.idx, by simpa using R.lt, ?_, ?_⟩
      · have h2 := mt (fun h => (dn_set (x := x) hlt).2 (.inr h))
        unfold Dn at h2
        simp only [Bool.not_eq_true'] at hx ⊢
        cases h3 : listed.getD x false with
        | false => rfl
        | true => exact absurd h3 (h2 (by rw [hx]; simp))
      · have hn := R.not
        unfold Dn at hn
        cases h3 : listed.getD b.ro.idx false with
        | false => rfl
        | true => exact absurd h3 hn
      · have := (dn_set (x := b.ro.idx) hlt).2 (.inl rfl)
        unfold Dn at this
        rw [this]; rfl
    omega
theorem rgd_sound (hpt : M.pt = E.pt) (hmt : MtOk P M.mt) (hm : P.follows .mixedOrders = true) (n : Nat) : RgdSound P E M n (okD E n) := by
  intro call hc id k l ops hok ds ι A0 A' a σ0 σ' w Q hr F L0 R hQ
  obtain ⟨L, hL, S⟩ := stat_of_okD hok
  rw [← hL] at hr
  obtain ⟨A, σ, e1, e2, T1, e3, e4⟩ := tr_of_run L _ _ _ _ hr
  have hnx : (namesOf k σ0.nx).2.nat = σ0.nx.nat + k := namesOf_nx k σ0.nx
  have h0 : σ 0 = ⟨σ0.h, (namesOf k σ0.nx).2⟩ := e2
  have U : Names σ0.nx.nat (namesOf k σ0.nx).1 (σ 0) ι := by
    constructor
    · intro j nm h; have := namesOf_get _ _ _ _ h; omega
    · intro j nm h
      have := namesOf_get _ _ _ _ h
      rw [h0]; show nm.nat < (namesOf k σ0.nx).2.nat
      omega
    · intro i j nm h1 h2
      have h1 := namesOf_get _ _ _ _ h1
      have h2 := namesOf_get _ _ _ _ h2
      omega
    · intro j nm h
      have := namesOf_get _ _ _ _ h
      cases hn : ι nm with
      | none => rfl
      | some pl => have := R.dom nm pl hn; omega
  refine wp_region_any hm ?_
  refine any_sound (ds := ds) (w0 := w) hpt hmt hc S T1 U (by rw [h0]; show _ ≤ (namesOf k σ0.nx).2.nat; omega) L0 ?_ _ _ _ _ ?_ ⟨ι, 0, ?_⟩
  · intro ι' a' w' F' R' G'
    rw [e3] at F'
    rw [e4] at R' G'
    refine hQ ι' a' w' F' R' { G' with nx := ?_, keep := ?_, img := ?_, new := ?_ }
    · have := G'.nx
      rw [h0] at this
      have : (namesOf k σ0.nx).2.nat ≤ σ'.nx.nat := this
      omega
    · intro r hr hi
      exact G'.keep r hr (fun x => hi (by rw [h0] at x; exact x))
    · intro r hr hi
      have := G'.img r hr hi
      rw [h0] at this; exact this
    · intro q pl h1 h2 h3
      have := G'.new q pl h1 h2 h3
      rw [h0] at this; exact this
  · refine Nat.le_trans List.countP_le_length ?_
    simp
  · have hno : ∀ i, ¬ Dn (Array.replicate ops.size false) i := fun i h => by
      unfold Dn at h
      rw [Array.getD_eq_getD_getElem?, Array.getElem?_replicate] at h
      split at h <;> simp at h
    refine { size := by simp, closed := fun i o _ h => absurd h (hno i), fsize := F.size, defers := F.defers, rep := ?_, kle := Nat.zero_le _, before := fun e b h => absurd h (Nat.not_lt_zero _), pend := fun e b _ _ _ h => absurd h (hno _), cont := fun e b x j nm p _ _ _ _ _ h => absurd h (hno _), clean := fun e b x j h => absurd h (Nat.not_lt_zero _), free := fun e b x j nm _ _ _ h _ => U.none j nm h, slots := ?_, g := ?_ }
    · rw [h0]
      exact (R.nx (by rw [hnx]; omega)).drew
    · intro s t j v hs hj hw hv
      have hA : T.get s (A j) = T.get s (A 0) := T1.slot j (Nat.zero_le _) hj (fun q b _ hq hb hd => hno _ ((hw q b hb hd).2 hq))
      rw [hA, e1] at hv
      exact F.at_ s v t hv hs
    · exact G.drew _ _ _ _
end
end Go.Proofs.YtcecdaeceipbnaaGreatDoor

/-
  The machine once more, as the kernel runs it quickest; and that it is the same. (Of no program.)
-/
namespace Go.Proofs.YtcecdaeceipbnaaGreatDoor
set_option linter.unusedVariables false
set_option linter.unusedSimpArgs false
set_option linter.unusedSectionVars false
open Go

section
variable {α : Type}
noncomputable def getQ (p : Pos) : T α → Option α := Pos.rec (motive := fun _ => T α → Option α)
  (T.rec (motive := fun _ => Option α) none (fun _ v _ _ _ => v))
  (fun _ ih => T.rec (motive := fun _ => Option α) none (fun l _ _ _ _ => ih l))
  (fun _ ih => T.rec (motive := fun _ => Option α) none (fun _ _ r _ _ => ih r)) p
noncomputable def strQ (l : T α) (k : T α → T α) : T α := T.rec (motive := fun _ => T α) (k .nil) (fun a b c _ _ => k (.node a b c)) l
noncomputable def setQ (x : α) (p : Pos) : T α → T α := Pos.rec (motive := fun _ => T α → T α)
  (T.rec (motive := fun _ => T α) (.node .nil (some x) .nil) (fun l _ r _ _ => .node l (some x) r))
  (fun _ ih => T.rec (motive := fun _ => T α) (strQ (ih .nil) fun l => .node l none .nil) (fun l v r _ _ => strQ (ih l) fun l => .node l v r))
  (fun _ ih => T.rec (motive := fun _ => T α) (strQ (ih .nil) fun r => .node .nil none r) (fun l v r _ _ => strQ (ih r) fun r => .node l v r)) p
theorem strQ_eq (l : T α) (k : T α → T α) : strQ l k = k l := by cases l <;> rfl
theorem getQ_eq : ∀ (p : Pos) (t : T α), getQ p t = T.get p t := by
  intro p
  induction p with
  | H => intro t; cases t <;> rfl
  | O p ih => intro t; cases t with | nil => rfl | node l v r => exact ih l
  | I p ih => intro t; cases t with | nil => rfl | node l v r => exact ih r
theorem setQ_eq (x : α) : ∀ (p : Pos) (t : T α), setQ x p t = T.set x p t := by
  intro p
  induction p with
  | H => intro t; cases t <;> rfl
  | O p ih =>
    intro t
    cases t with
    | nil =>
      have e : setQ x p.O .nil = .node (setQ x p .nil) none .nil := strQ_eq (setQ x p .nil) (fun l => .node l none .nil)
      have e2 : T.set x p.O .nil = .node (T.set x p .nil) none .nil := T.str_eq (T.set x p .nil) (fun l => .node l none .nil)
      rw [e, e2, ih]
    | node l v r =>
      have e : setQ x p.O (.node l v r) = .node (setQ x p l) v r := strQ_eq (setQ x p l) (fun l => .node l v r)
      have e2 : T.set x p.O (.node l v r) = .node (T.set x p l) v r := T.str_eq (T.set x p l) (fun l => .node l v r)
      rw [e, e2, ih]
  | I p ih =>
    intro t
    cases t with
    | nil =>
      have e : setQ x p.I .nil = .node .nil none (setQ x p .nil) := strQ_eq _ _
      have e2 : T.set x p.I .nil = .node .nil none (T.set x p .nil) := T.str_eq _ _
      rw [e, e2, ih]
    | node l v r =>
      have e : setQ x p.I (.node l v r) = .node l v (setQ x p r) := strQ_eq _ _
      have e2 : T.set x p.I (.node l v r) = .node l v (T.set x p r) := T.str_eq _ _
      rw [e, e2, ih]
end
noncomputable def evS (A : T V) (p : Pos) : V := Option.rec (motive := fun _ => V) .u (fun v => v) (getQ p A)
noncomputable def evQ (A : T V) (a : Arg) : V := Arg.rec (motive := fun _ => V) (evS A) (fun x => x) (fun p => .ptr p 0) (fun n => .fn n [] []) a
theorem evQ_eq (A : T V) (a : Arg) : evQ A a = ev A a := by
  cases a with
  | s p =>
    show evS A p = match T.get p A with | some v => v | none => .u
    unfold evS
    rw [getQ_eq]
    cases T.get p A <;> rfl
  | v x => rfl
  | g p => rfl
  | f n => rfl
/-! taking values apart -/
abbrev RV_ := Option V
noncomputable def onInt {R : Type} (f : IntKind → Int → R) (d : R) (v : V) : R := V.rec (motive_1 := fun _ => R) (motive_2 := fun _ => PUnit) d (fun _ => d) f (fun _ => d) d (fun _ _ => d) d (fun _ _ _ _ _ => d) d (fun _ => d) d (fun _ _ _ _ _ => d) d (fun _ _ _ => d) (fun _ _ => d) (fun _ _ => d) (fun _ => d) ⟨⟩ (fun _ _ _ _ => ⟨⟩) v
noncomputable def onBool {R : Type} (f : Bool → R) (d : R) (v : V) : R := V.rec (motive_1 := fun _ => R) (motive_2 := fun _ => PUnit) d f (fun _ _ => d) (fun _ => d) d (fun _ _ => d) d (fun _ _ _ _ _ => d) d (fun _ => d) d (fun _ _ _ _ _ => d) d (fun _ _ _ => d) (fun _ _ => d) (fun _ _ => d) (fun _ => d) ⟨⟩ (fun _ _ _ _ => ⟨⟩) v
noncomputable def onPtr {R : Type} (f : Pos → Nat → R) (d : R) (v : V) : R := V.rec (motive_1 := fun _ => R) (motive_2 := fun _ => PUnit) d (fun _ => d) (fun _ _ => d) (fun _ => d) d f d (fun _ _ _ _ _ => d) d (fun _ => d) d (fun _ _ _ _ _ => d) d (fun _ _ _ => d) (fun _ _ => d) (fun _ _ => d) (fun _ => d) ⟨⟩ (fun _ _ _ _ => ⟨⟩) v
noncomputable def onSlice {R : Type} (f : Pos → Nat → Nat → Option Nat → Nat → R) (g d : R) (v : V) : R := V.rec (motive_1 := fun _ => R) (motive_2 := fun _ => PUnit) d (fun _ => d) (fun _ _ => d) (fun _ => d) d (fun _ _ => d) g f d (fun _ => d) d (fun _ _ _ _ _ => d) d (fun _ _ _ => d) (fun _ _ => d) (fun _ _ => d) (fun _ => d) ⟨⟩ (fun _ _ _ _ => ⟨⟩) v
theorem onInt_eq {R : Type} (f : IntKind → Int → R) (d : R) (v : V) : onInt f d v = match v with | .int k n => f k n | _ => d := by cases v <;> rfl
theorem onBool_eq {R : Type} (f : Bool → R) (d : R) (v : V) : onBool f d v = match v with | .bool b => f b | _ => d := by cases v <;> rfl
theorem onPtr_eq {R : Type} (f : Pos → Nat → R) (d : R) (v : V) : onPtr f d v = match v with | .ptr p o => f p o | _ => d := by cases v <;> rfl
theorem onSlice_eq {R : Type} (f : Pos → Nat → Nat → Option Nat → Nat → R) (g d : R) (v : V) : onSlice f g d v = match v with | .slice p o l c e => f p o l c e | .nils => g | _ => d := by cases v <;> rfl
noncomputable def onB {R : Type} (t f : R) (b : Bool) : R := Bool.rec (motive := fun _ => R) f t b
noncomputable def onO {α R : Type} (n : R) (f : α → R) (x : Option α) : R := Option.rec (motive := fun _ => R) n f x
noncomputable def onCells {R : Type} (f : List V → List Pos → Bool → Bool → R) (d : R) (x : Option Ob) : R := Option.rec (motive := fun _ => R) d (Ob.rec (motive := fun _ => R) f (fun _ _ _ => d) (fun _ _ _ _ => d) (fun _ _ => d) d) x
theorem onCells_eq {R : Type} (f : List V → List Pos → Bool → Bool → R) (d : R) (x : Option Ob) : onCells f d x = match x with | some (.cells l kin fz ro) => f l kin fz ro | _ => d := by
  cases x with
  | none => rfl
  | some o => cases o <;> rfl
/-! numbers -/
noncomputable def uMod (M : Nat) (n : Int) : Int := Int.rec (motive := fun _ => Int) (fun m => .ofNat (Nat.mod m M)) (fun m => .ofNat (Nat.sub (Nat.sub M 1) (Nat.mod m M))) n
noncomputable def wrapQ (k : IntKind) : Int → Int := IntKind.rec (motive := fun _ => Int → Int) (ws 256 128) (ws 65536 32768) (ws 4294967296 2147483648) (ws 18446744073709551616 9223372036854775808) (uMod 256) (uMod 65536) (uMod 4294967296) (uMod 18446744073709551616) k
theorem wrapQ_eq (k : IntKind) (n : Int) : wrapQ k n = wrapK k n := by cases k <;> cases n <;> rfl
noncomputable def iaddQ (x y : Int) : Int := Int.rec (motive := fun _ => Int) (fun a => Int.rec (motive := fun _ => Int) (fun b => .ofNat (Nat.add a b)) (fun b => Int.add (.ofNat a) (.negSucc b)) y) (fun a => Int.add (.negSucc a) y) x
theorem iaddQ_eq (x y : Int) : iaddQ x y = Int.add x y := by cases x <;> cases y <;> rfl
noncomputable def toUQ (M : Nat) (n : Int) : Nat := Int.rec (motive := fun _ => Nat) (fun m => Nat.mod m M) (fun m => Nat.sub (Nat.sub M 1) (Nat.mod m M)) n
theorem toUQ_eq (M : Nat) (n : Int) : toUQ M n = toU M n := by cases n <;> rfl
noncomputable def modQ (k : IntKind) : Nat := IntKind.rec (motive := fun _ => Nat) 256 65536 4294967296 18446744073709551616 256 65536 4294967296 18446744073709551616 k
theorem modQ_eq (k : IntKind) : modQ k = modK k := by cases k <;> rfl
noncomputable def iltQ (x y : Int) : Bool := Int.rec (motive := fun _ => Bool) (fun a => Int.rec (motive := fun _ => Bool) (fun b => Nat.blt a b) (fun _ => false) y) (fun a => Int.rec (motive := fun _ => Bool) (fun _ => true) (fun b => Nat.blt b a) y) x
theorem iltQ_eq (x y : Int) : iltQ x y = ilt x y := by cases x <;> cases y <;> rfl
noncomputable def ieqQ (x y : Int) : Bool := Int.rec (motive := fun _ => Bool) (fun a => Int.rec (motive := fun _ => Bool) (fun b => Nat.beq a b) (fun _ => false) y) (fun a => Int.rec (motive := fun _ => Bool) (fun _ => false) (fun b => Nat.beq a b) y) x
theorem ieqQ_eq (x y : Int) : ieqQ x y = ieq x y := by cases x <;> cases y <;> rfl
noncomputable def bAdd (k : IntKind) (x y : Int) : Option V := some (.int k (wrapQ k (iaddQ x y)))
noncomputable def bSub (k : IntKind) (x y : Int) : Option V := some (.int k (wrapQ k (Int.sub x y)))
noncomputable def bMul (k : IntKind) (x y : Int) : Option V := some (.int k (wrapQ k (Int.mul x y)))
noncomputable def bQuo (k : IntKind) (x y : Int) : Option V := onB none (some (.int k (wrapQ k (Int.tdiv x y)))) (ieqQ y (.ofNat 0))
noncomputable def bRem (k : IntKind) (x y : Int) : Option V := onB none (some (.int k (wrapQ k (Int.tmod x y)))) (ieqQ y (.ofNat 0))
noncomputable def bAnd (k : IntKind) (x y : Int) : Option V := some (.int k (wrapQ k (.ofNat (Nat.land (toUQ (modQ k) x) (toUQ (modQ k) y)))))
noncomputable def bOr (k : IntKind) (x y : Int) : Option V := some (.int k (wrapQ k (.ofNat (Nat.lor (toUQ (modQ k) x) (toUQ (modQ k) y)))))
noncomputable def bXor (k : IntKind) (x y : Int) : Option V := some (.int k (wrapQ k (.ofNat (Nat.xor (toUQ (modQ k) x) (toUQ (modQ k) y)))))
noncomputable def bAnn (k : IntKind) (x y : Int) : Option V := some (.int k (wrapQ k (.ofNat (Nat.land (toUQ (modQ k) x) (Nat.sub (Nat.sub (modQ k) 1) (toUQ (modQ k) y))))))
noncomputable def bNo (k : IntKind) (x y : Int) : Option V := none
noncomputable def bEq (k : IntKind) (x y : Int) : Option V := some (.bool (ieqQ x y))
noncomputable def bNe (k : IntKind) (x y : Int) : Option V := some (.bool (!(ieqQ x y)))
noncomputable def bLt (k : IntKind) (x y : Int) : Option V := some (.bool (iltQ x y))
noncomputable def bLe (k : IntKind) (x y : Int) : Option V := some (.bool (!(iltQ y x)))
noncomputable def bGt (k : IntKind) (x y : Int) : Option V := some (.bool (iltQ y x))
noncomputable def bGe (k : IntKind) (x y : Int) : Option V := some (.bool (!(iltQ x y)))
noncomputable def ibinQ (op : BinOp) : IntKind → Int → Int → Option V := BinOp.rec (motive := fun _ => IntKind → Int → Int → Option V) bAdd bSub bMul bQuo bRem bAnd bOr bXor bNo bNo bAnn bEq bNe bLt bLe bGt bGe op
theorem ibinQ_eq (op : BinOp) (k : IntKind) (x y : Int) : ibinQ op k x y = ibin op k x y := by
  cases op <;> simp only [ibinQ, ibin, bAdd, bSub, bMul, bQuo, bRem, bAnd, bOr, bXor, bNo, bAnn, bEq, bNe, bLt, bLe, bGt, bGe, wrapQ_eq, iaddQ_eq, toUQ_eq, modQ_eq, iltQ_eq, ieqQ_eq, onB]
  all_goals cases ieq y (.ofNat 0) <;> rfl
/-! operations -/
noncomputable def qQ_mv (a : Arg) (pt : List Nat) (A : T V) (σ : St) : Option V := some (evQ A a)
noncomputable def qQ_pick (c a b : Arg) (pt : List Nat) (A : T V) (σ : St) : Option V := onBool (fun t => some (onB (evQ A a) (evQ A b) t)) none (evQ A c)
noncomputable def qQ_bin (op : BinOp) (a c : Arg) (pt : List Nat) (A : T V) (σ : St) : Option V := onInt (fun k x => onInt (fun k' y => onB (ibinQ op k x y) none (beqK k k')) none (evQ A c)) none (evQ A a)
noncomputable def qQ_cmpb (ne : Bool) (a c : Arg) (pt : List Nat) (A : T V) (σ : St) : Option V := onBool (fun x => onBool (fun y => some (.bool (xorB ne (!(xorB x y))))) none (evQ A c)) none (evQ A a)
noncomputable def qQ_not (a : Arg) (pt : List Nat) (A : T V) (σ : St) : Option V := onBool (fun b => some (.bool (!b))) none (evQ A a)
noncomputable def qQ_cvi (k : IntKind) (a : Arg) (pt : List Nat) (A : T V) (σ : St) : Option V := onInt (fun _ n => some (.int k (wrapQ k n))) none (evQ A a)
noncomputable def qQ_fadr (a : Arg) (off : Nat) (pt : List Nat) (A : T V) (σ : St) : Option V := onPtr (fun p o => some (.ptr p (Nat.add o off))) none (evQ A a)
noncomputable def qQ_lenv (a : Arg) (pt : List Nat) (A : T V) (σ : St) : Option V := onSlice (fun _ _ len _ _ => mkLen len) (mkLen 0) none (evQ A a)
noncomputable def qQ_ld1 (a : Arg) (pt : List Nat) (A : T V) (σ : St) : Option V := onPtr (fun p o => onCells (fun l _ _ _ => lget l o) none (getQ p σ.h)) none (evQ A a)
noncomputable def qQ_ldn (a : Arg) (n : Nat) (pt : List Nat) (A : T V) (σ : St) : Option V := onPtr (fun p o => onCells (fun l _ _ _ => onB (some (.agg (ltake (ldrop l o) n))) none (Nat.ble (Nat.add o n) (llen l))) none (getQ p σ.h)) none (evQ A a)
noncomputable def qevQ (o : QOp) : List Nat → T V → St → Option V := QOp.rec (motive := fun _ => List Nat → T V → St → Option V) qQ_mv qQ_pick qevF_bld qQ_fadr qevF_fld qevF_iadr qevF_iada qevF_idxa qevF_idxs qevF_nck qQ_bin qevF_shf qQ_cmpb qevF_cmps qevF_eqp qevF_eqa qQ_not qevF_neg qevF_inv qQ_cvi qevF_cvid qevF_mki qevF_mkf qevF_tas qevF_tai qevF_ext qQ_lenv qevF_lens qevF_lenc qevF_slc qevF_slca qevF_slcs qevF_mnx qQ_ld1 qQ_ldn qevF_lkp qevF_lenm qevF_wts o
theorem onB_eq {R : Type} (t f : R) (b : Bool) : onB t f b = match b with | true => t | false => f := by cases b <;> rfl
theorem qevQ_eq (o : QOp) (pt : List Nat) (A : T V) (σ : St) : qevQ o pt A σ = qev pt o A σ := by
  cases o
  case mv a => show qQ_mv a pt A σ = _; simp only [qQ_mv, evQ_eq, qev]
  case pick c a b => show qQ_pick c a b pt A σ = _; simp only [qQ_pick, evQ_eq, qev, onBool_eq, onB_eq]; rfl
  case bin op a c => show qQ_bin op a c pt A σ = _; simp only [qQ_bin, evQ_eq, qev, onInt_eq, onB_eq, ibinQ_eq]; rfl
  case cmpb ne a c => show qQ_cmpb ne a c pt A σ = _; simp only [qQ_cmpb, evQ_eq, qev, onBool_eq]; rfl
  case not a => show qQ_not a pt A σ = _; simp only [qQ_not, evQ_eq, qev, onBool_eq]; rfl
  case cvi k a => show qQ_cvi k a pt A σ = _; simp only [qQ_cvi, evQ_eq, qev, onInt_eq, wrapQ_eq]; rfl
  case fadr a off => show qQ_fadr a off pt A σ = _; simp only [qQ_fadr, evQ_eq, qev, onPtr_eq]; rfl
  case lenv a => show qQ_lenv a pt A σ = _; simp only [qQ_lenv, evQ_eq, qev, onSlice_eq]; rfl
  case ld1 a => show qQ_ld1 a pt A σ = _; simp only [qQ_ld1, evQ_eq, qev, onPtr_eq, getQ_eq, onCells_eq]; rfl
  case ldn a n => show qQ_ldn a n pt A σ = _; simp only [qQ_ldn, evQ_eq, qev, onPtr_eq, getQ_eq, onCells_eq, onB_eq]; rfl
  all_goals rfl
/-! regions, code, functions -/
abbrev RT := Option (V × St)
abbrev CF := Pos → List V → St → RT
noncomputable def stQ (a x : Arg) (n : Nat) (nm : Option Pos) (A : T V) (σ : St) : RT := onPtr (fun p o => onO none (fun vs => onB (onCells (fun l kin fz ro => onB (some (.u, ⟨setQ (.cells (lput l o vs) [] false false) p (kill kin σ.h), σ.nx⟩)) none (!fz && !ro && Nat.ble (Nat.add o n) (llen l))) none (getQ p σ.h)) none (lall plainV vs && Nat.beq (llen vs) n)) (flat (evQ A x))) none (evQ A a)
theorem stQ_eq (a x : Arg) (n : Nat) (nm : Option Pos) (A : T V) (σ : St) : stQ a x n nm A σ = eevF_st a x n nm A σ := by
  simp only [stQ, evQ_eq, getQ_eq, setQ_eq, eevF_st]
  generalize ev A a = y
  cases y <;> try rfl
  rename_i p o
  show onO none _ (flat (ev A x)) = _
  cases flat (ev A x) with
  | none => rfl
  | some vs =>
    show onB _ none (lall plainV vs && Nat.beq (llen vs) n) = _
    simp only
    cases (lall plainV vs && Nat.beq (llen vs) n) with
    | false => rfl
    | true =>
      show onCells _ none (T.get p σ.h) = _
      rw [onCells_eq]
      simp only
      cases T.get p σ.h with
      | none => rfl
      | some ob =>
        cases ob <;> try rfl
        rename_i l kin fz ro
        simp only
        rw [onB_eq]
        all_goals rfl
noncomputable def eevQ (o : EOp) : Option Pos → T V → St → RT := EOp.rec (motive := fun _ => Option Pos → T V → St → RT) stQ eevF_alo eevF_box eevF_bsl eevF_mkm eevF_mks eevF_app eevF_cpy eevF_clr eevF_mup eevF_mdl eevF_men eevF_mes eevF_rgm eevF_nxm eevF_ent eevF_prd eevF_pin o
theorem eevQ_eq (o : EOp) (nm : Option Pos) (A : T V) (σ : St) : eevQ o nm A σ = eevF o nm A σ := by
  cases o
  case st a x n => exact stQ_eq a x n nm A σ
  all_goals rfl
noncomputable def xq_ (o : QOp) (M : Mach) (call : CF) (nms : List Pos) (A : T V) (σ : St) : RT := onO none (fun v => some (v, σ)) (qevQ o M.pt A σ)
noncomputable def xe_ (o : EOp) (M : Mach) (call : CF) (nms : List Pos) (A : T V) (σ : St) : RT := eevQ o none A σ
noncomputable def xl_ (o : EOp) (j : Nat) (M : Mach) (call : CF) (nms : List Pos) (A : T V) (σ : St) : RT := xL nms o j A σ
noncomputable def xc_ (f : Pos) (l : List Arg) (M : Mach) (call : CF) (nms : List Pos) (A : T V) (σ : St) : RT := call f (lmap (evQ A) l) σ
noncomputable def xv_ (g : Arg) (l : List Arg) (M : Mach) (call : CF) (nms : List Pos) (A : T V) (σ : St) : RT := xCallv call g l A σ
noncomputable def xi_ (r : Arg) (n : String) (l : List Arg) (M : Mach) (call : CF) (nms : List Pos) (A : T V) (σ : St) : RT := xInv M call r n l A σ
noncomputable def xb_ (M : Mach) (call : CF) (nms : List Pos) (A : T V) (σ : St) : RT := none
noncomputable def xopQ (x : XOp) : Mach → CF → List Pos → T V → St → RT := XOp.rec (motive := fun _ => Mach → CF → List Pos → T V → St → RT) xq_ xe_ xl_ xc_ xv_ xi_ xb_ x
theorem xopQ_eq (x : XOp) (M : Mach) (call : CF) (nms : List Pos) (A : T V) (σ : St) : xopQ x M call nms A σ = xop M call nms x A σ := by
  have hev : evQ A = ev A := funext (evQ_eq A)
  cases x with
  | q o =>
    show onO none (fun v => some (v, σ)) (qevQ o M.pt A σ) = xQ M o A σ
    rw [qevQ_eq]
    unfold xQ
    rw [qevF_eq]
    cases qev M.pt o A σ <;> rfl
  | e o => exact eevQ_eq o none A σ
  | l o j => rfl
  | call f l => show call f (lmap (evQ A) l) σ = call f (lmap (ev A) l) σ; rw [hev]
  | callv g l => rfl
  | inv r n l => rfl
  | bad => rfl
noncomputable def putQ (d : Option Pos) (A : T V) (v : V) : T V := Option.rec (motive := fun _ => T V) A (fun p => setQ v p A) d
theorem putQ_eq (d : Option Pos) (A : T V) (v : V) : putQ d A v = putD A d v := by
  cases d with
  | none => rfl
  | some p => exact setQ_eq v p A
abbrev RS := Option (T V × St)
noncomputable def gdQ (A : T V) (p : Pos) (b : Bool) : Option Bool := wantG A (some (p, b))
noncomputable def stepQ (M : Mach) (call : CF) (nms : List Pos) (ro : RO) (A : T V) (σ : St) (K : T V → St → RS) : RS :=
  RO.rec (motive := fun _ => RS) (fun i d op gd re =>
    Option.rec (motive := fun _ => RS)
      (Option.rec (motive := fun _ => RS) none (Prod.rec (motive := fun _ => RS) (fun v σ' =>
        List.rec (motive := fun _ => RS) (K (putQ d A v) σ') (fun _ _ _ => Bool.rec (motive := fun _ => RS) none (K (putQ d A v) σ') (rechk M.pt (putQ d A v) σ' re)) re)) (xopQ op M call nms A σ))
      (fun g => Option.rec (motive := fun _ => RS) none (Bool.rec (motive := fun _ => RS) (K (putQ d A (.tup [])) σ)
        (Option.rec (motive := fun _ => RS) none (Prod.rec (motive := fun _ => RS) (fun v σ' => Bool.rec (motive := fun _ => RS) none (K (putQ d A v) σ') (rechk M.pt (putQ d A v) σ' re))) (xopQ op M call nms A σ))) (wantG A (some g))) gd) ro
theorem stepQ_eq (M : Mach) (call : CF) (nms : List Pos) (ro : RO) (A : T V) (σ : St) (K : T V → St → RS) : stepQ M call nms ro A σ K = match xstep M call nms ro A σ with | none => none | some (A', σ') => K A' σ' := by
  obtain ⟨i, d, op, gd, re⟩ := ro
  unfold stepQ xstep xfin
  simp only [xopQ_eq, putQ_eq]
  cases gd with
  | none =>
    have hw : wantG A none = some true := rfl
    rw [hw]
    simp only
    cases xop M call nms op A σ with
    | none => rfl
    | some r =>
      obtain ⟨v, σ'⟩ := r
      cases re with
      | nil =>
        have hr : rechk M.pt (putD A d v) σ' [] = true := rfl
        simp only [hr]
      | cons x l => simp only; cases rechk M.pt (putD A d v) σ' (x :: l) <;> rfl
  | some g =>
    simp only
    cases wantG A (some g) with
    | none => rfl
    | some b =>
      cases b with
      | false => rfl
      | true =>
        simp only
        cases xop M call nms op A σ with
        | none => rfl
        | some r =>
          obtain ⟨v, σ'⟩ := r
          simp only
          cases rechk M.pt (putD A d v) σ' re <;> rfl
noncomputable def runQ (M : Mach) (call : CF) (nms : List Pos) (l : List RO) : T V → St → RS := List.rec (motive := fun _ => T V → St → RS) (fun A σ => some (A, σ)) (fun ro _ ih A σ => stepQ M call nms ro A σ ih) l
theorem runQ_eq (M : Mach) (call : CF) (nms : List Pos) : ∀ (l : List RO), runQ M call nms l = runR M call nms l := by
  intro l
  induction l with
  | nil => rfl
  | cons ro l ih =>
    funext A σ
    show stepQ M call nms ro A σ (runQ M call nms l) = _
    rw [stepQ_eq, ih]
    rfl
abbrev RE := Option (XE × T V × St)
noncomputable def gReg (M : Mach) (call : CF) (l : List RO) (A : T V) (σ : St) : RE := Option.rec (motive := fun _ => RE) none (fun r => some (.nrm, r)) (runQ M call [] l A σ)
noncomputable def gRgd (M : Mach) (call : CF) (k : Nat) (l : List RO) (A : T V) (σ : St) : RE := Prod.rec (motive := fun _ => RE) (fun nms nx => Option.rec (motive := fun _ => RE) none (fun r => some (.nrm, r)) (runQ M call nms l A ⟨σ.h, nx⟩)) (namesOf k σ.nx)
noncomputable def gSeq (fa fb : T V → St → RE) (A : T V) (σ : St) : RE := Option.rec (motive := fun _ => RE) none (Prod.rec (motive := fun _ => RE) (fun x r => XE.rec (motive := fun _ => RE) (fb r.1 r.2) (fun i => some (.ext i, r)) (some (.ret, r)) x)) (fa A σ)
noncomputable def gCnd (c : Arg) (fa fb : T V → St → RE) (A : T V) (σ : St) : RE := onBool (fun t => Bool.rec (motive := fun _ => RE) (fb A σ) (fa A σ) t) none (evQ A c)
noncomputable def gBlk (i : Nat) (f : T V → St → RE) (A : T V) (σ : St) : RE := Option.rec (motive := fun _ => RE) none (Prod.rec (motive := fun _ => RE) (fun x r => XE.rec (motive := fun _ => RE) (some (.nrm, r)) (fun j => Bool.rec (motive := fun _ => RE) (some (.ext j, r)) (some (.nrm, r)) (Nat.beq j i)) (some (.ret, r)) x)) (f A σ)
noncomputable def loopQ (b : T V → St → RE) (n : Nat) : T V → St → RE := Nat.rec (motive := fun _ => T V → St → RE) (fun _ _ => none)
  (fun _ ih A σ => Option.rec (motive := fun _ => RE) none (Prod.rec (motive := fun _ => RE) (fun x r => XE.rec (motive := fun _ => RE) (ih r.1 r.2) (fun i => some (.ext i, r)) (some (.ret, r)) x)) (b A σ)) n
noncomputable def execQ (M : Mach) (call : CF) (n : Nat) (c : IR) : T V → St → RE := IR.rec (motive := fun _ => T V → St → RE)
  (fun A σ => some (.nrm, A, σ)) (gReg M call) (gRgd M call) (fun _ _ fa fb => gSeq fa fb) (fun c _ _ fa fb => gCnd c fa fb) (fun i _ f => gBlk i f) (fun _ f => loopQ f n)
  (fun i A σ => some (.ext i, A, σ)) (fun A σ => some (.ret, A, σ)) (fun _ _ => none) c
theorem loopQ_eq (b : T V → St → RE) : ∀ n, loopQ b n = loopF b n := by
  intro n
  induction n with
  | zero => rfl
  | succ n ih =>
    funext A σ
    have e : loopF b (n + 1) A σ = match b A σ with | none => none | some (x, A', σ') => (match x with | .nrm => loopF b n A' σ' | x => some (x, A', σ')) := rfl
    have e2 : loopQ b (n + 1) A σ = Option.rec (motive := fun _ => RE) none (Prod.rec (motive := fun _ => RE) (fun x r => XE.rec (motive := fun _ => RE) (loopQ b n r.1 r.2) (fun i => some (.ext i, r)) (some (.ret, r)) x)) (b A σ) := rfl
    rw [e, e2, ih]
    cases b A σ with
    | none => rfl
    | some r =>
      obtain ⟨x, A', σ'⟩ := r
      cases x <;> rfl
theorem execQ_eq (M : Mach) (call : CF) (n : Nat) : ∀ c, execQ M call n c = exec M call n c := by
  intro c
  induction c with
  | skip => rfl
  | reg l =>
    funext A σ
    show Option.rec (motive := fun _ => RE) none (fun r => some (.nrm, r)) (runQ M call [] l A σ) = eReg M call l A σ
    rw [runQ_eq]
    unfold eReg
    cases runR M call [] l A σ <;> rfl
  | rgd k l =>
    funext A σ
    show gRgd M call k l A σ = eRgd M call k l A σ
    unfold gRgd eRgd
    simp only [runQ_eq]
    cases runR M call (namesOf k σ.nx).1 l A ⟨σ.h, (namesOf k σ.nx).2⟩ <;> rfl
  | seq a b iha ihb =>
    funext A σ
    show gSeq (execQ M call n a) (execQ M call n b) A σ = eSeq (exec M call n a) (exec M call n b) A σ
    rw [iha, ihb]
    unfold gSeq eSeq
    cases exec M call n a A σ with
    | none => rfl
    | some r => obtain ⟨x, A', σ'⟩ := r; cases x <;> rfl
  | cnd c a b iha ihb =>
    funext A σ
    show gCnd c (execQ M call n a) (execQ M call n b) A σ = eCnd c (exec M call n a) (exec M call n b) A σ
    rw [iha, ihb]
    unfold gCnd eCnd
    rw [onBool_eq, evQ_eq]
    cases ev A c <;> try rfl
    rename_i t; cases t <;> rfl
  | blk i b ih =>
    funext A σ
    show gBlk i (execQ M call n b) A σ = eBlk i (exec M call n b) A σ
    rw [ih]
    unfold gBlk eBlk
    cases exec M call n b A σ with
    | none => rfl
    | some r =>
      obtain ⟨x, A', σ'⟩ := r
      cases x <;> try rfl
      rename_i j
      simp only
      cases Nat.beq j i <;> rfl
  | loop b ih =>
    show loopQ (execQ M call n b) n = loopF (exec M call n b) n
    rw [ih, loopQ_eq]
  | exit i => rfl
  | ret => rfl
  | bad => rfl
noncomputable def frameQ (l : List V) : Pos → T V → T V := List.rec (motive := fun _ => Pos → T V → T V) (fun _ t => t) (fun v _ ih p t => ih p.succ (setQ v p t)) l
theorem frameQ_eq : ∀ (l : List V) (p : Pos) (t : T V), frameQ l p t = frameOf l p t
  | [], p, t => rfl
  | v :: l, p, t => by
    show frameQ l p.succ (setQ v p t) = frameOf l p.succ (T.set v p t)
    rw [setQ_eq, frameQ_eq]
noncomputable def fnQ (M : Mach) (call : CF) (n : Nat) (vs : List V) (σ : St) (f : FnE) : RT := FnE.rec (motive := fun _ => RT)
  (fun nt b res => Bool.rec (motive := fun _ => RT) none (Option.rec (motive := fun _ => RT) none (Prod.rec (motive := fun _ => RT) (fun x r =>
    XE.rec (motive := fun _ => RT) (Option.rec (motive := fun _ => RT) none (fun l => some (one l, r.2)) (resF res r.1 r.2)) (fun _ => none) (Option.rec (motive := fun _ => RT) none (fun l => some (one l, r.2)) (resF res r.1 r.2)) x)) (execQ M call n b (frameQ vs .H .nil) σ)) (Nat.ble (llen vs) nt))
  (fun s => M.spec s vs σ) f
noncomputable def runFn1Q (M : Mach) (call : CF) (n : Nat) (f : Pos) (vs : List V) (σ : St) : RT := Option.rec (motive := fun _ => RT) none (fnQ M call n vs σ) (getQ f M.tab)
theorem runFn1Q_eq (M : Mach) (call : CF) (n : Nat) (f : Pos) (vs : List V) (σ : St) : runFn1Q M call n f vs σ = runFn1 M call n f vs σ := by
  unfold runFn1Q runFn1
  rw [getQ_eq]
  cases T.get f M.tab with
  | none => rfl
  | some e =>
    cases e with
    | spec s => rfl
    | code nt b res =>
      show fnQ M call n vs σ (.code nt b res) = _
      unfold fnQ
      simp only [execQ_eq, frameQ_eq]
      cases Nat.ble (llen vs) nt with
      | false => rfl
      | true =>
        simp only
        cases exec M call n b (frameOf vs .H .nil) σ with
        | none => rfl
        | some r =>
          obtain ⟨x, A', σ'⟩ := r
          cases x with
          | ext i => rfl
          | nrm => simp only; cases resF res A' σ' <;> rfl
          | ret => simp only; cases resF res A' σ' <;> rfl
noncomputable def runFnQ (M : Mach) (n : Nat) : CF := Nat.rec (motive := fun _ => CF) (fun _ _ _ => none) (fun n ih => runFn1Q M ih n) n
theorem runFnQ_eq (M : Mach) : ∀ n, runFnQ M n = runFn M n := by
  intro n
  induction n with
  | zero => rfl
  | succ n ih =>
    funext f vs σ
    show runFn1Q M (runFnQ M n) n f vs σ = runFn1 M (runFn M n) n f vs σ
    rw [runFn1Q_eq, ih]
end Go.Proofs.YtcecdaeceipbnaaGreatDoor

/-
  A machine of checked functions is sound; a call seen with its own bytes alone. (Of no program.)
-/
namespace Go.Proofs.YtcecdaeceipbnaaGreatDoor
set_option linter.unusedVariables false
set_option linter.unusedSimpArgs false
set_option linter.unusedSectionVars false
open Go

section
variable {P : Program}
/-- is the machine's function the program's? -/
noncomputable def fnOk (E : Env P) (f : Nat) (e : FnE) : Bool := match P.funcs[f]? with
  | none => false
  | some fn => (match fn.body with
    | none => false
    | some c => (match fn.name == "runtime.NumGoroutine" with
      | true => false
      | false => (match e with
        | .code n b res => Nat.beq fn.ntmps n && okC E n (okD E n) b c && okRVs E res fn.results.toList
        | .spec _ => true)))
noncomputable def ndOk (E : Env P) (k : Nat) (v : Option FnE) : Bool := match v with | none => true | some e => fnOk E k e
noncomputable def tabOk (E : Env P) (t : T FnE) : (Pos → Pos) → Bool := T.rec (motive := fun _ => (Pos → Pos) → Bool) (fun _ => true)
  (fun _ v _ ihl ihr k => ndOk E ((k .H).nat - 1) v && ihl (fun p => k (.O p)) && ihr (fun p => k (.I p))) t
theorem tabOk_spec (E : Env P) : ∀ (t : T FnE) (k : Pos → Pos), tabOk E t k = true → ∀ p e, T.get p t = some e → fnOk E ((k p).nat - 1) e = true := by
  intro t
  induction t with
  | nil => intro k _ p e h; rw [T.get_nil] at h; cases h
  | node l v r ihl ihr =>
    intro k h p e hp
    have h : (ndOk E ((k .H).nat - 1) v && tabOk E l (fun p => k (.O p)) && tabOk E r (fun p => k (.I p))) = true := h
    simp only [Bool.and_eq_true] at h
    obtain ⟨⟨h1, h2⟩, h3⟩ := h
    cases p with
    | H =>
      have hp : v = some e := hp
      subst hp
      exact h1
    | O p => exact ihl _ h2 p e hp
    | I p => exact ihr _ h3 p e hp
theorem fnOk_is {E : Env P} {f : Nat} {e : FnE} (h : fnOk E f e = true) : ∃ fn c, P.funcs[f]? = some fn ∧ fn.body = some c ∧ (fn.name == "runtime.NumGoroutine") = false ∧
    ∀ n b res, e = .code n b res → fn.ntmps = n ∧ okC E n (okD E n) b c = true ∧ okRVs E res fn.results.toList = true := by
  unfold fnOk at h
  split at h
  · cases h
  · rename_i fn hf
    split at h
    · cases h
    · rename_i c hc
      split at h
      · cases h
      · rename_i hn
        refine ⟨fn, c, hf, hc, hn, ?_⟩
        rintro n b res rfl
        simp only [Bool.and_eq_true] at h
        exact ⟨nbeq h.1.1, h.1.2, h.2⟩
theorem mok_of {E : Env P} {M : Mach} (hpt : M.pt = E.pt) (hmt : MtOk P M.mt) (hm : P.follows .mixedOrders = true) (ht : tabOk E M.tab id = true)
    (hs : ∀ f s, T.get f M.tab = some (.spec s) → ∀ vs σ v σ', M.spec s vs σ = some (v, σ') → ∀ (ι : Nm) (w : World) (args : Array Value), Gl E.ng ι → Rep ι σ w → VRs ι vs args.toList → Calls P (f.nat - 1) args w (Post ι σ w v σ')) :
    MOk P E M (okD E) where
  pt := hpt
  mt := hmt
  rgd n := rgd_sound hpt hmt hm n
  code f n b res hf := by
    obtain ⟨fn, c, h1, h2, h3, h4⟩ := fnOk_is (tabOk_spec E _ _ ht f _ hf)
    obtain ⟨h5, h6, h7⟩ := h4 n b res rfl
    exact ⟨fn, c, h1, h2, h5, h3, h6, h7⟩
  spec f s hf := by
    obtain ⟨fn, c, h1, h2, h3, h4⟩ := fnOk_is (tabOk_spec E _ _ ht f _ hf)
    exact ⟨⟨fn, h1, by rw [h2]; rfl, h3⟩, hs f s hf⟩

theorem Rep.stays {ι : Nm} {σ : St} {w w' : World} (R : Rep ι σ w) (h : ∀ r, r < w.heap.size → w'.heap[r]? = w.heap[r]?) : Rep ι σ w' where
  ob p o hp := (R.ob p o hp).keep (.refl ι) (fun pl hpl _ => h _ (R.pl p pl hpl).lt)
  pl p pl hp := (R.pl p pl hp).heap (fun r hr o k => by rw [h r hr]; exact k)
  dom := R.dom
  hdom := R.hdom
  sep2 := R.sep2
  kin := R.kin
  kpres := R.kpres
  fin := R.fin
/-- a value that names nothing -/
def Bare (v : V) : Prop := ∀ ι ι' v', VR ι v v' → VR ι' v v'
theorem bare_int (k : IntKind) (n : Int) : Bare (.int k n) := fun ι ι' v' h => by cases h; exact .int _ _ (by assumption)
theorem bare_bool (b : Bool) : Bare (.bool b) := fun ι ι' v' h => by cases h; exact .bool _
theorem bare_agg {l : List V} (h : ∀ x ∈ l, Bare x) : Bare (.agg l) := fun ι ι' v' hv => by
  obtain ⟨c, rfl, h1, h2⟩ := hv.of_agg
  exact .mk_agg ⟨h1, fun i a b ha hb => h a (List.mem_of_getElem? ha) ι ι' b (h2 i a b ha hb)⟩
/-- a call that is handed one row of bytes, done where nothing else is known; elsewhere it comes to the same, and nothing turns -/
theorem call_bytes {ng : GS} {call : Pos → List V → St → Option (V × St)} (hc : CallOK P ng call) {f : Pos} {l : List V} {out : V} {q : Pos} {n : Nat} {σ2 : St} (hq : ∀ g ∈ ng, g + 1 < q.nat) (h0 : 0 < n) (hn : l.length = n) (hl : ∀ x ∈ l, Bare x)
    (hrun : call f [.slice q 0 n none 1] ⟨T.set (Ob.cells l [] false true) q .nil, q.succ⟩ = some (out, σ2)) (hout : Bare out)
    {ι : Nm} {w : World} {args : Array Value} {σ : St} {p : Pos} {o : Nat} {cap : Option Nat} {L : List V} {kin : List Pos} {fz ro : Bool} (hG : Gl ng ι) (R : Rep ι σ w) (hp : T.get p σ.h = some (.cells L kin fz ro)) (hL : (L.drop o).take n = l)
    (hv : VRs ι [.slice p o n cap 1] args.toList) : Calls P (f.nat - 1) args w (Post ι σ w out σ) := by
  obtain ⟨pl, a, c, s1, s2, s3, s4, s5, s6, s7⟩ := (hv.2 0 (.slice p o n cap 1) (args.toList[0]'(by have := hv.1; simp at this; simp; omega)) rfl (by simp)).slice_inv
  obtain ⟨pl', cc, e, j1, j2, j3, j4, j5, j6⟩ := R.ob p _ hp
  rw [s1] at j1; cases j1
  have hon : o + n ≤ L.length := by
    have : ((L.drop o).take n).length = n := by rw [hL, hn]
    simp at this
    omega
  let ι2 : Nm := fun x => if x = q then some ⟨pl.blk, pl.st + o, pl.sz, 0⟩ else if x.nat < q.nat then ι x else none
  have hι2q : ι2 q = some ⟨pl.blk, pl.st + o, pl.sz, 0⟩ := by simp [ι2]
  have hι2 : ∀ x y, ι2 x = some y → x = q ∧ y = ⟨pl.blk, pl.st + o, pl.sz, 0⟩ ∨ x ≠ q ∧ x.nat < q.nat ∧ ι x = some y := fun x y h => by
    simp only [ι2] at h
    split at h
    · rename_i hx; cases h; exact .inl ⟨hx, rfl⟩
    · rename_i hx
      split at h
      · rename_i hle; exact .inr ⟨hx, hle, h⟩
      · cases h
  have hget : ∀ x ob, T.get x (T.set (Ob.cells l [] false true) q .nil) = some ob → x = q ∧ ob = Ob.cells l [] false true := fun x ob h => by
    rw [T.get_set] at h
    split at h
    · rename_i hx; cases h; exact ⟨hx, rfl⟩
    · rw [T.get_nil] at h; cases h
  have R2 : Rep ι2 ⟨T.set (Ob.cells l [] false true) q .nil, q.succ⟩ w := by
    constructor
    · intro x ob h
      obtain ⟨rfl, rfl⟩ := hget x ob h
      refine ⟨_, cc, e, hι2q, rfl, j3, j4, by show pl.st + o + l.length ≤ cc.size; omega, fun i y z hy hz => ?_⟩
      have hy' : L[o + i]? = some y := by
        rw [← hL, List.getElem?_take] at hy
        split at hy
        · rw [List.getElem?_drop] at hy; exact hy
        · cases hy
      exact hl y (List.mem_of_getElem? hy) ι _ z (j6 (o + i) y z hy' (by rw [← Nat.add_assoc]; exact hz))
    · intro x y h
      rcases hι2 x y h with ⟨rfl, rfl⟩ | ⟨_, _, h⟩
      · exact ⟨fun _ => ⟨cc, e, j3, j4⟩, (fun h => by cases h), (fun h => by cases h), (fun h => by cases h), Nat.zero_le _⟩
      · exact R.pl x y h
    · intro x y h
      show x.nat < q.succ.nat
      rw [Pos.succ_nat]
      rcases hι2 x y h with ⟨rfl, _⟩ | ⟨_, h, _⟩ <;> omega
    · intro x ob h
      obtain ⟨rfl, _⟩ := hget x ob h
      show x.nat < x.succ.nat
      rw [Pos.succ_nat]; omega
    · intro x ob y ob' a1 b1 h1 _ h2 _ _ _ _ hne
      obtain ⟨rfl, _⟩ := hget x ob h1
      obtain ⟨rfl, _⟩ := hget y ob' h2
      exact absurd rfl hne
    · intro x ob y ob' h1 h2
      obtain ⟨rfl, rfl⟩ := hget x ob h1
      cases h2
    · intro x ob y h1 h2
      obtain ⟨rfl, rfl⟩ := hget x ob h1
      cases h2
    · intro x ob y ob' a1 b1 h1 h2
      obtain ⟨rfl, rfl⟩ := hget x ob h1
      cases h2
  have G2 : Gl ng ι2 := fun g x hg hx => by
    have hgq := hq g hg
    have hne : x ≠ q := fun h => by subst h; omega
    have : ι2 x = ι x := by simp only [ι2, if_neg hne]; rw [if_pos (by omega)]
    rw [this]; exact hG g x hg hx
  have hargs : VRs ι2 [.slice q 0 n none 1] args.toList := by
    have hlen := hv.1
    refine ⟨hlen, fun i x y hx hy => ?_⟩
    cases i with
    | zero =>
      simp at hx; subst hx
      have : y = args.toList[0]'(by have := hv.1; simp at this; simp; omega) := by
        have h0 : args.toList[0]? = some (args.toList[0]'(by have := hv.1; simp at this; simp; omega)) := by simp
        rw [h0] at hy; cases hy; rfl
      rw [this, s7]
      exact .slice q 0 n none 1 ⟨pl.blk, pl.st + o, pl.sz, 0⟩ a c hι2q rfl (fun _ h => by cases h) s4 (fun h => by rw [s5 h]; rfl) (by show pl.st + o + 0 + c * 1 ≤ pl.sz; omega)
    | succ i => simp at hx
  obtain ⟨hfn, h4⟩ := hc f _ _ _ _ hrun
  refine (h4 ι2 w args G2 R2 hargs).mono ?_
  rintro e' w' ⟨ι', v', rfl, q1, q2, q3⟩
  have hkeep : ∀ r, r < w.heap.size → w'.heap[r]? = w.heap[r]? := fun r hr => q3.keep r hr (by
    rintro ⟨x, ob, y, i1, i2, i3, i4⟩
    obtain ⟨rfl, rfl⟩ := hget x ob i1
    cases i2)
  refine ⟨ι, v', rfl, hout _ _ _ q1, R.stays hkeep, ⟨.refl ι, fun _ _ => rfl, Nat.le_refl _, q3.size, q3.os, q3.tape, q3.out, fun r hr _ => hkeep r hr, fun _ _ h => h, fun x y h1 h2 => by rw [h2] at h1; cases h1⟩⟩
/-- a call done where but some blocks that nobody may write are known; elsewhere it comes to the same, and nothing turns -/
theorem call_forget {ng : GS} {call : Pos → List V → St → Option (V × St)} (hc : CallOK P ng call) {f : Pos} {vs : List V} {out : V} {s2 σ2 : St} (hng : ∀ g ∈ ng, g + 1 < s2.nx.nat)
    (hwr : ∀ p o, T.get p s2.h = some o → o.wr = false ∧ o.kin = [] ∧ p.nat < s2.nx.nat) (hrun : call f vs s2 = some (out, σ2)) (hout : Bare out)
    {ι : Nm} {w : World} {args : Array Value} {σ : St} (hG : Gl ng ι) (R : Rep ι σ w) (hsub : ∀ p o, T.get p s2.h = some o → T.get p σ.h = some o ∧ ObR (fun x => if x.nat < s2.nx.nat then ι x else none) w p o)
    (hv : VRs (fun x => if x.nat < s2.nx.nat then ι x else none) vs args.toList) : Calls P (f.nat - 1) args w (Post ι σ w out σ) := by
  have hι2 : ∀ x y, (if x.nat < s2.nx.nat then ι x else none) = some y → x.nat < s2.nx.nat ∧ ι x = some y := fun x y h => by
    split at h
    · rename_i hx; exact ⟨hx, h⟩
    · cases h
  have R2 : Rep (fun x => if x.nat < s2.nx.nat then ι x else none) s2 w := by
    constructor
    · intro p o h; exact (hsub p o h).2
    · intro x y h; exact R.pl x y (hι2 x y h).2
    · intro x y h; exact (hι2 x y h).1
    · intro x o h; exact (hwr x o h).2.2
    · intro p o q o' a b h1 l1 h2 l2 h3 h4 h5 h6
      exact R.sep2 p o q o' a b (hsub p o h1).1 l1 (hsub q o' h2).1 l2 (hι2 p a h3).2 (hι2 q b h4).2 h5 h6
    · intro p o q o' h1 h2 h3; exact (hwr q o' h3).1
    · intro p o q h1 h2
      rw [(hwr p o h1).2.1] at h2; cases h2
    · intro p o q o' a b h1 h2
      rw [(hwr p o h1).1] at h2; cases h2
  have G2 : Gl ng (fun x => if x.nat < s2.nx.nat then ι x else none) := fun g x hg hx => by
    have hgq := hng g hg
    have : x.nat < s2.nx.nat := by omega
    simp only [if_pos this]
    exact hG g x hg hx
  obtain ⟨hfn, h4⟩ := hc f _ _ _ _ hrun
  refine (h4 _ w args G2 R2 hv).mono ?_
  rintro e' w' ⟨ι', v', rfl, q1, q2, q3⟩
  have hkeep : ∀ r, r < w.heap.size → w'.heap[r]? = w.heap[r]? := fun r hr => q3.keep r hr (by
    rintro ⟨x, ob, y, i1, i2, i3, i4⟩
    rw [(hwr x ob i1).1] at i2; cases i2)
  exact ⟨ι, v', rfl, hout _ _ _ q1, R.stays hkeep, ⟨.refl ι, fun _ _ => rfl, Nat.le_refl _, q3.size, q3.os, q3.tape, q3.out, fun r hr _ => hkeep r hr, fun _ _ h => h, fun x y h1 h2 => by rw [h2] at h1; cases h1⟩⟩
end
end Go.Proofs.YtcecdaeceipbnaaGreatDoor

/-
  Keys that are rows of whole numbers: what the machine asks of them. (Of no program.)
-/
namespace Go.Proofs.YtcecdaeceipbnaaGreatDoor
set_option linter.unusedVariables false
set_option linter.unusedSimpArgs false
set_option linter.unusedSectionVars false
open Go

section
variable {P : Program}
/-- a type's cells are whole numbers of these kinds -/
noncomputable def shapeB (P : Program) : Nat → Nat → List IntKind → Bool
  | 0, _, _ => false
  | m + 1, t, sh => match P.underlying t with
    | some (.int q) => (match sh with | [q'] => beqK q' q | _ => false)
    | some (.array n e) => Nat.beq sh.length (P.cellsOf t) && (List.range n).all fun i => shapeB P m e ((sh.drop (i * P.cellsOf e)).take (P.cellsOf e))
    | some (.struct fs) => Nat.beq sh.length (P.cellsOf t) && fs.all (·.name != "_") && fs.toList.all fun f => shapeB P m f.type ((sh.drop f.offset).take (P.cellsOf f.type))
    | _ => false
/-- cells of these kinds -/
def Sh (sh : List IntKind) (cs : List Value) : Prop := cs.length = sh.length ∧ ∀ (i : Nat) k x, sh[i]? = some k → cs[i]? = some x → ∃ n, x = .int k n ∧ k.has n
theorem Sh.part {sh : List IntKind} {cs : List Value} (h : Sh sh cs) (o c : Nat) : Sh ((sh.drop o).take c) ((cs.drop o).take c) := by
  refine ⟨by simp [h.1], fun i k x h1 h2 => ?_⟩
  rw [List.getElem?_take] at h1 h2
  split at h1
  · rename_i hi
    rw [if_pos hi] at h2
    rw [List.getElem?_drop] at h1 h2
    exact h.2 _ k x h1 h2
  · cases h1
theorem mapM_some2 {α β : Type} {f : α → Option β} : ∀ (l : List α), (∀ x ∈ l, ∃ y, f x = some y) → ∃ ys, l.mapM f = some ys
  | [], _ => ⟨[], rfl⟩
  | x :: l, h => by
    obtain ⟨y, hy⟩ := h x (by simp)
    obtain ⟨ys, hys⟩ := mapM_some2 l (fun z hz => h z (by simp [hz]))
    exact ⟨y :: ys, by simp [List.mapM_cons, hy, hys]⟩
theorem lits_of_shape : ∀ (m t : Nat) (sh : List IntKind) (cs : List Value), shapeB P m t sh = true → Sh sh cs → ∃ L, P.keyLits m t cs = some L
  | 0, t, sh, cs, h, _ => by cases h
  | m + 1, t, sh, cs, h, hs => by
    unfold shapeB at h
    split at h
    · rename_i q hu
      split at h
      · rename_i q'
        have := beqK_eq h; subst this
        obtain ⟨x, rfl⟩ : ∃ x, cs = [x] := List.length_eq_one_iff.1 (by simpa using hs.1)
        obtain ⟨n, rfl, hn⟩ := hs.2 0 q' x rfl rfl
        refine ⟨[.int q' n], ?_⟩
        unfold Program.keyLits
        simp only [hu]
        rw [if_pos]
        refine ⟨trivial, ?_⟩
        unfold IntKind.has at hn
        simpa [Lit.wf] using hn
      · cases h
    · rename_i n e hu
      simp only [Bool.and_eq_true] at h
      obtain ⟨h1, h2⟩ := h
      have h1 := nbeq h1
      obtain ⟨ys, hys⟩ := mapM_some2 (f := fun i => P.keyLits m e ((cs.drop (i * P.cellsOf e)).take (P.cellsOf e))) (List.range n) (fun i hi =>
        lits_of_shape m e _ _ (List.all_eq_true.1 h2 i hi) (hs.part _ _))
      refine ⟨ys.flatten, ?_⟩
      rw [Program.keyLits.eq_def]
      simp only [hu]
      rw [if_pos (by rw [hs.1]; exact h1), hys]
      rfl
    · rename_i fs hu
      simp only [Bool.and_eq_true] at h
      obtain ⟨⟨h1, h3⟩, h2⟩ := h
      have h1 := nbeq h1
      obtain ⟨ys, hys⟩ := mapM_some2 (f := fun f : Field => P.keyLits m f.type ((cs.drop f.offset).take (P.cellsOf f.type))) fs.toList (fun f hf =>
        lits_of_shape m f.type _ _ (List.all_eq_true.1 h2 f hf) (hs.part _ _))
      refine ⟨ys.flatten, ?_⟩
      rw [Program.keyLits.eq_def]
      simp only [hu]
      rw [if_pos ⟨by rw [hs.1]; exact h1, h3⟩, hys]
      rfl
    · cases h
noncomputable def keyB (P : Program) (t : Nat) (sh : List IntKind) : Bool := shapeB P (P.types.size + 1) t sh && P.keyTypeAt 8 t && P.keyType t && P.tiled 8 t && Nat.beq sh.length (P.cellsOf t) && !(P.eqGuardType P.depth t) &&
  (match P.underlying t with | some (.array _ _) => true | some (.struct _) => true | _ => false)
theorem Shaped.sh {sh : List IntKind} {v : Value} (h : Shaped (.cells sh) v) : ∃ c : Array Value, v = .agg c ∧ Sh sh c.toList := by
  obtain ⟨c, rfl, h1, h2⟩ := h
  exact ⟨c, rfl, by simpa using h1, fun i k x a b => h2 i k x a (by simpa using b)⟩
theorem mapK_now {t : Nat} {d : TypeDesc} {ks : KSh} (h : P.underlying t = some d) (hk : ∀ v, Shaped ks v → MapKept.IsKey d v) : MapK P t ks where
  check w em v hv := MapKept.run_checkKey h (hk v hv) em 9999
  find w x es hx hes := by
    rcases MapKept.findNow_spec (hk x hx) es 0 (fun e he => hk _ (hes e he)) with ⟨h1, h2⟩ | ⟨j, e, h1, h2, h3⟩
    · exact .inl ⟨MapKept.run_findKey h h1, h2⟩
    · refine .inr ⟨j, e, MapKept.run_findKey h ?_, h2, h3⟩
      rw [h1, Nat.zero_add]
  stays w v hv := MapKept.run_keyThatStays (hk v hv)
theorem mapK_int {t : Nat} {k : IntKind} (h : P.underlying t = some (.int k)) : MapK P t (.int k) := mapK_now h fun v hv => by
  obtain ⟨n, rfl, _⟩ := hv
  simp [MapKept.IsKey]
theorem mapK_str {t : Nat} (h : P.underlying t = some .string) : MapK P t .str := mapK_now h fun v hv => by
  obtain ⟨n, rfl⟩ := hv
  simp [MapKept.IsKey]
theorem key_of {t : Nat} {sh : List IntKind} (h : keyB P t sh = true) : KTok P t sh ∧ MapK P t (.cells sh) := by
  simp only [keyB, Bool.and_eq_true, Bool.not_eq_true'] at h
  obtain ⟨⟨⟨⟨⟨⟨h1, h2⟩, h3⟩, h4⟩, h5⟩, h6⟩, h7⟩ := h
  have h5 := nbeq h5
  have hwide : (match P.underlying t with | some (.array _ _) | some (.struct _) => true | _ => false) = true := by
    split at h7 <;> first | (rename_i hu; simp only [hu]; done) | cases h7
  have lits : ∀ v, Shaped (.cells sh) v → v.formed P t = true ∧ ∃ L, P.keyLits (P.types.size + 1) t v.cells.toList = some L := fun v hv => by
    obtain ⟨c, rfl, hs⟩ := hv.sh
    refine ⟨?_, lits_of_shape _ _ _ _ h1 hs⟩
    have hsz : c.size = P.cellsOf t := by have := hs.1; simp at this; omega
    unfold Value.formed
    split at h7
    · rename_i hu; simp [hu, hsz]
    · rename_i hu; simp [hu, hsz]
    · cases h7
  have kof : ∀ v, Shaped (.cells sh) v → ∃ l, keyOf P t v = some l := fun v hv => by
    obtain ⟨hf, L, hL⟩ := lits v hv
    refine ⟨.string (keyBytes L), ?_⟩
    unfold keyOf
    split at h7
    · rename_i hu; simp [hu, h3, hf, hL]
    · rename_i hu; simp [hu, h3, hf, hL]
    · cases h7
  have law : WideMaps.KeyLaw P t := deep_law (m := 8) (by decide) h2 h4 hwide
  refine ⟨⟨h6, fun w a b ha hb => ?_⟩, ⟨fun w em v hv => ?_, fun w x es hx hes => ?_, fun w v hv => ?_⟩⟩
  · obtain ⟨fa, la, hla⟩ := lits a ha
    obtain ⟨fb, lb, hlb⟩ := lits b hb
    obtain ⟨r, r1, r2⟩ := run_equalIn_deep 9992 8 t h2 w _ _ a b la lb fa fb hla hlb
    refine ⟨r, r1, r2.trans ?_⟩
    obtain ⟨ca, rfl, _⟩ := ha.sh
    obtain ⟨cb, rfl, _⟩ := hb.sh
    have c1 := cells_of_lits 8 t h4 _ _ _ hla
    have c2 := cells_of_lits 8 t h4 _ _ _ hlb
    simp only [Value.cells] at c1 c2
    constructor
    · rintro rfl
      congr 1
      apply Array.ext'
      rw [c1, c2]
    · intro e
      cases e
      rw [hla] at hlb
      exact Option.some.inj hlb
  · obtain ⟨l, hl⟩ := kof v hv
    exact law.check w em hl
  · obtain ⟨l, hl⟩ := kof x hx
    exact law.find w hl es (fun e he => kof _ (hes e he))
  · obtain ⟨l, hl⟩ := kof v hv
    exact law.stays w hl
end
end Go.Proofs.YtcecdaeceipbnaaGreatDoor

/-
  A beginning: some cells are known, and nobody writes them. (Of no program.)
-/
namespace Go.Proofs.YtcecdaeceipbnaaGreatDoor
set_option linter.unusedVariables false
set_option linter.unusedSimpArgs false
set_option linter.unusedSectionVars false
open Go Go.RowKit Go.ChangeShapes

/-- a cell that is known: its name, where it lies, what it holds -/
structure KC where
  nm : Pos
  blk : Nat
  off : Nat
  v : V
noncomputable def hOf : List KC → T Ob | [] => .nil | x :: l => T.set (.cells [x.v] [] false true) x.nm (hOf l)
def szAt (w : World) (b : Nat) : Nat := match w.heap[b]? with | some (.cells c _ _) => c.size | _ => 0
def nmOf (w : World) : List KC → Nm | [], _ => none | x :: l, p => if p = x.nm then some ⟨x.blk, x.off, szAt w x.blk, 0⟩ else nmOf w l p
theorem hOf_get (w : World) : ∀ (K : List KC) (p : Pos) (o : Ob), T.get p (hOf K) = some o → ∃ x ∈ K, x.nm = p ∧ o = .cells [x.v] [] false true ∧ nmOf w K p = some ⟨x.blk, x.off, szAt w x.blk, 0⟩
  | [], p, o, h => by simp [hOf, T.get_nil] at h
  | x :: l, p, o, h => by
    simp only [hOf, T.get_set] at h
    split at h
    · rename_i e
      cases h
      exact ⟨x, by simp, e.symm, rfl, by simp [nmOf, e]⟩
    · rename_i e
      obtain ⟨y, h1, h2, h3, h4⟩ := hOf_get w l p o h
      exact ⟨y, List.mem_cons_of_mem _ h1, h2, h3, by simp only [nmOf, if_neg e]; exact h4⟩
theorem nmOf_get (w : World) : ∀ (K : List KC) (p : Pos) (pl : Pl), nmOf w K p = some pl → ∃ x ∈ K, x.nm = p ∧ pl = ⟨x.blk, x.off, szAt w x.blk, 0⟩
  | [], p, pl, h => by cases h
  | x :: l, p, pl, h => by
    simp only [nmOf] at h
    split at h
    · rename_i e
      cases h
      exact ⟨x, by simp, e.symm, rfl⟩
    · obtain ⟨y, h1, h2, h3⟩ := nmOf_get w l p pl h
      exact ⟨y, List.mem_cons_of_mem _ h1, h2, h3⟩
theorem Rep.ofCells {w : World} {K : List KC} {nx : Pos} (hpl : ∀ x ∈ K, ∃ c e, w.heap[x.blk]? = some (.cells c e) ∧ x.off < c.size ∧ ∀ y, c[x.off]? = some y → VR (nmOf w K) x.v y)
    (hne : ∀ x ∈ K, ∀ y ∈ K, x.nm ≠ y.nm → x.blk ≠ y.blk ∨ x.off ≠ y.off) (hnx : ∀ x ∈ K, x.nm.nat < nx.nat) : Rep (nmOf w K) ⟨hOf K, nx⟩ w where
  ob p o h := by
    obtain ⟨x, h1, h2, rfl, h4⟩ := hOf_get w K p o h
    obtain ⟨c, e, k1, k2, k3⟩ := hpl x h1
    have hs : szAt w x.blk = c.size := by unfold szAt; rw [k1]
    refine ⟨_, c, e, h4, rfl, k1, by rw [hs], by show x.off + 1 ≤ c.size; omega, fun i a b ha hb => ?_⟩
    cases i with
    | zero => simp at ha; subst ha; exact k3 b (by simpa using hb)
    | succ i => simp at ha
  pl p pl h := by
    obtain ⟨x, h1, h2, rfl⟩ := nmOf_get w K p pl h
    obtain ⟨c, e, k1, k2, k3⟩ := hpl x h1
    have hs : szAt w x.blk = c.size := by unfold szAt; rw [k1]
    exact ⟨fun _ => ⟨c, e, k1, by rw [hs]⟩, (fun h => by cases h), (fun h => by cases h), (fun h => by cases h), Nat.zero_le _⟩
  dom p pl h := by
    obtain ⟨x, h1, rfl, _⟩ := nmOf_get w K p pl h
    exact hnx x h1
  hdom p o h := by
    obtain ⟨x, h1, rfl, _⟩ := hOf_get w K p o h
    exact hnx x h1
  sep2 p o q o' a b h1 _ h2 _ ha hb hab hqp := by
    obtain ⟨x, m1, m2, rfl, m4⟩ := hOf_get w K p o h1
    obtain ⟨y, n1, n2, rfl, n4⟩ := hOf_get w K q o' h2
    have ha : some a = some _ := ha.symm.trans m4
    have hb : some b = some _ := hb.symm.trans n4
    cases ha; cases hb
    refine .inr (.inr ⟨rfl, rfl, ?_⟩)
    rcases hne x m1 y n1 (by rw [m2, n2]; exact fun e => hqp e.symm) with h | h
    · exact absurd hab h
    · show x.off + 1 ≤ y.off ∨ y.off + 1 ≤ x.off
      omega
  kin p o q o' h1 h2 := by
    obtain ⟨x, _, _, rfl, _⟩ := hOf_get w K p o h1
    cases h2
  kpres p o q h1 h2 := by
    obtain ⟨x, _, _, rfl, _⟩ := hOf_get w K p o h1
    cases h2
  fin p o q o' a b h1 h2 := by
    obtain ⟨x, _, _, rfl, _⟩ := hOf_get w K p o h1
    cases h2

/-! what a row's list of sentinels gives -/
def sentRow (nm : String) (x : String × List UInt8) : String × DataW Unit := (x.1, .iface nm (.ptr (.agg [.lit (.string x.2)])))
structure SentIs (P : Program) (W : World) (tp : Nat) (n : String) (a : Addr) : Prop where
  glob : ∀ g, P.globalNamed n = some g → ∃ e, W.heap[g]? = some (.cells #[.iface tp (.pointer (some a))] e)
  spot : a.spot = none
  heap : ∃ c e, W.heap[a.block]? = some (.cells c e) ∧ a.off < c.size
/-- the places, one after another -/
def sentPs : List Nat → List Addr → List MemPlace | g :: gs, a :: as_ => .cell g 0 :: .cell a.block a.off :: sentPs gs as_ | _, _ => []
theorem sents_of_laid {P : Program} {W : World} {nm : String} {ti tp te ts : TypeId} {ms : Array (String × TypeId)} {f : Field} (hi : P.underlying ti = some (.interface ms)) (hrow : ∀ u, P.typeName? 3 u = some nm → u = tp)
    (hp : P.underlying tp = some (.pointer te)) (he : P.underlying te = some (.struct #[f])) (hft : f.type = ts) (hfo : f.offset = 0) (hs : P.underlying ts = some .string) (hc : P.cellsOf te = 1) (hcs : P.cellsOf ts = 1) :
    ∀ (l : List (String × List UInt8)) (gs : List Nat) (ps : List MemPlace), l.map (fun x => P.globalNamed x.1) = gs.map some → (∀ g ∈ gs, (P.globals[g]?).map (·.type) = some ti) → DataW.LaidVars P W (l.map (sentRow nm)) ps →
      (∀ b off, MemPlace.cell b off ∈ ps → (∃ c t, W.heap[b]? = some (.cells c t (0, 0))) ∧ ∀ u v, W.cell? ⟨b, off, none⟩ = some (.iface u v) → Value.okWide P W .any 0 u v) →
      ∃ as_ : List Addr, as_.length = gs.length ∧ ps = sentPs gs as_ ∧ ∀ (i : Nat) x a, l[i]? = some x → as_[i]? = some a → SentIs P W tp x.1 a
  | [], [], ps, _, _, h, _ => ⟨[], rfl, h, fun i x a h => by simp at h⟩
  | [], _ :: _, _, h, _, _, _ => by simp at h
  | _ :: _, [], _, h, _, _, _ => by simp at h
  | (n, text) :: l, g :: gs, ps, hg, ht, h, hrows => by
    simp only [List.map_cons, List.cons.injEq] at hg
    obtain ⟨g0, t0, cs0, f0, p0, q0, hg0, ht0, hv0, hd0, hr, e0⟩ := h
    have hgg : P.globalNamed n = some g := hg.1
    obtain rfl := Option.some.inj (hgg.symm.trans hg0)
    obtain rfl := Option.some.inj ((ht g (by simp)).symm.trans ht0)
    subst e0
    obtain ⟨l0⟩ := cs0
    have ok0 : ∀ u v, l0 = [.iface u v] → Value.okWide P W .any 0 u v := fun u v e => by
      subst e
      exact (hrows g 0 (by simp [MemPlace.row])).2 u v (by simpa using World.var?_cell hgg hv0 0)
    obtain ⟨a, s0, rfl, hc0, hs0, hz0, rfl⟩ := errorString_of_trod hi hrow hp he hft hfo hs hc hcs hd0 ok0
    obtain ⟨as_, k1, k2, k3⟩ := sents_of_laid hi hrow hp he hft hfo hs hc hcs l gs q0 hg.2 (fun g hg => ht g (by simp [hg])) hr (fun b off hm => hrows b off (List.mem_append_right _ hm))
    refine ⟨a :: as_, by simp [k1], by subst k2; simp [sentPs, MemPlace.row], fun i x b hx hb => ?_⟩
    cases i with
    | succ i => exact k3 i x b (by simpa using hx) (by simpa using hb)
    | zero =>
      simp at hx hb
      subst hx; subst hb
      unfold World.cell? at hc0
      split at hc0
      · rename_i c e fr hb
        split at hc0
        · cases hc0
        · rename_i hsp
          have hlt : a.off < c.size := (Array.getElem?_eq_some_iff.1 hc0).1
          obtain ⟨c', t', hb'⟩ := (hrows a.block a.off (by simp [MemPlace.row])).1
          rw [hb] at hb'; cases hb'
          refine ⟨fun g' hg' => ?_, by simpa using hsp, ⟨c, e, hb, hlt⟩⟩
          obtain rfl := Option.some.inj (hgg.symm.trans hg')
          obtain ⟨c2, t2, hb2⟩ := (hrows g 0 (by simp [MemPlace.row])).1
          unfold World.var? at hv0
          rw [hgg] at hv0
          simp only [Option.bind_some, hb2, Option.some.injEq] at hv0
          exact ⟨t2, by rw [hb2, hv0]⟩
      · cases hc0

/-- the cells known at the beginning: each variable, and what it points to -/
noncomputable def KOf (tp base : Nat) : Nat → List Nat → List Addr → List KC
  | i, g :: gs, a :: as_ => ⟨natPos g, g, 0, .iface tp (.ptr (natPos (base + i)) 0)⟩ :: ⟨natPos (base + i), a.block, a.off, .u⟩ :: KOf tp base (i + 1) gs as_
  | _, _, _ => []
noncomputable def hG (tp base : Nat) : Nat → List Nat → T Ob
  | i, g :: gs => T.set (.cells [.iface tp (.ptr (natPos (base + i)) 0)] [] false true) (natPos g) (T.set (.cells [.u] [] false true) (natPos (base + i)) (hG tp base (i + 1) gs))
  | _, [] => .nil
theorem hOf_KOf (tp base : Nat) : ∀ (i : Nat) (gs : List Nat) (as_ : List Addr), as_.length = gs.length → hOf (KOf tp base i gs as_) = hG tp base i gs
  | i, [], [], _ => rfl
  | i, g :: gs, a :: as_, h => by simp only [KOf, hOf, hG]; rw [hOf_KOf tp base (i + 1) gs as_ (by simpa using h)]
  | i, [], _ :: _, h => by simp at h
  | i, _ :: _, [], h => by simp at h
theorem KOf_place (tp base : Nat) : ∀ (i : Nat) (gs : List Nat) (as_ : List Addr), (KOf tp base i gs as_).map (fun x => MemPlace.cell x.blk x.off) = sentPs gs as_
  | i, [], [] => rfl
  | i, [], _ :: _ => rfl
  | i, _ :: _, [] => rfl
  | i, g :: gs, a :: as_ => by simp only [KOf, sentPs, List.map_cons, KOf_place tp base (i + 1) gs as_]
theorem KOf_mem {tp base : Nat} : ∀ {i : Nat} {gs : List Nat} {as_ : List Addr} {x : KC}, x ∈ KOf tp base i gs as_ → ∃ (j : Nat) (g : Nat) (a : Addr), gs[j]? = some g ∧ as_[j]? = some a ∧
    (x = ⟨natPos g, g, 0, .iface tp (.ptr (natPos (base + (i + j))) 0)⟩ ∨ x = ⟨natPos (base + (i + j)), a.block, a.off, .u⟩)
  | i, [], [], x, h => by cases h
  | i, [], _ :: _, x, h => by cases h
  | i, _ :: _, [], x, h => by cases h
  | i, g :: gs, a :: as_, x, h => by
    simp only [KOf, List.mem_cons] at h
    rcases h with h | h | h
    · exact ⟨0, g, a, rfl, rfl, .inl h⟩
    · exact ⟨0, g, a, rfl, rfl, .inr h⟩
    · obtain ⟨j, g', a', h1, h2, h3⟩ := KOf_mem h
      have e : i + 1 + j = i + (j + 1) := by omega
      rw [e] at h3
      exact ⟨j + 1, g', a', by simpa using h1, by simpa using h2, h3⟩
theorem KOf_sent {tp base : Nat} : ∀ {i : Nat} {gs : List Nat} {as_ : List Addr} {j : Nat} {g : Nat} {a : Addr}, gs[j]? = some g → as_[j]? = some a →
    (⟨natPos (base + (i + j)), a.block, a.off, .u⟩ : KC) ∈ KOf tp base i gs as_ ∧ (⟨natPos g, g, 0, .iface tp (.ptr (natPos (base + (i + j))) 0)⟩ : KC) ∈ KOf tp base i gs as_
  | i, [], _, j, g, a, h, _ => by simp at h
  | i, _ :: _, [], j, g, a, _, h => by simp at h
  | i, g :: gs, a :: as_, j, g', a', h1, h2 => by
    cases j with
    | zero => simp at h1 h2; subst h1; subst h2; simp [KOf]
    | succ j =>
      obtain ⟨k1, k2⟩ := KOf_sent (tp := tp) (base := base) (i := i + 1) (gs := gs) (as_ := as_) (j := j) (g := g') (a := a') (by simpa using h1) (by simpa using h2)
      have e : i + 1 + j = i + (j + 1) := by omega
      rw [e] at k1 k2
      exact ⟨by simp only [KOf, List.mem_cons]; exact .inr (.inr k1), by simp only [KOf, List.mem_cons]; exact .inr (.inr k2)⟩
theorem inj_of_nodup {α β : Type} {f : α → β} : ∀ {l : List α}, (l.map f).Nodup → ∀ x ∈ l, ∀ y ∈ l, f x = f y → x = y
  | [], _, x, hx, _, _, _ => by cases hx
  | z :: l, h, x, hx, y, hy, he => by
    simp only [List.map_cons, List.nodup_cons] at h
    rcases List.mem_cons.1 hx with rfl | hx
    · rcases List.mem_cons.1 hy with rfl | hy
      · rfl
      · exact absurd (by rw [he]; exact List.mem_map.2 ⟨y, hy, rfl⟩) h.1
    · rcases List.mem_cons.1 hy with hy | hy
      · exact absurd (by rw [← hy, ← he]; exact List.mem_map.2 ⟨x, by assumption, rfl⟩) h.1
      · exact inj_of_nodup h.2 x (by assumption) y hy he
theorem natPos_inj {m n : Nat} (h : natPos m = natPos n) : m = n := by
  have := congrArg Pos.nat h
  rw [natPos_nat, natPos_nat] at this
  omega
theorem nmOf_mem {w : World} : ∀ {K : List KC}, (∀ x ∈ K, ∀ y ∈ K, x.nm = y.nm → x = y) → ∀ x ∈ K, nmOf w K x.nm = some ⟨x.blk, x.off, szAt w x.blk, 0⟩ := by
  intro K hK x hx
  cases h : nmOf w K x.nm with
  | none =>
    exfalso
    clear hK
    induction K with
    | nil => cases hx
    | cons z l ih =>
      simp only [nmOf] at h
      split at h
      · cases h
      · rename_i e
        rcases List.mem_cons.1 hx with rfl | hx
        · exact e rfl
        · exact ih hx h
  | some pl =>
    obtain ⟨y, h1, h2, rfl⟩ := nmOf_get w K x.nm pl h
    rw [hK y h1 x hx h2]
/-- THE BEGINNING, where a row's sentinels are laid -/
theorem begin_of {P : Program} {W : World} {tp base : Nat} {l : List (String × List UInt8)} {gs : List Nat} {as_ : List Addr} {nx : Pos} (hlen : as_.length = gs.length) (hll : l.length = gs.length)
    (hg : l.map (fun x => P.globalNamed x.1) = gs.map some) (hb : ∀ g ∈ gs, g < base) (hnd : (sentPs gs as_).Nodup) (hsent : ∀ (i : Nat) x a, l[i]? = some x → as_[i]? = some a → SentIs P W tp x.1 a) (hnx : base + gs.length < nx.nat) :
    ∃ ι, Rep ι ⟨hG tp base 0 gs, nx⟩ W ∧ Gl gs ι := by
  have hplace : ∀ x ∈ KOf tp base 0 gs as_, ∀ y ∈ KOf tp base 0 gs as_, MemPlace.cell x.blk x.off = MemPlace.cell y.blk y.off → x = y := inj_of_nodup (f := fun x : KC => MemPlace.cell x.blk x.off) (by rw [KOf_place]; exact hnd)
  have hname : ∀ x ∈ KOf tp base 0 gs as_, ∀ y ∈ KOf tp base 0 gs as_, x.nm = y.nm → x = y := by
    intro x hx y hy he
    obtain ⟨j, g, a, h1, h2, h3⟩ := KOf_mem hx
    obtain ⟨k, g', a', k1, k2, k3⟩ := KOf_mem hy
    have hgb := hb g (List.mem_of_getElem? h1)
    have hgb' := hb g' (List.mem_of_getElem? k1)
    rcases h3 with rfl | rfl <;> rcases k3 with rfl | rfl
    · have := natPos_inj he
      subst this
      exact hplace _ hx _ hy rfl
    · have := natPos_inj he; omega
    · have := natPos_inj he; omega
    · have := natPos_inj he
      have : j = k := by omega
      subst this
      rw [h2] at k2; cases k2; rfl
  have hvar : ∀ (j : Nat) g a, gs[j]? = some g → as_[j]? = some a → (∃ e, W.heap[g]? = some (.cells #[.iface tp (.pointer (some a))] e)) ∧ a.spot = none ∧ ∃ c e, W.heap[a.block]? = some (.cells c e) ∧ a.off < c.size := by
    intro j g a h1 h2
    have hj : j < l.length := by rw [hll]; exact (List.getElem?_eq_some_iff.1 h1).1
    have hx : l[j]? = some l[j] := List.getElem?_eq_getElem hj
    obtain ⟨v1, v2, v3⟩ := hsent j _ a hx h2
    have hgn : P.globalNamed l[j].1 = some g := by
      have := congrArg (fun z => z[j]?) hg
      simp only [List.getElem?_map, hx, h1, Option.map_some] at this
      exact Option.some.inj this
    exact ⟨v1 g hgn, v2, v3⟩
  refine ⟨nmOf W (KOf tp base 0 gs as_), ?_, ?_⟩
  · rw [← hOf_KOf tp base 0 gs as_ hlen]
    refine Rep.ofCells ?_ ?_ ?_
    · intro x hx
      obtain ⟨j, g, a, h1, h2, h3⟩ := KOf_mem hx
      obtain ⟨⟨e, v1⟩, v2, c, e2, v3, v4⟩ := hvar j g a h1 h2
      rcases h3 with rfl | rfl
      · refine ⟨_, e, v1, by simp, fun y hy => ?_⟩
        simp at hy
        subst hy
        have hm := nmOf_mem (w := W) hname _ (KOf_sent (tp := tp) (base := base) (i := 0) h1 h2).1
        have := VR.ptr (ι := nmOf W (KOf tp base 0 gs as_)) _ 0 _ hm rfl
        have ha : a = ⟨a.block, a.off + 0, none⟩ := by rw [← v2]; rfl
        rw [ha]
        exact .iface _ _ _ this
      · exact ⟨c, e2, v3, v4, fun y _ => .u y⟩
    · intro x hx y hy hne
      by_cases h : x.blk = y.blk
      · right
        intro ho
        exact hne (congrArg KC.nm (hplace x hx y hy (by rw [h, ho])))
      · exact .inl h
    · intro x hx
      obtain ⟨j, g, a, h1, h2, h3⟩ := KOf_mem hx
      have hgb := hb g (List.mem_of_getElem? h1)
      have hj : j < gs.length := (List.getElem?_eq_some_iff.1 h1).1
      rcases h3 with rfl | rfl
      · show (natPos g).nat < _; rw [natPos_nat]; omega
      · show (natPos (base + (0 + j))).nat < _; rw [natPos_nat]; omega
  · intro g p hgm hp
    obtain ⟨j, hj⟩ := List.getElem?_of_mem hgm
    have hja : j < as_.length := by rw [hlen]; exact (List.getElem?_eq_some_iff.1 hj).1
    have hm := nmOf_mem (w := W) hname _ (KOf_sent (tp := tp) (base := base) (i := 0) hj (List.getElem?_eq_getElem hja)).2
    have e : p = natPos g := Pos.nat_inj (by rw [natPos_nat]; exact hp)
    subst e
    exact ⟨_, hm, rfl, rfl, rfl⟩
end Go.Proofs.YtcecdaeceipbnaaGreatDoor

/-
  A slot is written that the frame says nothing of; a slot is set by hand. (Of no program.)
-/
namespace Go.Proofs.YtcecdaeceipbnaaGreatDoor
set_option linter.unusedVariables false
set_option linter.unusedSimpArgs false
set_option linter.unusedSectionVars false
open Go

theorem FR.skip {n : Nat} {ds : List Deferred} {ι : Nm} {A : T V} {a : Act} (F : FR n ds ι A a) {t : Nat} {p : Pos} (hp : p.nat = t + 1) (h : T.get p A = none) (v' : Value) : FR n ds ι A (a.put (some t) v') := by
  refine ⟨by simp [Act.put, F.size], F.defers, fun q x s hq hs => ?_⟩
  have hne : t ≠ s := fun e => by
    subst e
    have : q = p := Pos.nat_inj (by omega)
    subst this
    rw [h] at hq; cases hq
  simp only [Act.put, Array.getD_eq_getD_getElem?, Array.getElem?_setIfInBounds_ne hne]
  have := F.at_ q x s hq hs
  rw [Array.getD_eq_getD_getElem?] at this
  exact this
theorem FR.put1 {n : Nat} {ds : List Deferred} {ι : Nm} {A : T V} {a : Act} (F : FR n ds ι A a) {t : Nat} {p : Pos} (hp : p.nat = t + 1) (hn : t < n) {v : V} {v' : Value} (hv : VR ι v v') : FR n ds ι (T.set v p A) (a.put (some t) v') :=
  F.put (d := some p) (t := some t) (by simp [okDst, hp, hn]) hv
/-- a frame whose slots are not spoken of -/
theorem FR.less {n : Nat} {ds : List Deferred} {ι : Nm} {A B : T V} {a : Act} (F : FR n ds ι A a) (h : ∀ p v, T.get p B = some v → T.get p A = some v) : FR n ds ι B a := ⟨F.size, F.defers, fun p v t h1 h2 => F.at_ p v t (h p v h1) h2⟩
theorem FR.empty {n : Nat} {ds : List Deferred} {ι : Nm} {a : Act} (h1 : a.tmps.size = n) (h2 : a.defers = ds) : FR n ds ι .nil a := ⟨h1, h2, fun p v t h _ => by rw [T.get_nil] at h; cases h⟩
end Go.Proofs.YtcecdaeceipbnaaGreatDoor

/-
  For laws: a row of hashes as a table, a call done once in the beginning's memory, a law's closing. (Of no program.)
-/
namespace Go.Proofs.YtcecdaeceipbnaaGreatDoor
set_option linter.unusedVariables false
set_option linter.unusedSimpArgs false
set_option linter.unusedSectionVars false
open Go Go.RowKit

noncomputable def okV (r : Option (V × St)) (v : V) : Bool := match r with | some (w, _) => veq w v | none => false
theorem okV_run {r : Option (V × St)} {v : V} (h : okV r v = true) : ∃ σ2, r = some (v, σ2) := by
  unfold okV at h
  split at h
  · rename_i w σ2
    exact ⟨σ2, by rw [veq_eq h]⟩
  · cases h
noncomputable def bs (l : List Nat) : List V := lmap (fun n => V.int .u8 (.ofNat n)) l
theorem bs_bare (l : List Nat) : ∀ x ∈ bs l, Bare x := by
  intro x hx
  unfold bs at hx
  rw [lmap_eq, List.mem_map] at hx
  obtain ⟨n, _, rfl⟩ := hx
  exact bare_int _ _

/-! hashes -/
noncomputable def look (l : List V) (t : List (List V × V)) : Option V := List.rec (motive := fun _ => Option V) none (fun x _ ih => match veqL veq0 x.1 l with | true => some x.2 | false => ih) t
theorem look_mem {l : List V} : ∀ {t : List (List V × V)} {v : V}, look l t = some v → (l, v) ∈ t
  | [], v, h => by cases h
  | x :: t, v, h => by
    have h : (match veqL veq0 x.1 l with | true => some x.2 | false => look l t) = some v := h
    split at h
    · rename_i hx
      cases h
      rw [← veqL_eq (fun _ _ h => veq0_eq h) hx]
      simp
    · exact List.mem_cons_of_mem _ (look_mem h)
noncomputable def hashSpec (t : List (List V × V)) (z : Option V) (vs : List V) (σ : St) : Option (V × St) := match vs with
  | [.slice p o len _ 1] => (match T.get p σ.h with | some (.cells l _ _ _) => (match look (ltake (ldrop l o) len) t with | some v => (match Nat.beq (llen (ltake (ldrop l o) len)) len with | true => some (v, σ) | false => none) | none => none) | _ => none)
  | [.nils] => (match z with | some v => some (v, σ) | none => none)
  | _ => none
section
variable {P : Program}
theorem hash_sound {ng : GS} {call : Pos → List V → St → Option (V × St)} (hc : CallOK P ng call) {f q : Pos} (hq : ∀ g ∈ ng, g + 1 < q.nat) {t : List (List V × V)} {z : Option V}
    (ht : ∀ x ∈ t, 0 < x.1.length ∧ (∀ y ∈ x.1, Bare y) ∧ Bare x.2 ∧ ∃ σ2, call f [.slice q 0 x.1.length none 1] ⟨T.set (Ob.cells x.1 [] false true) q .nil, q.succ⟩ = some (x.2, σ2))
    (hz : ∀ v, z = some v → Bare v ∧ ∃ σ2, call f [.nils] ⟨.nil, q⟩ = some (v, σ2))
    {vs : List V} {σ : St} {v : V} {σ' : St} (h : hashSpec t z vs σ = some (v, σ')) {ι : Nm} {w : World} {args : Array Value} (hG : Gl ng ι) (R : Rep ι σ w) (hv : VRs ι vs args.toList) : Calls P (f.nat - 1) args w (Post ι σ w v σ') := by
  unfold hashSpec at h
  split at h
  · rename_i p o len cap
    split at h
    · rename_i l kin fz ro hp
      split at h
      · rename_i v1 hl
        split at h
        · rename_i hlen
          cases h
          obtain ⟨h1, h2, h3, σ2, h4⟩ := ht _ (look_mem hl)
          have hlen := Nat.eq_of_beq_eq_true hlen
          rw [llen_eq] at hlen
          simp only [hlen] at h4 h1
          exact call_bytes hc hq h1 hlen h2 h4 h3 hG R hp (by rw [ltake_eq, ldrop_eq]) hv
        · cases h
      · cases h
    · cases h
  · split at h
    · rename_i v1 hz1
      cases h
      obtain ⟨h3, σ2, h4⟩ := hz _ rfl
      refine call_forget hc (s2 := ⟨.nil, q⟩) (σ2 := σ2) (fun g hg => by have := hq g hg; exact this) (fun p o h => by rw [T.get_nil] at h; cases h) h4 h3 hG R (fun p o h => by rw [T.get_nil] at h; cases h) ?_
      refine ⟨hv.1, fun i a b ha hb => ?_⟩
      have := hv.2 i a b ha hb
      cases i with
      | zero => simp at ha; subst ha; cases this; exact .nils
      | succ i => simp at ha
    · cases h
  · cases h

/-! what is read-only, name by name -/
noncomputable def nmB (m : Nat) (v : V) : Bool := V.rec (motive_1 := fun _ => Bool) (motive_2 := fun _ => Bool) true (fun _ => true) (fun _ _ => true) (fun _ => true) true (fun p _ => Nat.blt p.nat m) true (fun _ _ _ _ _ => false) true (fun _ => false) true (fun _ _ _ _ _ => false) true (fun _ _ ih => ih) (fun _ _ => false) (fun _ _ => false) (fun _ => false) true (fun _ _ _ _ => true) v
theorem nmB_vr {m : Nat} {ι ι2 : Nm} (h2 : ∀ x : Pos, x.nat < m → ι2 x = ι x) {v : V} {y : Value} (h : VR ι v y) : nmB m v = true → VR ι2 v y := by
  induction h with
  | u v => exact fun _ => .u v
  | bool b => exact fun _ => .bool b
  | int k n hn => exact fun _ => .int k n hn
  | str l s hs => exact fun _ => .str l s hs
  | nilp => exact fun _ => .nilp
  | ptr p o pl hp hk =>
    intro hb
    have hb : Nat.blt p.nat m = true := hb
    rw [blt_eq] at hb
    exact .ptr p o pl ((h2 p (by simpa using hb)).trans hp) hk
  | nils => exact fun _ => .nils
  | slice p o len cap esz pl a c hp hk hc hl ha hs => exact fun hb => by cases hb
  | nilm => exact fun _ => .nilm
  | map p pl hp hk => exact fun hb => by cases hb
  | nilf => exact fun _ => .nilf
  | fn f x y x' y' hx hy h1 h2 ih1 ih2 => exact fun hb => by cases hb
  | nili => exact fun _ => .nili
  | iface t v v' hv ih => exact fun hb => .iface t v v' (ih hb)
  | agg l c hl hh ih => exact fun hb => by cases hb
  | tup l c hl hh ih => exact fun hb => by cases hb
  | itr p pl hp hk => exact fun hb => by cases hb
noncomputable def roO (m : Nat) (p : Pos) (ob : Ob) : Bool := match ob with | .cells l kin fz ro => (match kin with | [] => Nat.blt p.nat m && ro && lall (nmB m) l | _ :: _ => false) | _ => false
def optB (v : Option Ob) (f : Ob → Bool) : Bool := match v with | none => true | some o => f o
noncomputable def roT (m : Nat) (t : T Ob) : (Pos → Pos) → Bool := T.rec (motive := fun _ => (Pos → Pos) → Bool) (fun _ => true)
  (fun _ v _ ihl ihr k => optB v (roO m (k .H)) && ihl (fun p => k (.O p)) && ihr (fun p => k (.I p))) t
theorem roT_spec (m : Nat) : ∀ (t : T Ob) (k : Pos → Pos), roT m t k = true → ∀ p o, T.get p t = some o → roO m (k p) o = true := by
  intro t
  induction t with
  | nil => intro k h p o hp; rw [T.get_nil] at hp; cases hp
  | node l v r ihl ihr =>
    intro k h p o hp
    have h : (optB v (roO m (k .H)) && roT m l (fun p => k (.O p)) && roT m r (fun p => k (.I p))) = true := h
    simp only [Bool.and_eq_true] at h
    cases p with
    | H =>
      have hp : v = some o := hp
      rw [hp] at h
      exact h.1.1
    | O p => exact ihl _ h.1.2 p o hp
    | I p => exact ihr _ h.2 p o hp
noncomputable def veqU (x y : V) : Bool := match x with | .u => (match y with | .u => true | _ => false) | x => veq x y
theorem veqU_eq (x y : V) (h : veqU x y = true) : x = y := by
  unfold veqU at h
  split at h
  · cases y <;> first | rfl | cases h
  · exact veq_eq h
noncomputable def obeq (a b : Ob) : Bool := match a with
  | .cells l kin fz ro => (match b with | .cells l' kin' fz' ro' => (match kin with | [] => (match kin' with | [] => veqL veqU l l' && (fz == fz') && (ro == ro') | _ :: _ => false) | _ :: _ => false) | _ => false)
  | _ => false
theorem obeq_eq {a b : Ob} (h : obeq a b = true) : a = b := by
  cases a <;> try (cases h; done)
  cases b <;> try (cases h; done)
  rename_i l kin fz ro l' kin' fz' ro'
  cases kin <;> try (cases h; done)
  cases kin' <;> try (cases h; done)
  have h : (veqL veqU l l' && (fz == fz') && (ro == ro')) = true := h
  simp only [Bool.and_eq_true, beq_iff_eq] at h
  rw [veqL_eq veqU_eq h.1.1, h.1.2, h.2]
noncomputable def obeqO (v v' : Option Ob) : Bool := match v with | none => (match v' with | none => true | some _ => false) | some x => (match v' with | none => false | some y => obeq x y)
noncomputable def teq (a : T Ob) : T Ob → Bool := T.rec (motive := fun _ => T Ob → Bool) (fun b => match b with | .nil => true | .node _ _ _ => false)
  (fun _ v _ ihl ihr b => match b with | .nil => false | .node l v' r => obeqO v v' && ihl l && ihr r) a
theorem teq_eq : ∀ {a b : T Ob}, teq a b = true → a = b := by
  intro a
  induction a with
  | nil => intro b h; cases b with | nil => rfl | node l v r => cases h
  | node l v r ihl ihr =>
    intro b h
    cases b with
    | nil => cases h
    | node l' v' r' =>
      have h : (obeqO v v' && teq l l' && teq r r') = true := h
      simp only [Bool.and_eq_true] at h
      rw [ihl h.1.2, ihr h.2]
      have hv := h.1.1
      congr 1
      cases v <;> cases v' <;> simp only [obeqO, Bool.false_eq_true] at hv
      · rfl
      · rw [obeq_eq hv]
/-- a function of no arguments, run once in the beginning's memory -/
noncomputable def onceSpec (s0 : St) (out : V) (vs : List V) (σ : St) : Option (V × St) := match vs with | [] => (match teq s0.h σ.h with | true => some (out, σ) | false => none) | _ => none
theorem once_sound {ng : GS} {call : Pos → List V → St → Option (V × St)} (hc : CallOK P ng call) {f : Pos} {s0 : St} (hng : ∀ g ∈ ng, g + 1 < s0.nx.nat) (hro : roT s0.nx.nat s0.h id = true) {out : V} (hb : Bare out) (hrun : ∃ σ2, call f [] s0 = some (out, σ2))
    {vs : List V} {σ : St} {v : V} {σ' : St} (h : onceSpec s0 out vs σ = some (v, σ')) {ι : Nm} {w : World} {args : Array Value} (hG : Gl ng ι) (R : Rep ι σ w) (hv : VRs ι vs args.toList) : Calls P (f.nat - 1) args w (Post ι σ w v σ') := by
  unfold onceSpec at h
  split at h
  · split at h
    · rename_i ht
      cases h
      obtain ⟨σ2, hrun⟩ := hrun
      have he := teq_eq ht
      have hall : ∀ p o, T.get p s0.h = some o → ∃ l fz, o = .cells l [] fz true ∧ p.nat < s0.nx.nat ∧ ∀ x ∈ l, nmB s0.nx.nat x = true := fun p o hp => by
        have h1 := roT_spec _ _ id hro p o hp
        unfold roO at h1
        split at h1
        · rename_i l kin fz ro
          cases kin with
          | cons _ _ => cases h1
          | nil =>
            simp only [Bool.and_eq_true, blt_eq, decide_eq_true_eq] at h1
            rw [lall_eq] at h1
            refine ⟨l, fz, by rw [h1.1.2], h1.1.1, fun x hx => ?_⟩
            exact List.all_eq_true.1 h1.2 x hx
        · cases h1
      refine call_forget hc (s2 := s0) (σ2 := σ2) hng ?_ hrun hb hG R ?_ (by
        have : args.toList = [] := List.eq_nil_of_length_eq_zero (by rw [← hv.1]; rfl)
        rw [this]; exact .nil)
      · intro p o hp
        obtain ⟨l, fz, rfl, h1, h2⟩ := hall p o hp
        exact ⟨by simp [Ob.wr], rfl, h1⟩
      · intro p o hp
        obtain ⟨l, fz, rfl, h1, h2⟩ := hall p o hp
        refine ⟨by rw [← he]; exact hp, ?_⟩
        obtain ⟨pl, c, e, k1, k2, k3, k4, k5, k6⟩ := R.ob p _ (by rw [← he]; exact hp)
        refine ⟨pl, c, e, by show (if p.nat < s0.nx.nat then ι p else none) = _; rw [if_pos h1]; exact k1, k2, k3, k4, k5, fun i x y hx hy => ?_⟩
        exact nmB_vr (fun z hz => by show (if z.nat < s0.nx.nat then ι z else none) = _; rw [if_pos hz]) (k6 i x y hx hy) (h2 x (List.mem_of_getElem? hx))
    · cases h
  · cases h

/-- a whole number turned into one of a range -/
noncomputable def numSpec (vs : List V) (σ : St) : Option (V × St) := match vs with
  | [.int .i64 n, .int .i64 b] => (match ilt (.ofNat 0) b with | true => (match ilt b (.ofNat 1000001) with | true => some (.int .i64 (Int.emod n b), σ) | false => none) | false => none)
  | _ => none
theorem num_sound {f : Pos} (hnum : ∀ (n b : Int), 1 ≤ b → b ≤ 1000000 → -9223372036854775808 ≤ n → n ≤ 9223372036854775807 → ∀ w, Calls P (f.nat - 1) #[.int .i64 n, .int .i64 b] w fun e w' => e = .returned (.int .i64 (n % b)) ∧ w = w')
    {vs : List V} {σ : St} {v : V} {σ' : St} (h : numSpec vs σ = some (v, σ')) {ι : Nm} {w : World} {args : Array Value} (R : Rep ι σ w) (hv : VRs ι vs args.toList) : Calls P (f.nat - 1) args w (Post ι σ w v σ') := by
  unfold numSpec at h
  split at h
  · rename_i n b
    split at h
    · rename_i h1
      split at h
      · rename_i h2
        cases h
        rw [ilt_eq] at h1 h2
        have h1 : (0 : Int) < b := by simpa using h1
        have h2 : b < (1000001 : Int) := by simpa using h2
        obtain ⟨l⟩ := args
        have hl : 2 = l.length := hv.1
        match l, hl, hv with
        | [x, y], _, hv =>
          have e1 := hv.2 0 _ x rfl rfl
          have e2 := hv.2 1 _ y rfl rfl
          cases e1 with
          | int _ _ hn =>
            cases e2 with
            | int _ _ hb =>
              refine (hnum n b (by omega) (by omega) hn.1 hn.2 w).mono ?_
              rintro e w' ⟨rfl, rfl⟩
              have hlo := Int.emod_nonneg n (show b ≠ 0 by omega)
              have hhi := Int.emod_lt_of_pos n (show 0 < b by omega)
              refine ⟨ι, _, rfl, .int _ _ ⟨?_, ?_⟩, R, .refl _ _ _ _⟩
              · show (-9223372036854775808 : Int) ≤ n % b; omega
              · show n % b ≤ (9223372036854775807 : Int); omega
      · cases h
    · cases h
  · cases h

/-! a run's steps -/
theorem ex_seq {M : Mach} {call : Pos → List V → St → Option (V × St)} {f : Nat} {a b : IR} {A A1 : T V} {σ σ1 : St} (h : exec M call f a A σ = some (.nrm, A1, σ1)) : exec M call f (.seq a b) A σ = exec M call f b A1 σ1 := by
  show (match exec M call f a A σ with | none => none | some (x, A', σ') => (match x with | .nrm => exec M call f b A' σ' | x => some (x, A', σ'))) = _
  rw [h]
/-- a function's end -/
noncomputable def finR (res : List RV) (r : Option (XE × T V × St)) : Option (V × St) := match r with
  | none => none
  | some (x, A', σ') => (match x with | .ext _ => none | .nrm => (match resF res A' σ' with | some l => some (one l, σ') | none => none) | .ret => (match resF res A' σ' with | some l => some (one l, σ') | none => none))
theorem run_fin {M : Mach} {k : Nat} {f : Pos} {n : Nat} {b : IR} {res : List RV} (h : T.get f M.tab = some (.code n b res)) {vs : List V} (hle : Nat.ble (llen vs) n = true) (σ : St) :
    runFn M (k + 1) f vs σ = finR res (exec M (runFn M k) k b (frameOf vs .H .nil) σ) := by
  show runFn1 M (runFn M k) k f vs σ = _
  unfold runFn1
  rw [h]
  simp only [hle]
  unfold finR
  cases exec M (runFn M k) k b (frameOf vs .H .nil) σ with
  | none => rfl
  | some r => obtain ⟨x, A', σ'⟩ := r; cases x <;> rfl

/-- a table without named contracts -/
def codeO (v : Option FnE) : Bool := match v with | none => true | some e => (match e with | .code _ _ _ => true | .spec _ => false)
noncomputable def noSpec (t : T FnE) : Bool := T.rec (motive := fun _ => Bool) true (fun _ v _ ihl ihr => codeO v && ihl && ihr) t
theorem noSpec_get : ∀ {t : T FnE}, noSpec t = true → ∀ p s, T.get p t ≠ some (.spec s) := by
  intro t
  induction t with
  | nil => intro _ p s h; rw [T.get_nil] at h; cases h
  | node l v r ihl ihr =>
    intro h p s hp
    have h : (codeO v && noSpec l && noSpec r) = true := h
    simp only [Bool.and_eq_true] at h
    cases p with
    | H =>
      have hp : v = some (.spec s) := hp
      rw [hp] at h
      exact absurd h.1.1 (by simp [codeO])
    | O p => exact ihl h.1.2 p s hp
    | I p => exact ihr h.2 p s hp
/-- a law's run, out of a beginning where nothing may be written -/
theorem law_calls {E : Env P} {M : Mach} {okD : Nat → Nat → List RO → Array Oper → Bool} (K : MOk P E M okD) {k : Nat} {f : Pos} {vs : List V} {s0 σ' : St} {v : V} (hro : roT s0.nx.nat s0.h id = true) (hrun : runFn M k f vs s0 = some (v, σ'))
    {ι : Nm} {w : World} {args : Array Value} (hG : Gl E.ng ι) (R : Rep ι s0 w) (hv : VRs ι vs args.toList) : Calls P (f.nat - 1) args w fun e w' => ∃ v', e = .returned v' ∧ (∃ ι', VR ι' v v') ∧ Below w.heap.size w w' := by
  refine ((run_sound K k f vs s0 v σ' hrun).2 ι w args hG R hv).mono ?_
  rintro e w' ⟨ι', v', rfl, h1, h2, h3⟩
  refine ⟨v', rfl, ⟨ι', h1⟩, ⟨h3.os, h3.tape, h3.out, h3.size, fun r hr => h3.keep r hr ?_⟩⟩
  rintro ⟨p, o, pl, i1, i2, i3, i4⟩
  have h1 := roT_spec _ _ id hro p o i1
  unfold roO at h1
  split at h1
  · rename_i l kin fz ro
    cases kin with
    | cons _ _ => cases h1
    | nil =>
      simp only [Bool.and_eq_true] at h1
      rw [h1.1.2] at i2
      simp [Ob.wr] at i2
  · cases h1
end
end Go.Proofs.YtcecdaeceipbnaaGreatDoor

/-
  Runs with numbers that are not known: what a drawn region looks at again is set down in pairs, to be shown alike. (Of no program.)
-/
namespace Go.Proofs.YtcecdaeceipbnaaGreatDoor
set_option linter.unusedVariables false
set_option linter.unusedSimpArgs false
set_option linter.unusedSectionVars false
open Go

abbrev PS := List (Int × Int)
def Good (cs : PS) : Prop := ∀ p ∈ cs, p.1 = p.2
theorem good_app {a b : PS} (h : Good (lapp a b)) : Good a ∧ Good b := by
  rw [lapp_eq] at h
  exact ⟨fun p hp => h p (by simp [hp]), fun p hp => h p (by simp [hp])⟩
noncomputable def veqP (x y : V) : Option PS := match x with
  | .int k a => (match y with | .int k' b => (match beqK k k' with | true => some [(a, b)] | false => none) | _ => none)
  | x => (match veq x y with | true => some [] | false => none)
noncomputable def veqPL (l : List V) : List V → Option PS := List.rec (motive := fun _ => List V → Option PS) (fun m => match m with | [] => some [] | _ :: _ => none)
  (fun x _ ih m => match m with | [] => none | y :: m => (match x with
    | .int k a => (match y with | .int k' b => (match beqK k k' with | true => (match ih m with | some r => some ((a, b) :: r) | none => none) | false => none) | _ => none)
    | _ => none)) l
noncomputable def veqA (x y : V) : Option PS := match x with
  | .agg l => (match y with | .agg m => veqPL l m | _ => none)
  | x => veqP x y
theorem ieq_refl (a : Int) : ieq a a = true := by rw [ieq_eq]; simp
theorem beqK_refl {k k' : IntKind} (h : beqK k k' = true) : k = k' := beqK_eq h
theorem veqP_ok {x y : V} {cs : PS} (h : veqP x y = some cs) (g : Good cs) : veq x y = true := by
  cases x with
  | int k a =>
    cases y <;> try (cases h; done)
    rename_i k' b
    have h : (match beqK k k' with | true => some [(a, b)] | false => none) = some cs := h
    split at h
    · rename_i hk
      cases h
      have : a = b := g (a, b) (by simp)
      subst this
      show (match beqK k k' with | true => ieq a a | false => false) = true
      rw [hk]
      exact ieq_refl a
    · cases h
  | _ =>
    unfold veqP at h
    simp only at h
    split at h
    · assumption
    · cases h
theorem veqPL_ok {f : V → V → Bool} (hf : ∀ k k' a, beqK k k' = true → f (.int k a) (.int k' a) = true) : ∀ {l m : List V} {cs : PS}, veqPL l m = some cs → Good cs → veqL f l m = true
  | [], [], cs, h, g => rfl
  | [], _ :: _, cs, h, g => by cases h
  | x :: l, [], cs, h, g => by cases h
  | x :: l, y :: m, cs, h, g => by
    cases x with
    | int k a =>
      cases y with
      | int k' b =>
        have h : (match beqK k k' with | true => (match veqPL l m with | some r => some ((a, b) :: r) | none => none) | false => none) = some cs := h
        cases hk : beqK k k' with
        | false => rw [hk] at h; cases h
        | true =>
          rw [hk] at h
          cases hr : veqPL l m with
          | none => rw [hr] at h; cases h
          | some r =>
            rw [hr] at h
            cases h
            have e : a = b := g (a, b) (by simp)
            subst e
            have ih := veqPL_ok hf hr (fun p hp => g p (by simp [hp]))
            show (match f (.int k a) (.int k' a) with | true => veqL f l m | false => false) = true
            rw [hf k k' a hk]
            exact ih
      | _ => cases h
    | _ => cases h
theorem veqA_ok {x y : V} {cs : PS} (h : veqA x y = some cs) (g : Good cs) : veq x y = true := by
  cases x with
  | agg l =>
    cases y <;> try (cases h; done)
    rename_i m
    have h : veqPL l m = some cs := h
    show veqL (veqS (veqS veq0)) l m = true
    refine veqPL_ok (fun k k' a hk => ?_) h g
    show (match beqK k k' with | true => ieq a a | false => false) = true
    rw [hk]
    exact ieq_refl a
  | _ => exact veqP_ok h g
noncomputable def rechkP (pt : List Nat) (A : T V) (σ : St) (l : List (Pos × QOp × Option (Pos × Bool))) : Option PS := List.rec (motive := fun _ => Option PS) (some [])
  (fun r _ ih => match wantG A r.2.2 with
    | none => none
    | some false => ih
    | some true => (match qevF pt r.2.1 A σ with | some v => (match veqA v (ev A (.s r.1)) with | some cs => (match ih with | some ds => some (lapp cs ds) | none => none) | none => none) | none => none)) l
theorem rechkP_ok {pt : List Nat} {A : T V} {σ : St} : ∀ {l : List (Pos × QOp × Option (Pos × Bool))} {cs : PS}, rechkP pt A σ l = some cs → Good cs → rechk pt A σ l = true
  | [], cs, h, g => rfl
  | r :: l, cs, h, g => by
    have h : (match wantG A r.2.2 with
      | none => none
      | some false => rechkP pt A σ l
      | some true => (match qevF pt r.2.1 A σ with | some v => (match veqA v (ev A (.s r.1)) with | some cs => (match rechkP pt A σ l with | some ds => some (lapp cs ds) | none => none) | none => none) | none => none)) = some cs := h
    show (match wantG A r.2.2 with
      | none => false
      | some false => rechk pt A σ l
      | some true => (match qevF pt r.2.1 A σ with | some v => (match veq v (ev A (.s r.1)) with | true => rechk pt A σ l | false => false) | none => false)) = true
    cases hw : wantG A r.2.2 with
    | none => rw [hw] at h; cases h
    | some b =>
      rw [hw] at h
      cases b with
      | false => exact rechkP_ok h g
      | true =>
        simp only at h ⊢
        cases hv : qevF pt r.2.1 A σ with
        | none => rw [hv] at h; cases h
        | some v =>
          rw [hv] at h
          simp only at h ⊢
          cases h1 : veqA v (ev A (.s r.1)) with
          | none => rw [h1] at h; cases h
          | some cs1 =>
            rw [h1] at h
            simp only at h
            cases h2 : rechkP pt A σ l with
            | none => rw [h2] at h; cases h
            | some ds =>
              rw [h2] at h
              cases h
              obtain ⟨g1, g2⟩ := good_app g
              rw [veqA_ok h1 g1]
              exact rechkP_ok h2 g2
abbrev CP := Pos → List V → St → Option (V × St × PS)
noncomputable def xfinP (M : Mach) (ro : RO) (A : T V) (r : Option (V × St × PS)) : Option (T V × St × PS) := match r with
  | none => none
  | some (v, σ, cs) => (match rechkP M.pt (putD A ro.dst v) σ ro.re with | some ds => some (putD A ro.dst v, σ, lapp cs ds) | none => none)
noncomputable def noP (r : Option (V × St)) : Option (V × St × PS) := match r with | none => none | some (v, σ) => some (v, σ, [])
noncomputable def xCallvP (call : CP) (g : Arg) (l : List Arg) (A : T V) (σ : St) : Option (V × St × PS) := match ev A g with | .fn f x y => call (natPos f) (lapp x (lapp (lmap (ev A) l) y)) σ | _ => none
noncomputable def xInvP (M : Mach) (call : CP) (r : Arg) (name : String) (l : List Arg) (A : T V) (σ : St) : Option (V × St × PS) := match ev A r with | .iface t v => (match mtFind M.mt t name with | some f => call f (v :: lmap (ev A) l) σ | none => none) | _ => none
noncomputable def xopP (M : Mach) (call : CP) (nms : List Pos) (x : XOp) (A : T V) (σ : St) : Option (V × St × PS) := match x with
  | .q o => noP (xQ M o A σ)
  | .e o => noP (eevF o none A σ)
  | .l o j => noP (xL nms o j A σ)
  | .call f l => call f (lmap (ev A) l) σ
  | .callv g l => xCallvP call g l A σ
  | .inv r name l => xInvP M call r name l A σ
  | .bad => none
noncomputable def xstepP (M : Mach) (call : CP) (nms : List Pos) (ro : RO) (A : T V) (σ : St) : Option (T V × St × PS) := match wantG A ro.gd with
  | none => none
  | some false => some (putD A ro.dst (.tup []), σ, [])
  | some true => xfinP M ro A (xopP M call nms ro.op A σ)
noncomputable def runP (M : Mach) (call : CP) (nms : List Pos) (l : List RO) : T V → St → Option (T V × St × PS) := List.rec (motive := fun _ => T V → St → Option (T V × St × PS)) (fun A σ => some (A, σ, []))
  (fun ro _ ih A σ => match xstepP M call nms ro A σ with | none => none | some (A', σ', cs) => (match ih A' σ' with | none => none | some (A2, σ2, ds) => some (A2, σ2, lapp cs ds))) l
abbrev BP := T V → St → Option (XE × T V × St × PS)
noncomputable def loopP (b : BP) (n : Nat) : BP := Nat.rec (motive := fun _ => BP) (fun _ _ => none)
  (fun _ ih A σ => match b A σ with | none => none | some (x, A', σ', cs) => (match x with | .nrm => (match ih A' σ' with | none => none | some (y, A2, σ2, ds) => some (y, A2, σ2, lapp cs ds)) | x => some (x, A', σ', cs))) n
noncomputable def eRegP (M : Mach) (call : CP) (l : List RO) : BP := fun A σ => match runP M call [] l A σ with | none => none | some (A', σ', cs) => some (.nrm, A', σ', cs)
noncomputable def eRgdP (M : Mach) (call : CP) (k : Nat) (l : List RO) : BP := fun A σ => match namesOf k σ.nx with | (nms, nx) => (match runP M call nms l A ⟨σ.h, nx⟩ with | none => none | some (A', σ', cs) => some (.nrm, A', σ', cs))
noncomputable def eSeqP (fa fb : BP) : BP := fun A σ => match fa A σ with | none => none | some (x, A', σ', cs) => (match x with | .nrm => (match fb A' σ' with | none => none | some (y, A2, σ2, ds) => some (y, A2, σ2, lapp cs ds)) | x => some (x, A', σ', cs))
noncomputable def eCndP (c : Arg) (fa fb : BP) : BP := fun A σ => match ev A c with | .bool t => (match t with | true => fa A σ | false => fb A σ) | _ => none
noncomputable def eBlkP (i : Nat) (f : BP) : BP := fun A σ => match f A σ with | none => none | some (x, A', σ', cs) => (match x with | .ext j => (match Nat.beq j i with | true => some (.nrm, A', σ', cs) | false => some (.ext j, A', σ', cs)) | x => some (x, A', σ', cs))
noncomputable def execP (M : Mach) (call : CP) (n : Nat) (c : IR) : BP := IR.rec (motive := fun _ => BP)
  (fun A σ => some (.nrm, A, σ, []))
  (fun l => eRegP M call l)
  (fun k l => eRgdP M call k l)
  (fun _ _ iha ihb => eSeqP iha ihb)
  (fun c _ _ iha ihb => eCndP c iha ihb)
  (fun i _ ih => eBlkP i ih)
  (fun _ ih => loopP ih n)
  (fun i A σ => some (.ext i, A, σ, []))
  (fun A σ => some (.ret, A, σ, []))
  (fun _ _ => none) c
noncomputable def runFn1P (M : Mach) (call : CP) (n : Nat) (f : Pos) (vs : List V) (σ : St) : Option (V × St × PS) := match T.get f M.tab with
  | none => none
  | some (.spec s) => noP (M.spec s vs σ)
  | some (.code nt b res) => (match Nat.ble (llen vs) nt with
    | false => none
    | true => (match execP M call n b (frameOf vs .H .nil) σ with
      | none => none
      | some (x, A, σ', cs) => (match x with
        | .ext _ => none
        | _ => (match resF res A σ' with | some l => some (one l, σ', cs) | none => none))))
noncomputable def runFnP (M : Mach) (n : Nat) : CP := Nat.rec (motive := fun _ => CP) (fun _ _ _ => none) (fun n ih => runFn1P M ih n) n

def CallP (cp : CP) (call : Pos → List V → St → Option (V × St)) : Prop := ∀ f vs σ v σ' cs, cp f vs σ = some (v, σ', cs) → Good cs → call f vs σ = some (v, σ')
theorem noP_eq {r : Option (V × St)} {v : V} {σ : St} {cs : PS} (h : noP r = some (v, σ, cs)) : r = some (v, σ) := by
  unfold noP at h
  split at h
  · cases h
  · cases h; rfl
theorem xopP_ok {M : Mach} {cp : CP} {call : Pos → List V → St → Option (V × St)} (hc : CallP cp call) {nms : List Pos} {x : XOp} {A : T V} {σ σ' : St} {v : V} {cs : PS} (h : xopP M cp nms x A σ = some (v, σ', cs)) (g : Good cs) : xop M call nms x A σ = some (v, σ') := by
  cases x with
  | q o => exact noP_eq h
  | e o => exact noP_eq h
  | l o j => exact noP_eq h
  | call f l => exact hc _ _ _ _ _ _ h g
  | callv f l =>
    have h : (match ev A f with | .fn f x y => cp (natPos f) (lapp x (lapp (lmap (ev A) l) y)) σ | _ => none) = some (v, σ', cs) := h
    show (match ev A f with | .fn f x y => call (natPos f) (lapp x (lapp (lmap (ev A) l) y)) σ | _ => none) = some (v, σ')
    split at h
    · rename_i f2 x y hf
      exact hc _ _ _ _ _ _ h g
    · cases h
  | inv r name l =>
    have h : (match ev A r with | .iface t v => (match mtFind M.mt t name with | some f => cp f (v :: lmap (ev A) l) σ | none => none) | _ => none) = some (v, σ', cs) := h
    show (match ev A r with | .iface t v => (match mtFind M.mt t name with | some f => call f (v :: lmap (ev A) l) σ | none => none) | _ => none) = some (v, σ')
    split at h
    · rename_i t v2 hf
      split at h
      · rename_i f hm
        first | exact hc _ _ _ _ _ _ h g | rw [hm]
        try exact hc _ _ _ _ _ _ h g
      · cases h
    · cases h
  | bad => cases h
theorem xstepP_ok {M : Mach} {cp : CP} {call : Pos → List V → St → Option (V × St)} (hc : CallP cp call) {nms : List Pos} {ro : RO} {A A' : T V} {σ σ' : St} {cs : PS} (h : xstepP M cp nms ro A σ = some (A', σ', cs)) (g : Good cs) : xstep M call nms ro A σ = some (A', σ') := by
  unfold xstepP at h
  unfold xstep
  split at h
  · cases h
  · rename_i hw; rw [hw]; cases h; rfl
  · rename_i hw
    rw [hw]
    simp only
    unfold xfinP at h
    split at h
    · cases h
    · rename_i v σ1 cs1 hx
      split at h
      · rename_i ds hr
        cases h
        obtain ⟨g1, g2⟩ := good_app g
        rw [xopP_ok hc hx g1]
        unfold xfin
        simp only
        rw [rechkP_ok hr g2]
      · cases h
theorem runP_ok {M : Mach} {cp : CP} {call : Pos → List V → St → Option (V × St)} (hc : CallP cp call) {nms : List Pos} : ∀ {l : List RO} {A A' : T V} {σ σ' : St} {cs : PS}, runP M cp nms l A σ = some (A', σ', cs) → Good cs → runR M call nms l A σ = some (A', σ')
  | [], A, A', σ, σ', cs, h, g => by
    have h : some (A, σ, []) = some (A', σ', cs) := h
    cases h; rfl
  | ro :: l, A, A', σ, σ', cs, h, g => by
    have h : (match xstepP M cp nms ro A σ with | none => none | some (A', σ', cs) => (match runP M cp nms l A' σ' with | none => none | some (A2, σ2, ds) => some (A2, σ2, lapp cs ds))) = some (A', σ', cs) := h
    show (match xstep M call nms ro A σ with | none => none | some (A', σ') => runR M call nms l A' σ') = some (A', σ')
    split at h
    · cases h
    · rename_i A1 σ1 cs1 h1
      split at h
      · cases h
      · rename_i A2 σ2 ds h2
        cases h
        obtain ⟨g1, g2⟩ := good_app g
        rw [xstepP_ok hc h1 g1]
        exact runP_ok hc h2 g2
def BodyP (bp : BP) (b : T V → St → Option (XE × T V × St)) : Prop := ∀ A σ e A' σ' cs, bp A σ = some (e, A', σ', cs) → Good cs → b A σ = some (e, A', σ')
theorem loopP_ok {bp : BP} {b : T V → St → Option (XE × T V × St)} (hb : BodyP bp b) : ∀ n, BodyP (loopP bp n) (loopF b n)
  | 0 => fun A σ e A' σ' cs h g => by cases h
  | n + 1 => fun A σ e A' σ' cs h g => by
    have h : (match bp A σ with | none => none | some (x, A', σ', cs) => (match x with | .nrm => (match loopP bp n A' σ' with | none => none | some (y, A2, σ2, ds) => some (y, A2, σ2, lapp cs ds)) | x => some (x, A', σ', cs))) = some (e, A', σ', cs) := h
    show (match b A σ with | none => none | some (x, A', σ') => (match x with | .nrm => loopF b n A' σ' | x => some (x, A', σ'))) = some (e, A', σ')
    split at h
    · cases h
    · rename_i x A1 σ1 cs1 h1
      cases x with
      | nrm =>
        simp only at h
        split at h
        · cases h
        · rename_i y A2 σ2 ds h2
          cases h
          obtain ⟨g1, g2⟩ := good_app g
          rw [hb _ _ _ _ _ _ h1 g1]
          exact loopP_ok hb n _ _ _ _ _ _ h2 g2
      | ext i => cases h; rw [hb _ _ _ _ _ _ h1 g]
      | ret => cases h; rw [hb _ _ _ _ _ _ h1 g]
theorem execP_ok {M : Mach} {cp : CP} {call : Pos → List V → St → Option (V × St)} (hc : CallP cp call) (n : Nat) : ∀ c : IR, BodyP (execP M cp n c) (exec M call n c) := by
  intro c
  induction c with
  | skip =>
    intro A σ e A' σ' cs h g
    have h : some (XE.nrm, A, σ, []) = some (e, A', σ', cs) := h
    cases h; rfl
  | reg l =>
    intro A σ e A' σ' cs h g
    have h : (match runP M cp [] l A σ with | none => none | some (A', σ', cs) => some (XE.nrm, A', σ', cs)) = some (e, A', σ', cs) := h
    show (match runR M call [] l A σ with | none => none | some (A', σ') => some (XE.nrm, A', σ')) = some (e, A', σ')
    split at h
    · cases h
    · rename_i A1 σ1 cs1 h1
      cases h
      rw [runP_ok hc h1 g]
  | rgd k l =>
    intro A σ e A' σ' cs h g
    have h : (match runP M cp (namesOf k σ.nx).1 l A ⟨σ.h, (namesOf k σ.nx).2⟩ with | none => none | some (A', σ', cs) => some (XE.nrm, A', σ', cs)) = some (e, A', σ', cs) := h
    show (match runR M call (namesOf k σ.nx).1 l A ⟨σ.h, (namesOf k σ.nx).2⟩ with | none => none | some (A', σ') => some (XE.nrm, A', σ')) = some (e, A', σ')
    split at h
    · cases h
    · rename_i A1 σ1 cs1 h1
      cases h
      rw [runP_ok hc h1 g]
  | seq a b iha ihb =>
    intro A σ e A' σ' cs h g
    have h : (match execP M cp n a A σ with | none => none | some (x, A', σ', cs) => (match x with | .nrm => (match execP M cp n b A' σ' with | none => none | some (y, A2, σ2, ds) => some (y, A2, σ2, lapp cs ds)) | x => some (x, A', σ', cs))) = some (e, A', σ', cs) := h
    show (match exec M call n a A σ with | none => none | some (x, A', σ') => (match x with | .nrm => exec M call n b A' σ' | x => some (x, A', σ'))) = some (e, A', σ')
    split at h
    · cases h
    · rename_i x A1 σ1 cs1 h1
      cases x with
      | nrm =>
        simp only at h
        split at h
        · cases h
        · rename_i y A2 σ2 ds h2
          cases h
          obtain ⟨g1, g2⟩ := good_app g
          rw [iha _ _ _ _ _ _ h1 g1]
          exact ihb _ _ _ _ _ _ h2 g2
      | ext i => cases h; rw [iha _ _ _ _ _ _ h1 g]
      | ret => cases h; rw [iha _ _ _ _ _ _ h1 g]
  | cnd c a b iha ihb =>
    intro A σ e A' σ' cs h g
    have h : (match ev A c with | .bool t => (match t with | true => execP M cp n a A σ | false => execP M cp n b A σ) | _ => none) = some (e, A', σ', cs) := h
    show (match ev A c with | .bool t => (match t with | true => exec M call n a A σ | false => exec M call n b A σ) | _ => none) = some (e, A', σ')
    split at h
    · rename_i t ht
      cases t with
      | true => exact iha _ _ _ _ _ _ h g
      | false => exact ihb _ _ _ _ _ _ h g
    · cases h
  | blk i b ih =>
    intro A σ e A' σ' cs h g
    have h : (match execP M cp n b A σ with | none => none | some (x, A', σ', cs) => (match x with | .ext j => (match Nat.beq j i with | true => some (XE.nrm, A', σ', cs) | false => some (.ext j, A', σ', cs)) | x => some (x, A', σ', cs))) = some (e, A', σ', cs) := h
    show (match exec M call n b A σ with | none => none | some (x, A', σ') => (match x with | .ext j => (match Nat.beq j i with | true => some (XE.nrm, A', σ') | false => some (.ext j, A', σ')) | x => some (x, A', σ'))) = some (e, A', σ')
    split at h
    · cases h
    · rename_i x A1 σ1 cs1 h1
      cases x with
      | nrm => cases h; rw [ih _ _ _ _ _ _ h1 g]
      | ret => cases h; rw [ih _ _ _ _ _ _ h1 g]
      | ext j =>
        simp only at h
        split at h
        · rename_i hj; cases h; rw [ih _ _ _ _ _ _ h1 g]; simp only; rw [hj]
        · rename_i hj; cases h; rw [ih _ _ _ _ _ _ h1 g]; simp only; rw [hj]
  | loop b ih => exact loopP_ok ih n
  | exit i =>
    intro A σ e A' σ' cs h g
    have h : some (XE.ext i, A, σ, []) = some (e, A', σ', cs) := h
    cases h; rfl
  | ret =>
    intro A σ e A' σ' cs h g
    have h : some (XE.ret, A, σ, []) = some (e, A', σ', cs) := h
    cases h; rfl
  | bad => intro A σ e A' σ' cs h g; cases h
theorem runFnP_ok (M : Mach) : ∀ n, CallP (runFnP M n) (runFn M n)
  | 0 => fun f vs σ v σ' cs h g => by cases h
  | n + 1 => fun f vs σ v σ' cs h g => by
    have h : runFn1P M (runFnP M n) n f vs σ = some (v, σ', cs) := h
    show runFn1 M (runFn M n) n f vs σ = some (v, σ')
    unfold runFn1P at h
    unfold runFn1
    split at h
    · cases h
    · rename_i s hs
      rw [hs]
      exact noP_eq h
    · rename_i nt b res hb
      rw [hb]
      simp only
      split at h
      · cases h
      · rename_i hle
        rw [hle]
        simp only
        split at h
        · cases h
        · rename_i x A σ1 cs1 h1
          have hcs : cs1 = cs := by
            cases x with
            | ext i => cases h
            | nrm => simp only at h; split at h <;> cases h; rfl
            | ret => simp only at h; split at h <;> cases h; rfl
          subst hcs
          rw [execP_ok (runFnP_ok M n) n b _ _ _ _ _ _ h1 g]
          cases x with
          | ext i => cases h
          | nrm => simp only at h ⊢; split at h <;> cases h; rename_i l hl; rw [hl]
          | ret => simp only at h ⊢; split at h <;> cases h; rename_i l hl; rw [hl]
theorem good_of {cs : PS} (h : lmap (fun p => p.1) cs = lmap (fun p => p.2) cs) : Good cs := by
  rw [lmap_eq, lmap_eq] at h
  intro p hp
  obtain ⟨i, hi⟩ := List.getElem?_of_mem hp
  have h1 : (cs.map (fun p => p.1))[i]? = some p.1 := by rw [List.getElem?_map, hi]; rfl
  have h2 : (cs.map (fun p => p.2))[i]? = some p.2 := by rw [List.getElem?_map, hi]; rfl
  rw [h, h2] at h1
  exact (Option.some.inj h1).symm
end Go.Proofs.YtcecdaeceipbnaaGreatDoor

/-
  Views: a state seen through other names, what is of no use forgotten; what may be said of a piece of the machine's code in a state whose numbers are not known. (Of no program.)
-/
namespace Go.Proofs.YtcecdaeceipbnaaGreatDoor
set_option linter.unusedVariables false
set_option linter.unusedSimpArgs false
set_option linter.unusedSectionVars false
open Go Go.RowKit

/-- a value under new names; what has none is not spoken of -/
noncomputable def ren (ri : Pos → Option Pos) (v : V) : V := V.rec (motive_1 := fun _ => V) (motive_2 := fun _ => List V) .u (fun b => .bool b) (fun k n => .int k n) (fun l => .str l) .nilp
  (fun p o => match ri p with | some q => .ptr q o | none => .u) .nils (fun p o len cap esz => match ri p with | some q => .slice q o len cap esz | none => .u) .nilm (fun p => match ri p with | some q => .map q | none => .u)
  .nilf (fun f _ _ x y => .fn f x y) .nili (fun t _ x => .iface t x) (fun _ x => .agg x) (fun _ x => .tup x) (fun p => match ri p with | some q => .itr q | none => .u) [] (fun _ _ x xs => x :: xs) v
noncomputable def renL (ri : Pos → Option Pos) (l : List V) : List V := List.rec (motive := fun _ => List V) [] (fun v _ ih => ren ri v :: ih) l
theorem renL_eq (ri : Pos → Option Pos) : ∀ l, renL ri l = l.map (ren ri)
  | [] => rfl
  | v :: l => by show ren ri v :: renL ri l = _; rw [renL_eq ri l]; rfl
theorem ren_list (ri : Pos → Option Pos) : ∀ l : List V, (V.rec_1 (motive_1 := fun _ => V) (motive_2 := fun _ => List V) .u (fun b => .bool b) (fun k n => .int k n) (fun l => .str l) .nilp
  (fun p o => match ri p with | some q => .ptr q o | none => .u) .nils (fun p o len cap esz => match ri p with | some q => .slice q o len cap esz | none => .u) .nilm (fun p => match ri p with | some q => .map q | none => .u)
  .nilf (fun f _ _ x y => .fn f x y) .nili (fun t _ x => .iface t x) (fun _ x => .agg x) (fun _ x => .tup x) (fun p => match ri p with | some q => .itr q | none => .u) [] (fun _ _ x xs => x :: xs) l : List V) = l.map (ren ri)
  | [] => rfl
  | v :: l => by
    show ren ri v :: _ = _
    rw [ren_list ri l]
    rfl
theorem ren_agg (ri : Pos → Option Pos) (l : List V) : ren ri (.agg l) = .agg (l.map (ren ri)) := by
  rw [← ren_list]; rfl
theorem ren_tup (ri : Pos → Option Pos) (l : List V) : ren ri (.tup l) = .tup (l.map (ren ri)) := by
  rw [← ren_list]; rfl
theorem ren_fn (ri : Pos → Option Pos) (f : Nat) (x y : List V) : ren ri (.fn f x y) = .fn f (x.map (ren ri)) (y.map (ren ri)) := by
  rw [← ren_list, ← ren_list]; rfl
theorem VR.ren {ri : Pos → Option Pos} {ι ι2 : Nm} (h : ∀ p q, ri p = some q → ι2 q = ι p) {v : V} {y : Value} (hv : VR ι v y) : VR ι2 (ren ri v) y := by
  induction hv with
  | u v => exact .u v
  | bool b => exact .bool b
  | int k n hn => exact .int k n hn
  | str l s hs => exact .str l s hs
  | nilp => exact .nilp
  | ptr p o pl hp hk =>
    show VR ι2 (match ri p with | some q => .ptr q o | none => .u) _
    cases hr : ri p with
    | none => exact .u _
    | some q => exact .ptr q o pl ((h p q hr).trans hp) hk
  | nils => exact .nils
  | slice p o len cap esz pl a c hp hk hc hl ha hs =>
    show VR ι2 (match ri p with | some q => .slice q o len cap esz | none => .u) _
    cases hr : ri p with
    | none => exact .u _
    | some q => exact .slice q o len cap esz pl a c ((h p q hr).trans hp) hk hc hl ha hs
  | nilm => exact .nilm
  | map p pl hp hk =>
    show VR ι2 (match ri p with | some q => .map q | none => .u) _
    cases hr : ri p with
    | none => exact .u _
    | some q => exact .map q pl ((h p q hr).trans hp) hk
  | nilf => exact .nilf
  | fn f x y x' y' hx hy h1 h2 ih1 ih2 =>
    rw [ren_fn]
    refine .fn f _ _ x' y' (by simpa using hx) (by simpa using hy) (fun i a b ha hb => ?_) (fun i a b ha hb => ?_)
    · rw [List.getElem?_map] at ha
      cases hx : x[i]? with
      | none => rw [hx] at ha; cases ha
      | some z => rw [hx] at ha; cases ha; exact ih1 i z b hx hb
    · rw [List.getElem?_map] at ha
      cases hx : y[i]? with
      | none => rw [hx] at ha; cases ha
      | some z => rw [hx] at ha; cases ha; exact ih2 i z b hx hb
  | nili => exact .nili
  | iface t v v' hv ih => exact .iface t _ v' ih
  | agg l c hl hh ih =>
    rw [ren_agg]
    refine .agg _ c (by simpa using hl) (fun i a b ha hb => ?_)
    rw [List.getElem?_map] at ha
    cases hx : l[i]? with
    | none => rw [hx] at ha; cases ha
    | some z => rw [hx] at ha; cases ha; exact ih i z b hx hb
  | itr p pl hp hk =>
    show VR ι2 (match ri p with | some q => .itr q | none => .u) _
    cases hr : ri p with
    | none => exact .u _
    | some q => exact .itr q pl ((h p q hr).trans hp) hk
  | tup l c hl hh ih =>
    rw [ren_tup]
    refine .tup _ c (by simpa using hl) (fun i a b ha hb => ?_)
    rw [List.getElem?_map] at ha
    cases hx : l[i]? with
    | none => rw [hx] at ha; cases ha
    | some z => rw [hx] at ha; cases ha; exact ih i z b hx hb

/-! a view: new names and the old ones that they stand for -/
abbrev Vw := List (Pos × Pos)
noncomputable def bwd (l : Vw) (p : Pos) : Option Pos := List.rec (motive := fun _ => Option Pos) none (fun x _ ih => match x.2.beq p with | true => some x.1 | false => ih) l
noncomputable def fwd (l : Vw) (q : Pos) : Option Pos := List.rec (motive := fun _ => Option Pos) none (fun x _ ih => match x.1.beq q with | true => some x.2 | false => ih) l
theorem bwd_mem {p q : Pos} : ∀ {l : Vw}, bwd l p = some q → (q, p) ∈ l
  | [], h => by cases h
  | x :: l, h => by
    have h : (match x.2.beq p with | true => some x.1 | false => bwd l p) = some q := h
    split at h
    · rename_i hx
      rw [Pos.beq_eq] at hx
      have hx : x.2 = p := by simpa using hx
      cases h
      subst hx
      simp
    · exact List.mem_cons_of_mem _ (bwd_mem h)
theorem fwd_mem {p q : Pos} : ∀ {l : Vw}, fwd l q = some p → (q, p) ∈ l
  | [], h => by cases h
  | x :: l, h => by
    have h : (match x.1.beq q with | true => some x.2 | false => fwd l q) = some p := h
    split at h
    · rename_i hx
      rw [Pos.beq_eq] at hx
      have hx : x.1 = q := by simpa using hx
      cases h
      subst hx
      simp
    · exact List.mem_cons_of_mem _ (fwd_mem h)
noncomputable def isP (x : Option Pos) (p : Pos) : Bool := match x with | some q => q.beq p | none => false
theorem isP_eq {x : Option Pos} {p : Pos} (h : isP x p = true) : x = some p := by
  cases x with
  | none => cases h
  | some q =>
    have h : q.beq p = true := h
    rw [Pos.beq_eq] at h
    have : q = p := by simpa using h
    rw [this]
/-- the view's own check: names between N and nx, no two alike -/
noncomputable def vwOk (N : Nat) (nx : Pos) (l : Vw) : Bool := lall (fun x => isP (fwd l x.1) x.2 && isP (bwd l x.2) x.1 && Nat.ble N x.1.nat && Nat.blt x.1.nat nx.nat) l
noncomputable def meR (ri : Pos → Option Pos) (e : ME) : ME := ⟨ren ri e.k, ren ri e.v, e.b⟩
noncomputable def renO (ri : Pos → Option Pos) (o : Ob) : Ob := match o with
  | .cells l _ fz ro => .cells (renL ri l) [] fz ro
  | .map es ck ks => .map (lmap (meR ri) es) ck ks
  | .mit _ _ _ _ => .dead
  | .sit l n => .sit l n
  | .dead => .dead
/-- what of the blocks is asked: kin are left behind; a map's keys name nothing -/
noncomputable def bareB (v : V) : Bool := V.rec (motive_1 := fun _ => Bool) (motive_2 := fun _ => Bool) true (fun _ => true) (fun _ _ => true) (fun _ => true) true (fun _ _ => false) true (fun _ _ _ _ _ => false) true (fun _ => false) true (fun _ _ _ _ _ => false) true (fun _ _ ih => ih) (fun _ ih => ih) (fun _ ih => ih) (fun _ => false) true (fun _ _ a b => match a with | true => b | false => false) v
noncomputable def obVw (l : Vw) (o : Ob) : Bool := match o with
  | .cells _ kin _ _ => lall (fun p => match bwd l p with | none => true | some _ => false) kin
  | .map es _ _ => false
  | .mit _ _ _ _ => false
  | .sit _ _ => true
  | .dead => true
noncomputable def hView (l0 : Vw) (h : T Ob) (l : Vw) : T Ob := List.rec (motive := fun _ => T Ob) .nil (fun x _ ih => match T.get x.2 h with | some o => T.set (renO (bwd l0) o) x.1 ih | none => ih) l
noncomputable def hVwOk (l0 : Vw) (h : T Ob) (l : Vw) : Bool := lall (fun x => match T.get x.2 h with | some o => obVw l0 o | none => true) l
theorem hView_get {l0 : Vw} {h : T Ob} {q : Pos} {o : Ob} : ∀ {l : Vw}, T.get q (hView l0 h l) = some o → ∃ p o', (q, p) ∈ l ∧ T.get p h = some o' ∧ o = renO (bwd l0) o'
  | [], hq => by have hq : T.get q (.nil : T Ob) = some o := hq; rw [T.get_nil] at hq; cases hq
  | x :: l, hq => by
    have hq : T.get q (match T.get x.2 h with | some o => T.set (renO (bwd l0) o) x.1 (hView l0 h l) | none => hView l0 h l) = some o := hq
    split at hq
    · rename_i o1 ho
      rw [T.get_set] at hq
      split at hq
      · rename_i e
        cases hq
        exact ⟨x.2, o1, by rw [e]; simp, ho, rfl⟩
      · obtain ⟨p, o', h1, h2⟩ := hView_get hq
        exact ⟨p, o', List.mem_cons_of_mem _ h1, h2⟩
    · obtain ⟨p, o', h1, h2⟩ := hView_get hq
      exact ⟨p, o', List.mem_cons_of_mem _ h1, h2⟩
noncomputable def nmView (N : Nat) (l : Vw) (ι : Nm) : Nm := fun q => match fwd l q with | some p => ι p | none => if q.nat < N then ι q else none
theorem renO_wr {ri : Pos → Option Pos} {o : Ob} (h : (renO ri o).wr = true) : o.wr = true := by cases o <;> first | exact h | (cases h)
theorem renO_live {ri : Pos → Option Pos} {o : Ob} (h : (renO ri o).live = true) : o.live = true := by cases o <;> first | rfl | exact h | (cases h)
theorem renO_kin (ri : Pos → Option Pos) (o : Ob) : (renO ri o).kin = [] := by cases o <;> rfl
theorem renO_len {ri : Pos → Option Pos} {o : Ob} : (renO ri o).len = o.len := by
  cases o with
  | cells l kin fz ro => simp [renO, Ob.len, renL_eq]
  | _ => rfl
theorem renO_wr' {l0 : Vw} {ri : Pos → Option Pos} {o : Ob} (hb : obVw l0 o = true) (h : o.wr = false) : (renO ri o).wr = false := by
  cases o <;> first | exact h | rfl | (cases hb)

section
variable {P : Program}
theorem Rep.view {ι : Nm} {σ : St} {w : World} (R : Rep ι σ w) {N : Nat} {l : Vw} {nx : Pos} (hl : vwOk N nx l = true) (hN : N ≤ nx.nat) (hh : hVwOk l σ.h l = true) : Rep (nmView N l ι) ⟨hView l σ.h l, nx⟩ w := by
  have hok : ∀ q p, (q, p) ∈ l → fwd l q = some p ∧ bwd l p = some q ∧ N ≤ q.nat ∧ q.nat < nx.nat := fun q p h => by
    unfold vwOk at hl
    rw [lall_eq] at hl
    have := List.all_eq_true.1 hl (q, p) h
    simp only [Bool.and_eq_true] at this
    have h3 := this.1.2
    have h4 := this.2
    rw [blt_eq] at h4
    exact ⟨isP_eq this.1.1.1, isP_eq this.1.1.2, ble_le h3, by simpa using h4⟩
  have hob : ∀ q p o, (q, p) ∈ l → T.get p σ.h = some o → obVw l o = true := fun q p o h ho => by
    unfold hVwOk at hh
    rw [lall_eq] at hh
    have := List.all_eq_true.1 hh (q, p) h
    simp only [ho] at this
    exact this
  have hri : ∀ p q, bwd l p = some q → nmView N l ι q = ι p := fun p q h => by
    unfold nmView
    rw [(hok q p (bwd_mem h)).1]
  have hnm : ∀ q p, (q, p) ∈ l → nmView N l ι q = ι p := fun q p h => hri p q (hok q p h).2.1
  constructor
  · intro q o hq
    obtain ⟨p, o', h1, h2, rfl⟩ := hView_get hq
    have hr := R.ob p o' h2
    have hb := hob q p o' h1 h2
    cases o' with
    | cells c kin fz ro =>
      obtain ⟨pl, cc, e, k1, k2, k3, k4, k5, k6⟩ := hr
      refine ⟨pl, cc, e, (hnm q p h1).trans k1, k2, k3, k4, by rw [renL_eq]; simpa using k5, fun i x y hx hy => ?_⟩
      rw [renL_eq, List.getElem?_map] at hx
      cases hc : c[i]? with
      | none => rw [hc] at hx; cases hx
      | some z => rw [hc] at hx; cases hx; exact (k6 i z y hc hy).ren hri
    | map es ck ks => cases hb
    | mit m a b c => cases hb
    | sit s n =>
      obtain ⟨pl, ss, k1, k2, k3, k4⟩ := hr
      exact ⟨pl, ss, (hnm q p h1).trans k1, k2, k3, k4⟩
    | dead => trivial
  · intro q pl hq
    unfold nmView at hq
    split at hq
    · exact R.pl _ pl hq
    · split at hq
      · exact R.pl _ pl hq
      · cases hq
  · intro q pl hq
    unfold nmView at hq
    split at hq
    · rename_i p hp; exact (hok q p (fwd_mem hp)).2.2.2
    · split at hq
      · show q.nat < nx.nat; omega
      · cases hq
  · intro q o hq
    obtain ⟨p, o', h1, h2, rfl⟩ := hView_get hq
    exact (hok q p h1).2.2.2
  · intro q1 o1 q2 o2 a b g1 l1 g2 l2 i1 i2 hab hne
    obtain ⟨p1, o1', m1, t1, rfl⟩ := hView_get g1
    obtain ⟨p2, o2', m2, t2, rfl⟩ := hView_get g2
    rw [hnm q1 p1 m1] at i1
    rw [hnm q2 p2 m2] at i2
    have hpne : p2 ≠ p1 := fun e => by
      subst e
      have h1 := (hok q1 p2 m1).2.1
      have h2 := (hok q2 p2 m2).2.1
      rw [h1] at h2; cases h2
      exact hne rfl
    have nokin : ∀ q p o k, (q, p) ∈ l → T.get p σ.h = some o → k ∈ o.kin → bwd l k = none := fun q p o k h ho hk => by
      have hb := hob q p o h ho
      cases o with
      | cells c kin fz ro =>
        have hb : lall (fun p => match bwd l p with | none => true | some _ => false) kin = true := hb
        rw [lall_eq] at hb
        have := List.all_eq_true.1 hb k hk
        cases hbk : bwd l k with
        | none => rfl
        | some z => rw [hbk] at this; cases this
      | _ => cases hk
    rcases R.sep2 p1 o1' p2 o2' a b t1 (renO_live l1) t2 (renO_live l2) i1 i2 hab hpne with h | h | h
    · have := nokin q1 p1 o1' p2 m1 t1 h
      rw [(hok q2 p2 m2).2.1] at this; cases this
    · have := nokin q2 p2 o2' p1 m2 t2 h
      rw [(hok q1 p1 m1).2.1] at this; cases this
    · refine .inr (.inr ⟨renO_wr' (hob q1 p1 o1' m1 t1) h.1, renO_wr' (hob q2 p2 o2' m2 t2) h.2.1, ?_⟩)
      rw [renO_len, renO_len]
      exact h.2.2
  · intro q o q2 o2 hq hk
    obtain ⟨p, o', h1, h2, rfl⟩ := hView_get hq
    rw [renO_kin] at hk; cases hk
  · intro q o q2 hq hk
    obtain ⟨p, o', h1, h2, rfl⟩ := hView_get hq
    rw [renO_kin] at hk; cases hk
  · intro q o q2 o2 a b hq hw hk
    obtain ⟨p, o', h1, h2, rfl⟩ := hView_get hq
    rw [renO_kin] at hk; cases hk

/-- slots that are kept, under new names -/
noncomputable def fView (ri : Pos → Option Pos) (A : T V) (l : List Pos) : T V := List.rec (motive := fun _ => T V) .nil (fun p _ ih => match T.get p A with | some v => T.set (ren ri v) p ih | none => ih) l
theorem fView_get {ri : Pos → Option Pos} {A : T V} {p : Pos} {v : V} : ∀ {l : List Pos}, T.get p (fView ri A l) = some v → ∃ v', T.get p A = some v' ∧ v = ren ri v'
  | [], h => by have h : T.get p (.nil : T V) = some v := h; rw [T.get_nil] at h; cases h
  | x :: l, h => by
    have h : T.get p (match T.get x A with | some v => T.set (ren ri v) x (fView ri A l) | none => fView ri A l) = some v := h
    split at h
    · rename_i v1 h1
      rw [T.get_set] at h
      split at h
      · rename_i e; cases h; subst e; exact ⟨v1, h1, rfl⟩
      · exact fView_get h
    · exact fView_get h
theorem FR.view {n : Nat} {ds : List Deferred} {ι ι2 : Nm} {A : T V} {a : Act} (F : FR n ds ι A a) {ri : Pos → Option Pos} (h : ∀ p q, ri p = some q → ι2 q = ι p) (l : List Pos) : FR n ds ι2 (fView ri A l) a :=
  ⟨F.size, F.defers, fun p v t hp ht => by
    obtain ⟨v', h1, rfl⟩ := fView_get hp
    exact (F.at_ p v' t h1 ht).ren h⟩

/-- the machine is at (A, σ): of what was there when the call began nothing has turned -/
def At (ng : GS) (n : Nat) (w0 : World) (A : T V) (σ : St) (a : Act) (w : World) : Prop :=
  ∃ ι, FR n [] ι A a ∧ Gl ng ι ∧ Rep ι σ w ∧ (∀ p o pl, T.get p σ.h = some o → o.wr = true → ι p = some pl → w0.heap.size ≤ pl.blk) ∧ Below w0.heap.size w0 w
/-- it is there, seen so -/
theorem At.view {ng : GS} {n : Nat} {w0 : World} {A : T V} {σ : St} {a : Act} {w : World} (h : At ng n w0 A σ a w) {N : Nat} (hng : ∀ g ∈ ng, g + 1 < N) (l : Vw) (ks : List Pos) (nx : Pos) (hl : vwOk N nx l = true) (hN : N ≤ nx.nat) (hh : hVwOk l σ.h l = true)
    {B : T V} {τ : T Ob} (hB : fView (bwd l) A ks = B) (hτ : hView l σ.h l = τ) : At ng n w0 B ⟨τ, nx⟩ a w := by
  subst hB; subst hτ
  obtain ⟨ι, F, G, R, O, B⟩ := h
  have hok : ∀ q p, (q, p) ∈ l → fwd l q = some p ∧ bwd l p = some q ∧ N ≤ q.nat := fun q p h => by
    unfold vwOk at hl
    rw [lall_eq] at hl
    have := List.all_eq_true.1 hl (q, p) h
    simp only [Bool.and_eq_true] at this
    exact ⟨isP_eq this.1.1.1, isP_eq this.1.1.2, ble_le this.1.2⟩
  have hri : ∀ p q, bwd l p = some q → nmView N l ι q = ι p := fun p q h => by
    unfold nmView
    rw [(hok q p (bwd_mem h)).1]
  refine ⟨nmView N l ι, F.view hri ks, fun g p hg hp => ?_, R.view hl hN hh, ?_, B⟩
  · obtain ⟨pl, h1, h2⟩ := G g p hg hp
    refine ⟨pl, ?_, h2⟩
    unfold nmView
    have hlt := hng g hg
    cases hf : fwd l p with
    | some z => have := (hok p z (fwd_mem hf)).2.2; omega
    | none => simp only; rw [if_pos (by omega)]; exact h1
  · intro q o pl hq hw hi
    obtain ⟨p, o', h1, h2, rfl⟩ := hView_get hq
    rw [hri p q (hok q p h1).2.1] at hi
    exact O p o' pl h2 (renO_wr hw) hi
theorem At.less {ng : GS} {n : Nat} {w0 : World} {A B : T V} {σ : St} {a : Act} {w : World} (h : At ng n w0 A σ a w) (hs : ∀ p v, T.get p B = some v → T.get p A = some v) : At ng n w0 B σ a w :=
  let ⟨ι, F, h⟩ := h; ⟨ι, F.less hs, h⟩

def XE.to : XE → Exit | .nrm => .normal | .ext i => .exit i | .ret => .ret
theorem xq_to {e : XE} {Q : Exit → Act → World → Prop} {a : Act} {w : World} : XQ e Q a w = Q e.to a w := by cases e <;> rfl
/-- of a piece of the machine's code, whatever piece of the program it stands for -/
def Tri (P : Program) (E : Env P) (n : Nat) (c : IR) (I : Act → World → Prop) (Q : Exit → Act → World → Prop) : Prop := ∀ x, okC E n (okD E n) c x = true → ∀ a w, I a w → x.wp P Q a w
variable {E : Env P} {M : Mach} {n : Nat}
theorem Tri.pre {c : IR} {I J : Act → World → Prop} {Q : Exit → Act → World → Prop} (h : Tri P E n c J Q) (hi : ∀ a w, I a w → J a w) : Tri P E n c I Q := fun x hx a w h1 => h x hx a w (hi a w h1)
theorem Tri.run (K : MOk P E M (okD E)) {k fuel : Nat} {w0 : World} {A A' : T V} {σ σ' : St} {e : XE} {c : IR} (h : exec M (runFn M k) fuel c A σ = some (e, A', σ')) {Q : Exit → Act → World → Prop}
    (hq : ∀ a w, At E.ng n w0 A' σ' a w → Q e.to a w) : Tri P E n c (At E.ng n w0 A σ) Q := by
  intro x hx a w ⟨ι, F, L, R, O, B⟩
  refine exec_sound K.pt K.mt (run_sound K k) (K.rgd n) fuel c x hx h F L R ?_
  intro ι' a' w' F' R' G'
  rw [xq_to]
  refine hq a' w' ⟨ι', F', L.mono G'.ext, R', ?_, B.trans ⟨G'.os, G'.tape, G'.out, G'.size, fun r hr => G'.keep r (by have := B.size; omega) ?_⟩⟩
  · intro p o pl hp hw hi
    by_cases hlt : pl.blk < w.heap.size
    · obtain ⟨p2, o2, pl2, i1, i2, i3, i4⟩ := G'.img pl.blk hlt ⟨p, o, pl, hp, hw, hi, rfl⟩
      have := O p2 o2 pl2 i1 i2 i3
      omega
    · have := B.size; omega
  · rintro ⟨p2, o2, pl2, i1, i2, i3, i4⟩
    have := O p2 o2 pl2 i1 i2 i3
    omega
theorem Tri.seq {c1 c2 : IR} {I J : Act → World → Prop} {Q : Exit → Act → World → Prop} (h1 : Tri P E n c1 I (Exit.then J Q)) (h2 : Tri P E n c2 J Q) : Tri P E n (.seq c1 c2) I Q := by
  intro x hx a w hi
  cases x <;> simp only [okC, Bool.false_eq_true, Bool.and_eq_true] at hx
  refine wp_seq ?_
  have := h1 _ hx.1 a w hi
  refine wp_mono this ?_
  intro e a' w' hq
  cases e <;> first | exact h2 _ hx.2 a' w' hq | exact hq
theorem Tri.blk {i : Nat} {c : IR} {I : Act → World → Prop} {Q : Exit → Act → World → Prop} (h : Tri P E n c I (Exit.inBlock i Q)) : Tri P E n (.blk i c) I Q := by
  intro x hx a w hi
  cases x <;> simp only [okC, Bool.false_eq_true, Bool.and_eq_true, beq_iff_eq] at hx
  obtain ⟨rfl, hx⟩ := hx
  exact wp_block (h _ hx a w hi)
theorem Tri.cnd {z : Arg} {c1 c2 : IR} {w0 : World} {A : T V} {σ : St} {b : Bool} {Q : Exit → Act → World → Prop} (hb : ev A z = .bool b) (h1 : b = true → Tri P E n c1 (At E.ng n w0 A σ) Q) (h2 : b = false → Tri P E n c2 (At E.ng n w0 A σ) Q) : Tri P E n (.cnd z c1 c2) (At E.ng n w0 A σ) Q := by
  intro x hx a w hi
  cases x <;> simp only [okC, Bool.false_eq_true, Bool.and_eq_true] at hx
  obtain ⟨ι, F, L, R, O, B⟩ := hi
  have hv := (ev_as F L hx.1.1 hb).bool_inv
  cases b with
  | true => exact wp_cond_true hv (h1 rfl _ hx.1.2 a w ⟨ι, F, L, R, O, B⟩)
  | false => exact wp_cond_false hv (h2 rfl _ hx.2 a w ⟨ι, F, L, R, O, B⟩)
/-- so many rounds, and one that leaves -/
theorem Tri.loop {c : IR} {I : Nat → Act → World → Prop} {Q : Exit → Act → World → Prop} (N : Nat) (hstep : ∀ i, i < N → Tri P E n c (I i) (Exit.then (I (i + 1)) Q)) (hlast : Tri P E n c (I N) (Exit.then (fun _ _ => False) Q)) : Tri P E n (.loop c) (I 0) Q := by
  intro x hx a w hi
  cases x <;> simp only [okC, Bool.false_eq_true] at hx
  rename_i body
  refine LoopAt.wp ?_
  have key : ∀ (d i : Nat) (a : Act) (w : World), i + d = N → I i a w → LoopAt P body Q a w := by
    intro d
    induction d with
    | zero =>
      intro i a w hd hi
      have : i = N := by omega
      subst this
      refine LoopAt.round (wp_mono (hlast _ hx a w hi) ?_)
      intro e a' w' hq
      cases e <;> first | exact hq.elim | exact hq
    | succ d ih =>
      intro i a w hd hi
      refine LoopAt.round (wp_mono (hstep i (by omega) _ hx a w hi) ?_)
      intro e a' w' hq
      cases e <;> first | exact ih (i + 1) a' w' (by omega) hq | exact hq
  exact key N 0 a w (by omega) hi

/-- a function that only reads what was there: what it hands back, nothing else -/
theorem fn_pure (K : MOk P E M (okD E)) {f : Pos} {nt : Nat} {body : IR} {res : List RV} (hget : T.get f M.tab = some (.code nt body res)) {vs2 : List V} (hle : vs2.length ≤ nt) {s2 : St} {out : V} (hout : Bare out)
    {ι ι2 : Nm} {w : World} {args : Array Value} {σ : St} (R : Rep ι σ w) (hG : Gl E.ng ι2) (R2 : Rep ι2 s2 w) (hro : ∀ p o, T.get p s2.h = some o → o.wr = false) (hv : VRs ι2 vs2 args.toList)
    (h : Tri P E nt body (At E.ng nt w (frameOf vs2 .H .nil) s2) (fun e a' w' => e = .ret ∧ ∃ A' σ', At E.ng nt w A' σ' a' w' ∧ resF res A' σ' = some [out])) : Calls P (f.nat - 1) args w (Post ι σ w out σ) := by
  obtain ⟨fn, c, h1, h2, h3, h4, h5, h6⟩ := K.code f nt body res hget
  refine calls_of_wp h1 h2 ?_
  rw [h3]
  refine wp_mono (h c h5 _ w ⟨ι2, FR.enter hv hle, hG, R2, fun p o pl hp hw => (by rw [hro p o hp] at hw; cases hw), Below.refl _ _⟩) ?_
  rintro e a' w' ⟨rfl, A', σ', ⟨ι', F, L, R', O, B⟩, hr⟩
  obtain ⟨v', r1, r2⟩ := results_sound F L R' h6 hr
  refine ⟨F.defers, v', r1, ι, v', rfl, hout _ _ _ r2, R.stays B.block, ⟨.refl ι, fun _ _ => rfl, Nat.le_refl _, B.size, B.os, B.tape, B.output, fun r hr _ => B.block r hr, fun _ _ h => h, fun x y h1 h2 => by rw [h2] at h1; cases h1⟩⟩
abbrev RP := Option (XE × T V × St × PS)
noncomputable def xr (M : Mach) (k fuel : Nat) (c : IR) (A : T V) (σ : St) : RP := execP M (runFnP M k) fuel c A σ
noncomputable def rA (r : RP) : T V := match r with | some (_, A, _) => A | none => .nil
noncomputable def rS (r : RP) : St := match r with | some (_, _, σ, _) => σ | none => ⟨.nil, .H⟩
noncomputable def rC (r : RP) : PS := match r with | some (_, _, _, cs) => cs | none => []
/-- a run has come to its end so; what is asked of its view -/
noncomputable def isE (e x : XE) : Bool := match e with | .nrm => (match x with | .nrm => true | _ => false) | .ret => (match x with | .ret => true | _ => false) | .ext i => (match x with | .ext j => Nat.beq i j | _ => false)
theorem isE_eq {e x : XE} (h : isE e x = true) : x = e := by
  cases e <;> cases x <;> first | rfl | (cases h; done) | skip
  rename_i i j
  have h : Nat.beq i j = true := h
  rw [Nat.eq_of_beq_eq_true h]
noncomputable def isX (e : XE) (r : RP) : Bool := match r with | some (x, _) => isE e x | none => false
def Alike (cs : PS) : Prop := lmap (fun p => p.1) cs = lmap (fun p => p.2) cs
theorem isX_run {M : Mach} {k fuel : Nat} {c : IR} {A : T V} {σ : St} {e : XE} (h : isX e (xr M k fuel c A σ) = true) (hC : Alike (rC (xr M k fuel c A σ))) : exec M (runFn M k) fuel c A σ = some (e, rA (xr M k fuel c A σ), rS (xr M k fuel c A σ)) := by
  unfold xr at h hC ⊢
  cases hr : execP M (runFnP M k) fuel c A σ with
  | none => rw [hr] at h; cases h
  | some x =>
    obtain ⟨e1, A1, σ1, cs⟩ := x
    rw [hr] at h hC
    have h : isE e e1 = true := h
    rw [isE_eq h] at hr
    exact execP_ok (runFnP_ok M k) fuel c _ _ _ _ _ _ hr (good_of hC)
noncomputable def vOk (r : RP) (l : Vw) (N : Nat) (nx : Pos) : Bool := match r with
  | some (_, _, σ, _) => vwOk N nx l && hVwOk l σ.h l && Nat.ble N nx.nat
  | none => false
theorem vOk_run {r : RP} {l : Vw} {N : Nat} {nx : Pos} (h : vOk r l N nx = true) : vwOk N nx l = true ∧ hVwOk l (rS r).h l = true ∧ N ≤ nx.nat := by
  unfold vOk at h
  split at h
  · simp only [Bool.and_eq_true] at h
    exact ⟨h.1.1, h.1.2, ble_le h.2⟩
  · cases h
/-- a run to its end -/
theorem Tri.runX (K : MOk P E M (okD E)) {k fuel : Nat} {w0 : World} {A : T V} {σ : St} {c : IR} {e : XE} (h : isX e (xr M k fuel c A σ) = true) (hC : Alike (rC (xr M k fuel c A σ))) {Q : Exit → Act → World → Prop}
    (hq : ∀ a w, At E.ng n w0 (rA (xr M k fuel c A σ)) (rS (xr M k fuel c A σ)) a w → Q e.to a w) : Tri P E n c (At E.ng n w0 A σ) Q := Tri.run K (isX_run h hC) hq
theorem Tri.stepV (K : MOk P E M (okD E)) {k fuel : Nat} {w0 : World} {A B : T V} {σ : St} {τ : T Ob} {c : IR} {l : Vw} {ks : List Pos} {N : Nat} {nx : Pos} (hng : ∀ g ∈ E.ng, g + 1 < N) (h : isX .nrm (xr M k fuel c A σ) = true) (hC : Alike (rC (xr M k fuel c A σ))) (hv : vOk (xr M k fuel c A σ) l N nx = true)
    (hB : fView (bwd l) (rA (xr M k fuel c A σ)) ks = B) (hτ : hView l (rS (xr M k fuel c A σ)).h l = τ) {Q : Exit → Act → World → Prop} : Tri P E n c (At E.ng n w0 A σ) (Exit.then (At E.ng n w0 B ⟨τ, nx⟩) Q) := by
  obtain ⟨h2, h3, h4⟩ := vOk_run hv
  exact Tri.runX K h hC (fun a w ha => ha.view hng l ks nx h2 h4 h3 hB hτ)
theorem Tri.endV (K : MOk P E M (okD E)) {k fuel : Nat} {w0 : World} {A B : T V} {σ : St} {τ : T Ob} {c : IR} {l : Vw} {ks : List Pos} {N : Nat} {nx : Pos} (hng : ∀ g ∈ E.ng, g + 1 < N) (h : isX .nrm (xr M k fuel c A σ) = true) (hC : Alike (rC (xr M k fuel c A σ))) (hv : vOk (xr M k fuel c A σ) l N nx = true)
    (hB : fView (bwd l) (rA (xr M k fuel c A σ)) ks = B) (hτ : hView l (rS (xr M k fuel c A σ)).h l = τ) {Q : Exit → Act → World → Prop} (hq : ∀ a w, At E.ng n w0 B ⟨τ, nx⟩ a w → Q .normal a w) : Tri P E n c (At E.ng n w0 A σ) Q := by
  obtain ⟨h2, h3, h4⟩ := vOk_run hv
  exact Tri.runX K h hC (fun a w ha => hq a w (ha.view hng l ks nx h2 h4 h3 hB hτ))
/-- pieces, one behind another -/
noncomputable def seqL (l : List IR) (c : IR) : IR := List.rec (motive := fun _ => IR) c (fun a _ ih => .seq a ih) l
theorem exec_seq_nrm {M : Mach} {call : Pos → List V → St → Option (V × St)} {f : Nat} {a b : IR} {A A' : T V} {σ σ' : St} (h : exec M call f (.seq a b) A σ = some (.nrm, A', σ')) : ∃ A1 σ1, exec M call f a A σ = some (.nrm, A1, σ1) ∧ exec M call f b A1 σ1 = some (.nrm, A', σ') := by
  have h : (match exec M call f a A σ with | none => none | some (x, A', σ') => (match x with | .nrm => exec M call f b A' σ' | x => some (x, A', σ'))) = some (.nrm, A', σ') := h
  split at h
  · cases h
  · rename_i x A1 σ1 h1
    cases x with
    | nrm => exact ⟨A1, σ1, h1, h⟩
    | ext i => cases h
    | ret => cases h
theorem Tri.runs0 (K : MOk P E M (okD E)) {k fuel : Nat} {w0 : World} {c : IR} {Q : Exit → Act → World → Prop} {A' : T V} {σ' : St} (hc : Tri P E n c (At E.ng n w0 A' σ') Q) : ∀ (l : List IR) {A : T V} {σ : St}, exec M (runFn M k) fuel (seqL l .skip) A σ = some (.nrm, A', σ') → Tri P E n (seqL l c) (At E.ng n w0 A σ) Q
  | [], A, σ, h => by
    have h : some (XE.nrm, A, σ) = some (.nrm, A', σ') := h
    cases h
    exact hc
  | a :: l, A, σ, h => by
    obtain ⟨A1, σ1, h1, h2⟩ := exec_seq_nrm (a := a) (b := seqL l .skip) h
    exact Tri.seq (Tri.run K h1 (fun a w h => h)) (Tri.runs0 K hc l h2)
theorem Tri.runs (K : MOk P E M (okD E)) {k fuel : Nat} {w0 : World} {c : IR} {Q : Exit → Act → World → Prop} {l : List IR} {A B : T V} {σ : St} {τ : T Ob} {v : Vw} {ks : List Pos} {N : Nat} {nx : Pos} (hng : ∀ g ∈ E.ng, g + 1 < N)
    (h : isX .nrm (xr M k fuel (seqL l .skip) A σ) = true) (hC : Alike (rC (xr M k fuel (seqL l .skip) A σ))) (hv : vOk (xr M k fuel (seqL l .skip) A σ) v N nx = true)
    (hB : fView (bwd v) (rA (xr M k fuel (seqL l .skip) A σ)) ks = B) (hτ : hView v (rS (xr M k fuel (seqL l .skip) A σ)).h v = τ) (hc : Tri P E n c (At E.ng n w0 B ⟨τ, nx⟩) Q) : Tri P E n (seqL l c) (At E.ng n w0 A σ) Q := by
  obtain ⟨h2, h3, h4⟩ := vOk_run hv
  exact Tri.runs0 K (hc.pre (fun a w ha => ha.view hng v ks nx h2 h4 h3 hB hτ)) l (isX_run h hC)
theorem Tri.lastV (K : MOk P E M (okD E)) {k fuel i : Nat} {w0 : World} {A B : T V} {σ : St} {τ : T Ob} {c : IR} {l : Vw} {ks : List Pos} {N : Nat} {nx : Pos} (hng : ∀ g ∈ E.ng, g + 1 < N) (h : isX (.ext i) (xr M k fuel c A σ) = true) (hC : Alike (rC (xr M k fuel c A σ))) (hv : vOk (xr M k fuel c A σ) l N nx = true)
    (hB : fView (bwd l) (rA (xr M k fuel c A σ)) ks = B) (hτ : hView l (rS (xr M k fuel c A σ)).h l = τ) {J F : Act → World → Prop} {Q : Exit → Act → World → Prop} (hJ : ∀ a w, At E.ng n w0 B ⟨τ, nx⟩ a w → J a w) :
    Tri P E n c (At E.ng n w0 A σ) (Exit.then F (Exit.inBlock i (Exit.then J Q))) := by
  obtain ⟨h2, h3, h4⟩ := vOk_run hv
  refine Tri.runX K h hC (fun a w ha => ?_)
  show (if i = i then Exit.then J Q .normal a w else _)
  rw [if_pos rfl]
  exact hJ a w (ha.view hng l ks nx h2 h4 h3 hB hτ)
theorem Tri.retV (K : MOk P E M (okD E)) {k fuel : Nat} {w0 : World} {A : T V} {σ : St} {c : IR} (h : isX .ret (xr M k fuel c A σ) = true) (hC : Alike (rC (xr M k fuel c A σ))) {res : List RV} {out : V} (hr : resF res (rA (xr M k fuel c A σ)) (rS (xr M k fuel c A σ)) = some [out]) :
    Tri P E n c (At E.ng n w0 A σ) (fun e a' w' => e = .ret ∧ ∃ A' σ', At E.ng n w0 A' σ' a' w' ∧ resF res A' σ' = some [out]) :=
  Tri.runX K h hC (fun a w ha => ⟨rfl, _, _, ha, hr⟩)
/-- a row of bytes (or of what names nothing) among what is handed over, seen alone -/
theorem win_view {ng : GS} {ι : Nm} {w : World} {σ : St} (hG : Gl ng ι) (R : Rep ι σ w) {p q : Pos} {o n : Nat} {cap : Option Nat} {L l : List V} {kin : List Pos} {fz ro : Bool} (hq : ∀ g ∈ ng, g + 1 < q.nat) (h0 : 0 < n) (hn : l.length = n) (hl : ∀ x ∈ l, Bare x)
    (hp : T.get p σ.h = some (.cells L kin fz ro)) (hL : (L.drop o).take n = l) {y : Value} (hv : VR ι (.slice p o n cap 1) y) :
    ∃ ι2, Gl ng ι2 ∧ Rep ι2 ⟨T.set (Ob.cells l [] false true) q .nil, q.succ⟩ w ∧ VR ι2 (.slice q 0 n none 1) y := by
  obtain ⟨pl, a, c, s1, s2, s3, s4, s5, s6, s7⟩ := hv.slice_inv
  obtain ⟨pl', cc, e, j1, j2, j3, j4, j5, j6⟩ := R.ob p _ hp
  rw [s1] at j1; cases j1
  have hon : o + n ≤ L.length := by
    have : ((L.drop o).take n).length = n := by rw [hL, hn]
    simp at this
    omega
  let ι2 : Nm := fun x => if x = q then some ⟨pl.blk, pl.st + o, pl.sz, 0⟩ else if x.nat < q.nat then ι x else none
  have hι2q : ι2 q = some ⟨pl.blk, pl.st + o, pl.sz, 0⟩ := by simp [ι2]
  have hι2 : ∀ x y, ι2 x = some y → x = q ∧ y = ⟨pl.blk, pl.st + o, pl.sz, 0⟩ ∨ x ≠ q ∧ x.nat < q.nat ∧ ι x = some y := fun x y h => by
    simp only [ι2] at h
    split at h
    · rename_i hx; cases h; exact .inl ⟨hx, rfl⟩
    · rename_i hx
      split at h
      · rename_i hle; exact .inr ⟨hx, hle, h⟩
      · cases h
  have hget : ∀ x ob, T.get x (T.set (Ob.cells l [] false true) q .nil) = some ob → x = q ∧ ob = Ob.cells l [] false true := fun x ob h => by
    rw [T.get_set] at h
    split at h
    · rename_i hx; cases h; exact ⟨hx, rfl⟩
    · rw [T.get_nil] at h; cases h
  refine ⟨ι2, fun g x hg hx => ?_, ?_, ?_⟩
  · have hgq := hq g hg
    have hne : x ≠ q := fun h => by subst h; omega
    have : ι2 x = ι x := by simp only [ι2, if_neg hne]; rw [if_pos (by omega)]
    rw [this]; exact hG g x hg hx
  · constructor
    · intro x ob h
      obtain ⟨rfl, rfl⟩ := hget x ob h
      refine ⟨_, cc, e, hι2q, rfl, j3, j4, by show pl.st + o + l.length ≤ cc.size; omega, fun i y z hy hz => ?_⟩
      have hy' : L[o + i]? = some y := by
        rw [← hL, List.getElem?_take] at hy
        split at hy
        · rw [List.getElem?_drop] at hy; exact hy
        · cases hy
      exact hl y (List.mem_of_getElem? hy) ι _ z (j6 (o + i) y z hy' (by rw [← Nat.add_assoc]; exact hz))
    · intro x y h
      rcases hι2 x y h with ⟨rfl, rfl⟩ | ⟨_, _, h⟩
      · exact ⟨fun _ => ⟨cc, e, j3, j4⟩, (fun h => by cases h), (fun h => by cases h), (fun h => by cases h), Nat.zero_le _⟩
      · exact R.pl x y h
    · intro x y h
      show x.nat < q.succ.nat
      rw [Pos.succ_nat]
      rcases hι2 x y h with ⟨rfl, _⟩ | ⟨_, h, _⟩ <;> omega
    · intro x ob h
      obtain ⟨rfl, _⟩ := hget x ob h
      show x.nat < x.succ.nat
      rw [Pos.succ_nat]; omega
    · intro x ob y ob' a1 b1 h1 _ h2 _ _ _ _ hne
      obtain ⟨rfl, _⟩ := hget x ob h1
      obtain ⟨rfl, _⟩ := hget y ob' h2
      exact absurd rfl hne
    · intro x ob y ob' h1 h2
      obtain ⟨rfl, rfl⟩ := hget x ob h1
      cases h2
    · intro x ob y h1 h2
      obtain ⟨rfl, rfl⟩ := hget x ob h1
      cases h2
    · intro x ob y ob' a1 b1 h1 h2
      obtain ⟨rfl, rfl⟩ := hget x ob h1
      cases h2
  · rw [s7]
    exact .slice q 0 n none 1 ⟨pl.blk, pl.st + o, pl.sz, 0⟩ a c hι2q rfl (fun _ h => by cases h) s4 (fun h => by rw [s5 h]; rfl) (by show pl.st + o + 0 + c * 1 ≤ pl.sz; omega)
/-! parts of a function's code -/
noncomputable def bodyI (e : FnE) : IR := match e with | .code _ b _ => b | .spec _ => .skip
noncomputable def resI (e : FnE) : List RV := match e with | .code _ _ r => r | .spec _ => []
noncomputable def fstI (c : IR) : IR := match c with | .seq a _ => a | c => c
noncomputable def sndI (c : IR) : IR := match c with | .seq _ b => b | c => c
noncomputable def blkI (c : IR) : IR := match c with | .blk _ b => b | c => c
noncomputable def lopI (c : IR) : IR := match c with | .loop b => b | c => c
/-! tables, contract by contract -/
def TabIs (E : Env P) (t : T FnE) : Prop := ∀ p e, T.get p t = some e → fnOk E (p.nat - 1) e = true
theorem tabIs_of {E : Env P} {t : T FnE} (h : tabOk E t id = true) : TabIs E t := fun p e hp => tabOk_spec E t id h p e hp
theorem TabIs.set {E : Env P} {t : T FnE} (h : TabIs E t) {e : FnE} {p : Pos} (he : fnOk E (p.nat - 1) e = true) : TabIs E (T.set e p t) := by
  intro q x hq
  rw [T.get_set] at hq
  split at hq
  · rename_i e1; cases hq; subst e1; exact he
  · exact h q x hq
theorem mok_of2 {E : Env P} {M : Mach} (hpt : M.pt = E.pt) (hmt : MtOk P M.mt) (hm : P.follows .mixedOrders = true) (ht : TabIs E M.tab)
    (hs : ∀ f s, T.get f M.tab = some (.spec s) → ∀ vs σ v σ', M.spec s vs σ = some (v, σ') → ∀ (ι : Nm) (w : World) (args : Array Value), Gl E.ng ι → Rep ι σ w → VRs ι vs args.toList → Calls P (f.nat - 1) args w (Post ι σ w v σ')) :
    MOk P E M (okD E) where
  pt := hpt
  mt := hmt
  rgd n := rgd_sound hpt hmt hm n
  code f n b res hf := by
    obtain ⟨fn, c, h1, h2, h3, h4⟩ := fnOk_is (ht f _ hf)
    obtain ⟨h5, h6, h7⟩ := h4 n b res rfl
    exact ⟨fn, c, h1, h2, h5, h3, h6, h7⟩
  spec f s hf := by
    obtain ⟨fn, c, h1, h2, h3, h4⟩ := fnOk_is (ht f _ hf)
    exact ⟨⟨fn, h1, by rw [h2]; rfl, h3⟩, hs f s hf⟩
end
end Go.Proofs.YtcecdaeceipbnaaGreatDoor

/-
  Ranges over a function that makes no round, in the machine: code in layers, of which the bottom is the machine's; the iterator is run as any function, what it would hand its rounds to is not known. (Of no program.)
-/
namespace Go.Proofs.YtcecdaeceipbnaaGreatDoor
set_option linter.unusedVariables false
set_option linter.unusedSimpArgs false
set_option linter.unusedSectionVars false
open Go Go.RowKit

inductive IG
  | c (x : IR) | sq (a b : IG) | bk (i : Nat) (b : IG) | rg (g : Arg)

noncomputable def execG (M : Mach) (call : Pos → List V → St → Option (V × St)) (n : Nat) (c : IG) : T V → St → Option (XE × T V × St) := IG.rec (motive := fun _ => T V → St → Option (XE × T V × St))
  (fun x => exec M call n x)
  (fun _ _ iha ihb A σ => match iha A σ with | none => none | some (x, A', σ') => (match x with | .nrm => ihb A' σ' | x => some (x, A', σ')))
  (fun i _ ih A σ => match ih A σ with | none => none | some (x, A', σ') => (match x with | .ext j => (match Nat.beq j i with | true => some (.nrm, A', σ') | false => some (.ext j, A', σ')) | x => some (x, A', σ')))
  (fun g A σ => match ev A g with
    | .fn f [] y => (match call (natPos f) (.u :: y) σ with | some (_, σ') => some (.nrm, A, σ') | none => none)
    | _ => none) c

section
variable {P : Program}
def okG (E : Env P) (n : Nat) (okD : Nat → List RO → Array Oper → Bool) : IG → Code → Bool
  | .c a, x => okC E n okD a x
  | .sq a b, .seq x y => okG E n okD a x && okG E n okD b y
  | .bk i b, .block j x => i == j && okG E n okD b x
  | .rg g, .rangeFunc z _ _ _ => okA E.ng g z
  | _, _ => false

/-- the marks of a frame: blocks that nobody names -/
def Mk (N : Nat) (ds : List Deferred) (ι : Nm) (w : World) : Prop :=
  (∀ d ∈ ds, ∃ D, d = { target := .collected D, args := #[] } ∧ N ≤ D ∧ w.heap[D]? = some (.deferred (some [])) ∧ ∀ p pl, ι p = some pl → pl.blk ≠ D) ∧ ds.Nodup
theorem Mk.step {N K : Nat} {ds : List Deferred} {ι ι' : Nm} {σ σ' : St} {w w' : World} (h : Mk N ds ι w) (g : G K ι σ w ι' σ' w') : Mk N ds ι' w' := by
  refine ⟨fun d hd => ?_, h.2⟩
  obtain ⟨D, h1, h2, h3, h4⟩ := h.1 d hd
  have hlt : D < w.heap.size := (Array.getElem?_eq_some_iff.1 h3).1
  have hno : ¬ Img ι σ D := fun ⟨p, o, pl, _, _, k1, k2⟩ => h4 p pl k1 k2
  refine ⟨D, h1, h2, (g.keep D hlt hno).trans h3, fun p pl hp e => ?_⟩
  cases hq : ι p with
  | some pl' =>
    have := g.ext p pl' hq
    rw [hp] at this; cases this
    exact h4 p pl hq e
  | none =>
    have := g.new p pl hp hq (by rw [e]; exact hlt)
    rw [e] at this
    exact hno this
/-- a block that nobody names turns -/
theorem Rep.other {ι : Nm} {σ : St} {w w' : World} (R : Rep ι σ w) {D : Nat} (hD : ∀ p pl, ι p = some pl → pl.blk ≠ D) (h : ∀ r, r ≠ D → w'.heap[r]? = w.heap[r]?) : Rep ι σ w' where
  ob p o hp := (R.ob p o hp).keep (.refl ι) (fun pl hpl _ => h _ (hD p pl hpl))
  pl p pl hp := by
    have h1 := R.pl p pl hp
    have h2 := h _ (hD p pl hp)
    unfold PlOk at h1 ⊢
    rw [h2]
    exact h1
  dom := R.dom
  hdom := R.hdom
  sep2 := R.sep2
  kin := R.kin
  kpres := R.kpres
  fin := R.fin
theorem wpIn_outer_rg {F : Fence} {n : Nat} {g : Operand} {ps : Array Tmp} {assign body : Code} {Q : Exit → Act → World → Prop} {a : Act} {w : World} (hro : F.round = none)
    (h : ∀ fn, F.fn fn → ∀ (W1 : World) (r : Loop), W1 = (w.alloc (.deferred (some []))).alloc (.loop r) → r.state = .ready → r.pending = none → ∃ (d : Deferred) (f : FuncId) (args : Array Value),
      (resolve a.eval (rangeCall g (w.heap.size + 1)) 0).run P W1 = .ok d W1 ∧
      (∀ f', Target.leads P W1 d.target d.args = some f' → F.fn f') ∧
      (invoke d.target d.args).run P W1 = .ok (.enter f args) W1 ∧
      (F.depth.isSome = true → 1 ≤ n) ∧
      CallsIn F (n - 1) P f args W1 (rangePost F n P (w.heap.size + 1) Q { a with defers := { target := .collected w.heap.size, args := #[] } :: a.defers })) :
    (Code.rangeFunc g ps assign body).wpIn F n P Q a w := by
  refine wpIn_rangeFunc ?_
  intro fn hfn
  obtain ⟨d, f, args, h1, h2, h3, h4, h5⟩ := h fn hfn _ { state := .ready, pending := none, fn := fn, tmps := a.tmps, params := ps, assign := assign, body := body, defers := w.heap.size } rfl rfl rfl
  rw [hro]
  exact ⟨_, _, _, d, _, f, args, _, run_enterLoop_outer _ _ _ _ _, h1, h2, h3, h4, h5⟩
theorem execG_sound {E : Env P} {M : Mach} (hpt : M.pt = E.pt) (hmt : MtOk P M.mt) {call : Pos → List V → St → Option (V × St)} (hc : CallOK P E.ng call) {n : Nat} {okD : Nat → List RO → Array Oper → Bool} (hD : RgdSound P E M n okD) (fuel N : Nat) :
    ∀ (c : IG) (x : Code) {ds : List Deferred} {ι : Nm} {A A' : T V} {a : Act} {σ σ' : St} {w : World} {e : XE} {Q : Exit → Act → World → Prop}, okG E n okD c x = true → execG M call fuel c A σ = some (e, A', σ') → FR n ds ι A a → Gl E.ng ι → Rep ι σ w → Mk N ds ι w → N ≤ w.heap.size →
      (∀ ds' ι' a' w', FR n ds' ι' A' a' → Rep ι' σ' w' → G σ.nx.nat ι σ w ι' σ' w' → Mk N ds' ι' w' → XQ e Q a' w') → x.wp P Q a w := by
  intro c
  induction c with
  | c y =>
    intro x ds ι A A' a σ σ' w e Q hok h F L R K hN hQ
    have hok : okC E n okD y x = true := by cases x <;> exact hok
    exact exec_sound hpt hmt hc hD fuel y x hok h F L R (fun ι' a' w' F' R' G' => hQ ds ι' a' w' F' R' G' (K.step G'))
  | sq c1 c2 ih1 ih2 =>
    intro x ds ι A A' a σ σ' w e Q hok h F L R K hN hQ
    cases x <;> simp only [okG, Bool.false_eq_true, Bool.and_eq_true] at hok
    have h : (match execG M call fuel c1 A σ with | none => none | some (x, A', σ') => (match x with | .nrm => execG M call fuel c2 A' σ' | x => some (x, A', σ'))) = some (e, A', σ') := h
    split at h
    · cases h
    · rename_i e1 A1 σ1 hr
      refine wp_seq (ih1 _ hok.1 hr F L R K hN ?_)
      intro ds1 ι1 a1 w1 F1 R1 G1 K1
      cases e1 with
      | nrm => exact ih2 _ hok.2 h F1 (L.mono G1.ext) R1 K1 (Nat.le_trans hN G1.size) (fun ds2 ι2 a2 w2 F2 R2 G2 K2 => hQ ds2 ι2 a2 w2 F2 R2 (G1.trans G1.nx G2) K2)
      | ext i => cases h; exact hQ ds1 ι1 a1 w1 F1 R1 G1 K1
      | ret => cases h; exact hQ ds1 ι1 a1 w1 F1 R1 G1 K1
  | bk i c ih =>
    intro x ds ι A A' a σ σ' w e Q hok h F L R K hN hQ
    cases x <;> simp only [okG, Bool.false_eq_true, Bool.and_eq_true, beq_iff_eq] at hok
    obtain ⟨rfl, hok⟩ := hok
    have h : (match execG M call fuel c A σ with | none => none | some (x, A', σ') => (match x with | .ext j => (match Nat.beq j i with | true => some (XE.nrm, A', σ') | false => some (.ext j, A', σ')) | x => some (x, A', σ'))) = some (e, A', σ') := h
    split at h
    · cases h
    · rename_i e1 A1 σ1 hr
      refine wp_block (ih _ hok hr F L R K hN ?_)
      intro ds1 ι1 a1 w1 F1 R1 G1 K1
      cases e1 with
      | nrm => cases h; exact hQ ds1 ι1 a1 w1 F1 R1 G1 K1
      | ext j =>
        simp only [XQ, Exit.inBlock]
        have h : (match Nat.beq j i with | true => some (XE.nrm, A1, σ1) | false => some (.ext j, A1, σ1)) = some (e, A', σ') := h
        split at h
        · rename_i hj
          have := Nat.eq_of_beq_eq_true hj
          cases h
          rw [if_pos this]
          exact hQ ds1 ι1 a1 w1 F1 R1 G1 K1
        · rename_i hj
          have : ¬ j = i := fun h => by rw [h] at hj; simp at hj
          cases h
          rw [if_neg this]
          exact hQ ds1 ι1 a1 w1 F1 R1 G1 K1
      | ret => cases h; exact hQ ds1 ι1 a1 w1 F1 R1 G1 K1
  | rg g =>
    intro x ds ι A A' a σ σ' w e Q hok h F L R K hN hQ
    cases x <;> simp only [okG, Bool.false_eq_true] at hok
    rename_i z ps asg body
    have h : (match ev A g with
      | .fn f [] y => (match call (natPos f) (.u :: y) σ with | some (_, σ') => some (XE.nrm, A, σ') | none => none)
      | _ => none) = some (e, A', σ') := h
    split at h
    · rename_i f y hv
      split at h
      · rename_i v1 σ1 hcall
        cases h
        obtain ⟨a1, b1, e1, e2, e3⟩ := (ev_as F L hok hv).fn_inv
        have ha1 : a1 = #[] := by
          have := e2.1
          simp at this
          exact Array.eq_empty_of_size_eq_zero this.symm
        subst ha1
        obtain ⟨⟨fn0, k1, k2, k3⟩, k4⟩ := hc _ _ _ _ _ hcall
        rw [natPos_nat] at k1 k4
        simp only [Nat.add_sub_cancel] at k1 k4
        refine (wpIn_wide (n := 1)).1 (wpIn_outer_rg rfl ?_)
        intro fn hfn W1 r hW1 hr1 hr2
        have hb1 : Below w.heap.size w W1 := by rw [hW1]; exact ((Below.refl _ w).alloc (Nat.le_refl _) _).alloc (by simp) _
        have hl1 : W1.heap[w.heap.size + 1]? = some (.loop r) := by
          rw [hW1]
          have := World.alloc_heap_new (w.alloc (.deferred (some []))) (.loop r)
          rw [World.size_alloc] at this
          exact this
        have hk1 : W1.heap[w.heap.size]? = some (.deferred (some [])) := by rw [hW1]; exact (Below.heap_alloc _ _ _ (by simp)).trans (World.alloc_heap_new w _)
        have hz1 : W1.heap.size = w.heap.size + 2 := by rw [hW1]; simp
        clear hW1
        have R1 : Rep ι σ W1 := R.stays hb1.block
        have G1 : G σ.nx.nat ι σ w ι σ W1 := ⟨.refl ι, fun _ _ => rfl, Nat.le_refl _, hb1.size, hb1.os, hb1.tape, hb1.output, fun r hr _ => hb1.block r hr, fun _ _ h => h, fun x y h1 h2 => by rw [h2] at h1; cases h1⟩
        have hun : ∀ p pl, ι p = some pl → pl.blk < w.heap.size := fun p pl hp => (R.pl p pl hp).lt
        refine ⟨{ target := .fn (.func f) b1, args := #[.func (.yield (w.heap.size + 1)) #[] #[]] }, f, #[.func (.yield (w.heap.size + 1)) #[] #[]] ++ b1, ?_, ?_, ?_, fun _ => Nat.le_refl _, ?_⟩
        · simp only [resolve, e1]
          simp [go_sem]
        · intro f' hf'; trivial
        · simp [invoke, go_sem, run_callFunc k1 k2 k3]
        · refine callsIn_wide.2 ?_
          refine (k4 ι W1 _ L R1 ?_).mono ?_
          · simpa using VRs.cons (.u (Value.func (.yield (w.heap.size + 1)) #[] #[])) e3
          · rintro e2 W2 ⟨ι2, v2, rfl, q1, q2, q3⟩
            have hnl : ¬ Img ι σ (w.heap.size + 1) := fun ⟨p, o, pl, _, _, m1, m2⟩ => by have := hun p pl m1; omega
            have hnk : ¬ Img ι σ w.heap.size := fun ⟨p, o, pl, _, _, m1, m2⟩ => by have := hun p pl m1; omega
            have hl2 := (q3.keep _ (by omega) hnl).trans hl1
            have hk2 := (q3.keep _ (by omega) hnk).trans hk1
            have hu2 : ∀ D, w.heap.size ≤ D → D < w.heap.size + 2 → ∀ p pl, ι2 p = some pl → pl.blk ≠ D := fun D h1 h2 p pl hp e => by
              cases hq : ι p with
              | some pl' =>
                have := q3.ext p pl' hq
                rw [hp] at this; cases this
                have := hun p pl hq; omega
              | none =>
                obtain ⟨p', o, pl', _, _, m1, m2⟩ := q3.new p pl hp hq (by omega)
                have := hun p' pl' m1; omega
            have hend := run_endLoop (P := P) hl2 (by rw [hr1]; simp)
            obtain ⟨W3, hW3⟩ : ∃ W3, W2.putObj (w.heap.size + 1) (.loop { r with state := .exhausted }) = W3 := ⟨_, rfl⟩
            rw [hW3, hr2] at hend
            refine ⟨none, W3, hend, ?_⟩
            have hoth : ∀ r, r ≠ w.heap.size + 1 → W3.heap[r]? = W2.heap[r]? := fun r hr => by rw [← hW3]; exact World.putObj_heap_other hr
            have R3 : Rep ι2 σ' W3 := q2.other (hu2 _ (by omega) (by omega)) hoth
            have hs3 : W3.heap.size = W2.heap.size := by rw [← hW3]; simp [World.putObj]
            have G3 : G σ.nx.nat ι σ w ι2 σ' W3 := by
              have g := G1.trans (Nat.le_refl _) q3
              refine ⟨g.ext, g.old, g.nx, by rw [hs3]; exact g.size, ?_, ?_, ?_, fun r hr hi => (hoth r (by omega)).trans (g.keep r hr hi), g.img, g.new⟩
              · rw [← hW3]; exact g.os
              · rw [← hW3]; exact g.tape
              · rw [← hW3]; exact g.out
            refine hQ _ ι2 _ W3 ⟨F.size, rfl, fun p v t h1 h2 => (F.at_ p v t h1 h2).mono q3.ext⟩ R3 G3 ⟨fun d hd => ?_, ?_⟩
            · rcases List.mem_cons.1 hd with rfl | hd
              · exact ⟨w.heap.size, rfl, hN, (hoth _ (by omega)).trans hk2, hu2 _ (Nat.le_refl _) (by omega)⟩
              · rw [F.defers] at hd
                exact (K.step G3).1 d hd
            · rw [F.defers]
              refine List.nodup_cons.2 ⟨fun hm => ?_, K.2⟩
              obtain ⟨D, m1, m2, m3, m4⟩ := K.1 _ hm
              have hlt : D < w.heap.size := (Array.getElem?_eq_some_iff.1 m3).1
              cases m1
              omega
      · cases h
    · cases h

/-- at the end the marks' blocks are shut -/
theorem leaves_marks {fn : Func} {tmps : Array Value} {R : Ending → World → Prop} {N n : Nat} {ι : Nm} {σ : St} {ι0 : Nm} {σ0 : St} {w0 : World} {K : Nat} (hNw : w0.heap.size ≤ N)
    (hfin : ∀ w, Rep ι σ w → G K ι0 σ0 w0 ι σ w → ∃ v, (results fn tmps).run P w = .ok v w ∧ R (.returned v) w) :
    ∀ (ds : List Deferred) (w : World), Mk N ds ι w → Rep ι σ w → G K ι0 σ0 w0 ι σ w → LeavesInM Fence.wide n P fn tmps R ds .returning w
  | [], w, _, hR, hG => hfin w hR hG
  | d :: ds, w, h, hR, hG => by
    obtain ⟨D, h1, h2, h3, h4⟩ := h.1 d (by simp)
    have hlt : D < w.heap.size := (Array.getElem?_eq_some_iff.1 h3).1
    refine ⟨by simp, .inl ⟨D, _, by rw [h1], run_takeDeferred h3, ?_⟩⟩
    have hoth : ∀ r, r ≠ D → (w.putObj D (.deferred none)).heap[r]? = w.heap[r]? := fun r hr => World.putObj_heap_other hr
    refine leaves_marks hNw hfin ds _ ⟨fun d' hd' => ?_, (List.nodup_cons.1 h.2).2⟩ (hR.other h4 hoth) ⟨hG.ext, hG.old, hG.nx, by simpa [World.putObj] using hG.size, hG.os, hG.tape, hG.out, fun r hr hi => (hoth r (by omega)).trans (hG.keep r hr hi), hG.img, hG.new⟩
    obtain ⟨D', k1, k2, k3, k4⟩ := h.1 d' (List.mem_cons_of_mem _ hd')
    refine ⟨D', k1, k2, (hoth D' (fun e => ?_)).trans k3, k4⟩
    subst e
    rw [← h1] at k1
    exact (List.nodup_cons.1 h.2).1 (k1 ▸ hd')

/-- a function of such code, as a contract -/
noncomputable def runG (M : Mach) (call : Pos → List V → St → Option (V × St)) (fuel nt : Nat) (b : IG) (res : List RV) (vs : List V) (σ : St) : Option (V × St) := match Nat.ble (llen vs) nt with
  | false => none
  | true => (match execG M call fuel b (frameOf vs .H .nil) σ with
    | none => none
    | some (x, A, σ') => (match x with
      | .ext _ => none
      | _ => (match resF res A σ' with | some l => some (one l, σ') | none => none)))
theorem runG_sound {E : Env P} {M : Mach} (hpt : M.pt = E.pt) (hmt : MtOk P M.mt) {call : Pos → List V → St → Option (V × St)} (hc : CallOK P E.ng call) {okD : Nat → List RO → Array Oper → Bool} {f : FuncId} {fn : Func} {c : Code} {b : IG} {res : List RV}
    (h1 : P.funcs[f]? = some fn) (h2 : fn.body = some c) (hD : RgdSound P E M fn.ntmps okD) (h5 : okG E fn.ntmps okD b c = true) (h6 : okRVs E res fn.results.toList = true) {fuel : Nat} {vs : List V} {σ : St} {v : V} {σ' : St} (h : runG M call fuel fn.ntmps b res vs σ = some (v, σ'))
    {ι : Nm} {w : World} {args : Array Value} (L : Gl E.ng ι) (R : Rep ι σ w) (hv : VRs ι vs args.toList) : Calls P f args w (Post ι σ w v σ') := by
  unfold runG at h
  split at h
  · cases h
  · rename_i hle
    have hle := ble_le hle
    rw [llen_eq] at hle
    split at h
    · cases h
    · rename_i x A σ1 hx
      refine (callsIn_wide (n := 1)).1 (callsIn_of_wp_marks h1 h2 trivial (wpIn_wide.2 ?_))
      refine execG_sound hpt hmt hc hD fuel w.heap.size b c h5 hx (FR.enter hv hle) L R ⟨fun d hd => by simp at hd, List.nodup_nil⟩ (Nat.le_refl _) ?_
      intro ds1 ι1 a1 w1 F1 R1 G1 K1
      have fin : ∀ l, resF res A σ1 = some l → some (one l, σ1) = some (v, σ') → LeavesInM Fence.wide 1 P fn a1.tmps (Post ι σ w v σ') a1.defers .returning w1 := by
        intro l hl he
        cases he
        rw [F1.defers]
        refine leaves_marks (ι := ι1) (σ := σ') (Nat.le_refl _) (fun w2 R2 G2 => ?_) ds1 w1 K1 R1 G1
        obtain ⟨v', r1, r2⟩ := results_sound F1 (L.mono G2.ext) R2 h6 hl
        exact ⟨v', r1, ι1, v', rfl, r2, R2, G2⟩
      cases x with
      | ext i => cases h
      | nrm =>
        simp only at h
        split at h
        · rename_i l hl; exact fin l hl h
        · cases h
      | ret =>
        simp only at h
        split at h
        · rename_i l hl; exact fin l hl h
        · cases h
end
end Go.Proofs.YtcecdaeceipbnaaGreatDoor

/-
  SHA-256, as the machine's numbers go: one block, all of it on natural numbers. (Of no program.)
-/
namespace Go.Proofs.YtcecdaeceipbnaaGreatDoor
set_option linter.unusedVariables false
open Go

abbrev m32 : Nat := 4294967296
def uadd (a b : Nat) : Nat := toU 4294967296 (Int.add (.ofNat a) (.ofNat b))
def uxor (a b : Nat) : Nat := toU 4294967296 (.ofNat (Nat.xor (toU 4294967296 (.ofNat a)) (toU 4294967296 (.ofNat b))))
def uand (a b : Nat) : Nat := toU 4294967296 (.ofNat (Nat.land (toU 4294967296 (.ofNat a)) (toU 4294967296 (.ofNat b))))
def uor (a b : Nat) : Nat := toU 4294967296 (.ofNat (Nat.lor (toU 4294967296 (.ofNat a)) (toU 4294967296 (.ofNat b))))
def uinv (a : Nat) : Nat := toU 4294967296 (.ofNat (Nat.xor 4294967295 (toU 4294967296 (.ofNat a))))
/-- by a power of two -/
def ushl (a p : Nat) : Nat := toU 4294967296 (Int.mul (.ofNat a) (.ofNat p))
def ushr (a p : Nat) : Nat := toU 4294967296 (Int.fdiv (.ofNat a) (.ofNat p))
def ucvt (a : Nat) : Nat := toU 4294967296 (.ofNat a)
/-- turned right: 2 to the places, and 2 to 32 less them -/
def rotD (x p q : Nat) : Nat := uor (ushl x q) (ushr x p)
def rotR (x p q : Nat) : Nat := uor (ushr x p) (ushl x q)
theorem m32_pos : 0 < m32 := by decide
theorem toU_nat (n : Nat) : toU m32 (.ofNat n) = n % m32 := rfl
theorem uor_comm (a b : Nat) : uor a b = uor b a := by
  unfold uor
  have : ∀ x y : Nat, Nat.lor x y = Nat.lor y x := fun x y => Nat.or_comm x y
  rw [this]
theorem rot_eq (x p q : Nat) : rotR x p q = rotD x p q := uor_comm _ _
theorem uadd_eq (a b : Nat) : uadd a b = (a + b) % m32 := rfl
theorem uadd_comm4 (a b c d : Nat) : uadd (uadd (uadd a b) c) d = uadd (uadd (uadd d c) b) a := by
  simp only [uadd_eq]
  show ((((a + b) % 4294967296 + c) % 4294967296) + d) % 4294967296 = ((((d + c) % 4294967296 + b) % 4294967296) + a) % 4294967296
  omega

/-! the words of a block -/
def be (B : Nat → Nat) (t : Nat) : Nat := uor (uor (uor (ushl (ucvt (B (4 * t))) 16777216) (ushl (ucvt (B (4 * t + 1))) 65536)) (ushl (ucvt (B (4 * t + 2))) 256)) (ucvt (B (4 * t + 3)))
def sg0 (y : Nat) : Nat := uxor (uxor (rotD y 128 33554432) (rotD y 262144 16384)) (ushr y 8)
def sg1 (x : Nat) : Nat := uxor (uxor (rotD x 131072 32768) (rotD x 524288 8192)) (ushr x 1024)
def wnext (w2 w7 w15 w16 : Nat) : Nat := uadd (uadd (uadd (sg1 w2) w7) (sg0 w15)) w16
/-! a definition that stands above all arithmetic: the kernel opens first what names it -/
def tall0 : Nat := 0
def tall1 : Nat := tall0
def tall2 : Nat := tall1
def tall3 : Nat := tall2
def tall4 : Nat := tall3
def tall5 : Nat := tall4
def tall6 : Nat := tall5
def tall7 : Nat := tall6
def tall8 : Nat := tall7
def tall9 : Nat := tall8
def tall10 : Nat := tall9
def tall11 : Nat := tall10
def tall12 : Nat := tall11
def tall13 : Nat := tall12
def tall14 : Nat := tall13
def tall15 : Nat := tall14
def tall16 : Nat := tall15
def tall17 : Nat := tall16
def tall18 : Nat := tall17
def tall19 : Nat := tall18
def tall20 : Nat := tall19
def tall21 : Nat := tall20
def tall22 : Nat := tall21
def tall23 : Nat := tall22
def tall24 : Nat := tall23
def tall25 : Nat := tall24
def tall26 : Nat := tall25
def tall27 : Nat := tall26
def tall28 : Nat := tall27
def tall29 : Nat := tall28
def tall30 : Nat := tall29
def tall31 : Nat := tall30
def tall32 : Nat := tall31
def tall33 : Nat := tall32
def tall34 : Nat := tall33
def tall35 : Nat := tall34
def tall36 : Nat := tall35
def tall37 : Nat := tall36
def tall38 : Nat := tall37
def tall39 : Nat := tall38
def tall40 : Nat := tall39
def tall41 : Nat := tall40
def tall42 : Nat := tall41
def tall43 : Nat := tall42
def tall44 : Nat := tall43
def tall45 : Nat := tall44
def tall46 : Nat := tall45
def tall47 : Nat := tall46
def tall48 : Nat := tall47
def tall49 : Nat := tall48
def tall50 : Nat := tall49
def tall51 : Nat := tall50
def tall52 : Nat := tall51
def tall53 : Nat := tall52
def tall54 : Nat := tall53
def tall55 : Nat := tall54
def tall56 : Nat := tall55
def tall57 : Nat := tall56
def tall58 : Nat := tall57
def tall59 : Nat := tall58
def tall60 : Nat := tall59
noncomputable def getN (l : List Nat) (k : Nat) : Nat := (fun _ : Nat => Option.rec (motive := fun _ => Nat) 0 (fun n => n) (lget l k)) tall60
theorem getN_zero (x : Nat) (l : List Nat) : getN (x :: l) 0 = x := rfl
theorem getN_succ (x : Nat) (l : List Nat) (k : Nat) : getN (x :: l) (k + 1) = getN l k := rfl
/-- the words up to one, the last first -/
noncomputable def accW (B : Nat → Nat) (t : Nat) : List Nat := Nat.rec (motive := fun _ => List Nat) [] (fun t l => Bool.rec (motive := fun _ => Nat) (wnext (getN l 1) (getN l 6) (getN l 14) (getN l 15)) (be B t) (Nat.blt t 16) :: l) t
/-- they, place by place -/
noncomputable def wAt (B : Nat → Nat) (t i : Nat) : Nat := (fun _ : Nat => Bool.rec (motive := fun _ => Nat) 0 (getN (accW B t) (Nat.sub (Nat.sub t 1) i)) (Nat.blt i t)) tall60
noncomputable def upN (W : Nat → Nat) (t v : Nat) : Nat → Nat := fun i => (fun _ : Nat => Bool.rec (motive := fun _ => Nat) (W i) v (Nat.beq i t)) tall60
theorem accW_succ (B : Nat → Nat) (t : Nat) : accW B (t + 1) = Bool.rec (motive := fun _ => Nat) (wnext (getN (accW B t) 1) (getN (accW B t) 6) (getN (accW B t) 14) (getN (accW B t) 15)) (be B t) (Nat.blt t 16) :: accW B t := rfl
theorem wAt_succ (B : Nat → Nat) (t : Nat) {v : Nat} (hv : v = Bool.rec (motive := fun _ => Nat) (wnext (wAt B t (t - 2)) (wAt B t (t - 7)) (wAt B t (t - 15)) (wAt B t (t - 16))) (be B t) (Nat.blt t 16)) : upN (wAt B t) t v = wAt B (t + 1) := by
  funext i
  unfold upN
  by_cases hi : i = t
  · have h1 : Nat.beq i t = true := by rw [nbeq_eq]; simp [hi]
    simp only [h1]
    unfold wAt
    have h2 : Nat.blt i (t + 1) = true := by rw [blt_eq]; simp [hi]
    simp only [h2]
    have h3 : Nat.sub (Nat.sub (t + 1) 1) i = 0 := by show t + 1 - 1 - i = 0; omega
    rw [h3, accW_succ, getN_zero, hv]
    by_cases ht : t < 16
    · have h4 : Nat.blt t 16 = true := by rw [blt_eq]; simp [ht]
      simp only [h4]
    · have h4 : Nat.blt t 16 = false := by rw [blt_eq]; simp [ht]
      simp only [h4]
      have hw : ∀ k, 1 ≤ k → k ≤ 16 → wAt B t (t - k) = getN (accW B t) (k - 1) := fun k hk hk' => by
        unfold wAt
        have h5 : Nat.blt (t - k) t = true := by rw [blt_eq]; simp; omega
        simp only [h5]
        have h6 : Nat.sub (Nat.sub t 1) (t - k) = k - 1 := by show t - 1 - (t - k) = k - 1; omega
        rw [h6]
      rw [hw 2 (by omega) (by omega), hw 7 (by omega) (by omega), hw 15 (by omega) (by omega), hw 16 (by omega) (by omega)]
  · have h1 : Nat.beq i t = false := by rw [nbeq_eq]; simp [hi]
    simp only [h1]
    unfold wAt
    by_cases hlt : i < t
    · have h2 : Nat.blt i t = true := by rw [blt_eq]; simp [hlt]
      have h3 : Nat.blt i (t + 1) = true := by rw [blt_eq]; simp; omega
      simp only [h2, h3]
      have h4 : Nat.sub (Nat.sub (t + 1) 1) i = (Nat.sub (Nat.sub t 1) i) + 1 := by show t + 1 - 1 - i = t - 1 - i + 1; omega
      rw [h4, accW_succ, getN_succ]
    · have h2 : Nat.blt i t = false := by rw [blt_eq]; simp [hlt]
      have h3 : Nat.blt i (t + 1) = false := by rw [blt_eq]; simp; omega
      simp only [h2, h3]

/-! the rounds -/
structure H8 where
  a : Nat
  b : Nat
  c : Nat
  d : Nat
  e : Nat
  f : Nat
  g : Nat
  h : Nat
def ep1 (e : Nat) : Nat := uxor (uxor (rotD e 64 67108864) (rotD e 2048 2097152)) (rotD e 33554432 128)
def ep0 (a : Nat) : Nat := uxor (uxor (rotD a 4 1073741824) (rotD a 8192 524288)) (rotD a 4194304 1024)
def chF (e f g : Nat) : Nat := uxor (uand e f) (uand (uinv e) g)
def mjF (a b c : Nat) : Nat := uxor (uxor (uand a b) (uand a c)) (uand b c)
def t1F (x : H8) (k w : Nat) : Nat := uadd (uadd (uadd (uadd x.h (ep1 x.e)) (chF x.e x.f x.g)) k) w
def t2F (x : H8) : Nat := uadd (ep0 x.a) (mjF x.a x.b x.c)
def rnd (k w : Nat) (x : H8) : H8 := ⟨uadd (t1F x k w) (t2F x), x.a, x.b, x.c, uadd x.d (t1F x k w), x.e, x.f, x.g⟩
def kW : List Nat := [1116352408, 1899447441, 3049323471, 3921009573, 961987163, 1508970993, 2453635748, 2870763221, 3624381080, 310598401, 607225278, 1426881987, 1925078388, 2162078206, 2614888103, 3248222580, 3835390401, 4022224774, 264347078, 604807628, 770255983, 1249150122, 1555081692, 1996064986, 2554220882, 2821834349, 2952996808, 3210313671, 3336571891, 3584528711, 113926993, 338241895, 666307205, 773529912, 1294757372, 1396182291, 1695183700, 1986661051, 2177026350, 2456956037, 2730485921, 2820302411, 3259730800, 3345764771, 3516065817, 3600352804, 4094571909, 275423344, 430227734, 506948616, 659060556, 883997877, 958139571, 1322822218, 1537002063, 1747873779, 1955562222, 2024104815, 2227730452, 2361852424, 2428436474, 2756734187, 3204031479, 3329325298]
noncomputable def rnds (W : Nat → Nat) (x : H8) (t : Nat) : H8 := Nat.rec (motive := fun _ => H8) x (fun t y => rnd (getN kW t) (W t) y) t
theorem rnds_succ (W : Nat → Nat) (x : H8) (t : Nat) : rnds W x (t + 1) = rnd (getN kW t) (W t) (rnds W x t) := rfl
def addH (s x : H8) : H8 := ⟨uadd s.a x.a, uadd s.b x.b, uadd s.c x.c, uadd s.d x.d, uadd s.e x.e, uadd s.f x.f, uadd s.g x.g, uadd s.h x.h⟩
/-- a block mixed into the eight words -/
noncomputable def mixF (s : H8) (B : Nat → Nat) : H8 := addH s (rnds (wAt B 64) s 64)

/-! what the kernel reckons -/
def strN {α : Type} (n : Nat) (k : Nat → α) : α := Nat.rec (motive := fun _ => α) (k 0) (fun m _ => k (Nat.succ m)) n
theorem strN_eq {α : Type} (n : Nat) (k : Nat → α) : strN n k = k n := by cases n <;> rfl
/-- the words, reckoned one by one: so many more, behind so many -/
noncomputable def valW (B : Nat → Nat) (t : Nat) (l : List Nat) : Nat := Bool.rec (motive := fun _ => Nat) (wnext (getN l 1) (getN l 6) (getN l 14) (getN l 15)) (be B t) (Nat.blt t 16)
noncomputable def accQ (B : Nat → Nat) (n : Nat) : Nat → List Nat → List Nat := Nat.rec (motive := fun _ => Nat → List Nat → List Nat) (fun _ l => l) (fun _ ih t l => strN (valW B t l) fun v => ih (Nat.add t 1) (v :: l)) n
theorem accQ_eq (B : Nat → Nat) : ∀ n t, accQ B n t (accW B t) = accW B (t + n)
  | 0, t => rfl
  | n + 1, t => by
    have e : accQ B (n + 1) t (accW B t) = strN (valW B t (accW B t)) fun v => accQ B n (Nat.add t 1) (v :: accW B t) := rfl
    have e2 : valW B t (accW B t) :: accW B t = accW B (t + 1) := (accW_succ B t).symm
    rw [e, strN_eq, e2]
    have := accQ_eq B n (t + 1)
    show accQ B n (t + 1) _ = _
    rw [this]
    congr 1; omega
noncomputable def lrev (l : List Nat) : List Nat → List Nat := List.rec (motive := fun _ => List Nat → List Nat) (fun r => r) (fun x _ ih r => ih (x :: r)) l
theorem lrev_eq : ∀ l r, lrev l r = l.reverse ++ r
  | [], r => rfl
  | x :: l, r => by
    show lrev l (x :: r) = _
    rw [lrev_eq l (x :: r)]; simp
theorem accW_length (B : Nat → Nat) : ∀ t, (accW B t).length = t
  | 0 => rfl
  | t + 1 => by rw [accW_succ, List.length_cons, accW_length B t]
def rndQ {α : Type} (k w : Nat) (x : H8) (K : H8 → α) : α := strN (t1F x k w) fun t1 => strN (uadd t1 (t2F x)) fun a => strN (uadd x.d t1) fun e => K ⟨a, x.a, x.b, x.c, e, x.e, x.f, x.g⟩
theorem rndQ_eq {α : Type} (k w : Nat) (x : H8) (K : H8 → α) : rndQ k w x K = K (rnd k w x) := by simp only [rndQ, strN_eq]; rfl
noncomputable def rndsQ (ks : List Nat) : List Nat → H8 → H8 := List.rec (motive := fun _ => List Nat → H8 → H8) (fun _ x => x) (fun k _ ih ws x => match ws with | [] => x | w :: ws => rndQ k w x fun y => ih ws y) ks
theorem rndsQ_eq (W : Nat → Nat) (x : H8) : ∀ (ks ws : List Nat) (i : Nat), ks.length = ws.length → (∀ j k, ks[j]? = some k → k = getN kW (i + j)) → (∀ j w, ws[j]? = some w → w = W (i + j)) → rndsQ ks ws (rnds W x i) = rnds W x (i + ks.length)
  | [], ws, i, _, _, _ => rfl
  | k :: ks, [], i, h, _, _ => by cases h
  | k :: ks, w :: ws, i, h, hk, hw => by
    have e : rndsQ (k :: ks) (w :: ws) (rnds W x i) = rndQ k w (rnds W x i) fun y => rndsQ ks ws y := rfl
    have ek := hk 0 k rfl
    have ew := hw 0 w rfl
    rw [e, rndQ_eq, ek, ew]
    show rndsQ ks ws (rnds W x (i + 1)) = _
    rw [rndsQ_eq W x ks ws (i + 1) (by simpa using h) (fun j k h1 => by rw [hk (j + 1) k (by simpa using h1)]; congr 1; omega) (fun j w h1 => by rw [hw (j + 1) w (by simpa using h1)]; congr 1; omega)]
    congr 1
    simp; omega
def strH {α : Type} (x : H8) (k : H8 → α) : α := strN x.a fun a => strN x.b fun b => strN x.c fun c => strN x.d fun d => strN x.e fun e => strN x.f fun f => strN x.g fun g => strN x.h fun h => k ⟨a, b, c, d, e, f, g, h⟩
theorem strH_eq {α : Type} (x : H8) (k : H8 → α) : strH x k = k x := by simp only [strH, strN_eq]
theorem getN_eq {l : List Nat} {i n : Nat} (h : l[i]? = some n) : getN l i = n := by
  unfold getN
  rw [lget_eq, h]
noncomputable def mixQ {α : Type} (s : H8) (B : Nat → Nat) (K : H8 → α) : α := strH (addH s (rndsQ kW (lrev (accQ B 64 0 []) []) s)) K
theorem mixQ_eq {α : Type} (s : H8) (B : Nat → Nat) (K : H8 → α) : mixQ s B K = K (mixF s B) := by
  unfold mixQ mixF
  rw [strH_eq]
  have h1 : accQ B 64 0 [] = accW B 64 := by
    have := accQ_eq B 64 0
    rw [Nat.zero_add] at this
    exact this
  rw [h1, lrev_eq, List.append_nil]
  have hlen : (accW B 64).length = 64 := accW_length _ _
  have h2 := rndsQ_eq (wAt B 64) s kW (accW B 64).reverse 0 (by rw [List.length_reverse, hlen]; rfl) (fun j k h => by rw [Nat.zero_add]; exact (getN_eq h).symm) (fun j w h => by
    rw [Nat.zero_add]
    have hj : j < 64 := by
      have := (List.getElem?_eq_some_iff.1 h).1
      rw [List.length_reverse, hlen] at this; exact this
    unfold wAt
    have hb : Nat.blt j 64 = true := by rw [blt_eq]; simp [hj]
    simp only [hb]
    rw [List.getElem?_reverse (by rw [hlen]; exact hj), hlen] at h
    exact (getN_eq h).symm)
  have h3 : rnds (wAt B 64) s 0 = s := rfl
  rw [h3] at h2
  rw [h2]
  rfl

/-! the other text's words -/
def rg0 (y : Nat) : Nat := uxor (uxor (rotR y 128 33554432) (rotR y 262144 16384)) (ushr y 8)
def rg1 (x : Nat) : Nat := uxor (uxor (rotR x 131072 32768) (rotR x 524288 8192)) (ushr x 1024)
def rnext (w2 w7 w15 w16 : Nat) : Nat := uadd (uadd (uadd w16 (rg0 w15)) w7) (rg1 w2)
theorem rnext_eq (w2 w7 w15 w16 : Nat) : rnext w2 w7 w15 w16 = wnext w2 w7 w15 w16 := by
  unfold rnext wnext rg0 rg1 sg0 sg1
  simp only [rot_eq]
  exact uadd_comm4 _ _ _ _
def rp1 (e : Nat) : Nat := uxor (uxor (rotR e 64 67108864) (rotR e 2048 2097152)) (rotR e 33554432 128)
def rp0 (a : Nat) : Nat := uxor (uxor (rotR a 4 1073741824) (rotR a 8192 524288)) (rotR a 4194304 1024)
def t1R (x : H8) (k w : Nat) : Nat := uadd (uadd (uadd (uadd x.h (rp1 x.e)) (chF x.e x.f x.g)) k) w
def t2R (x : H8) : Nat := uadd (rp0 x.a) (mjF x.a x.b x.c)
def rndR (k w : Nat) (x : H8) : H8 := ⟨uadd (t1R x k w) (t2R x), x.a, x.b, x.c, uadd x.d (t1R x k w), x.e, x.f, x.g⟩
theorem rndR_eq (k w : Nat) (x : H8) : rndR k w x = rnd k w x := by
  unfold rndR rnd t1R t2R t1F t2F rp1 rp0 ep1 ep0
  simp only [rot_eq]

/-! a row of bytes -/
def ub (x p : Nat) : Nat := toU 256 (.ofNat (ushr x p))
noncomputable def out4 (x : Nat) (l : List Nat) : List Nat := ub x 16777216 :: ub x 65536 :: ub x 256 :: ub x 1 :: l
noncomputable def outL (x : H8) : List Nat := H8.rec (motive := fun _ => List Nat) (fun a b c d e f g h => out4 a (out4 b (out4 c (out4 d (out4 e (out4 f (out4 g (out4 h [])))))))) x
noncomputable def iota (n : Nat) : Nat → List Nat := Nat.rec (motive := fun _ => Nat → List Nat) (fun _ => []) (fun _ ih i => i :: ih (Nat.add i 1)) n
noncomputable def zlist (n : Nat) (l : List Nat) : List Nat := Nat.rec (motive := fun _ => List Nat) l (fun _ ih => 0 :: ih) n
def lenB (n p : Nat) : Nat := Nat.mod (Nat.div (Nat.mul 8 n) p) 256
noncomputable def tailL (n : Nat) : List Nat := 128 :: zlist (Nat.mod (Nat.sub 119 (Nat.mod n 64)) 64) [0, 0, 0, 0, lenB n 16777216, lenB n 65536, lenB n 256, lenB n 1]
noncomputable def padL (n : Nat) (B : Nat → Nat) : List Nat := lapp (lmap B (iota n 0)) (tailL n)
noncomputable def padM (n : Nat) (B : Nat → Nat) (i : Nat) : Nat := (fun _ : Nat => getN (padL n B) i) tall60
def h8zero : H8 := ⟨1779033703, 3144134277, 1013904242, 2773480762, 1359893119, 2600822924, 528734635, 1541459225⟩
noncomputable def blkB (M : Nat → Nat) (j : Nat) : Nat → Nat := fun i => M (Nat.add (Nat.mul 64 j) i)
/-- the eight words behind so many blocks -/
noncomputable def hAt (M : Nat → Nat) (j : Nat) : H8 := Nat.rec (motive := fun _ => H8) h8zero (fun j h => mixF h (blkB M j)) j
noncomputable def hQ (M : Nat → Nat) (n : Nat) : Nat → H8 → List Nat := Nat.rec (motive := fun _ => Nat → H8 → List Nat) (fun _ h => outL h) (fun _ ih j h => mixQ h (blkB M j) fun y => ih (Nat.add j 1) y) n
theorem hQ_eq (M : Nat → Nat) : ∀ n j, hQ M n j (hAt M j) = outL (hAt M (j + n))
  | 0, j => rfl
  | n + 1, j => by
    have e : hQ M (n + 1) j (hAt M j) = mixQ (hAt M j) (blkB M j) fun y => hQ M n (Nat.add j 1) y := rfl
    rw [e, mixQ_eq]
    have := hQ_eq M n (j + 1)
    show hQ M n (j + 1) (hAt M (j + 1)) = _
    rw [this]
    congr 2; omega
/-- the digest of a row of n bytes, in so many blocks -/
noncomputable def shaF (n nb : Nat) (bl : List Nat) : List Nat := outL (hAt (padM n (getN bl)) nb)
noncomputable def forceL (l : List Nat) : List Nat := List.rec (motive := fun _ => List Nat) [] (fun x _ ih => strN x fun y => y :: ih) l
theorem forceL_eq : ∀ l, forceL l = l
  | [] => rfl
  | x :: l => by show (strN x fun y => y :: forceL l) = _; rw [strN_eq, forceL_eq l]
noncomputable def shaQ (n nb : Nat) (bl : List Nat) : List Nat := forceL (hQ (padM n (getN bl)) nb 0 h8zero)
theorem shaQ_eq (n nb : Nat) (bl : List Nat) : shaQ n nb bl = shaF n nb bl := by
  unfold shaQ shaF
  rw [forceL_eq]
  have := hQ_eq (padM n (getN bl)) nb 0
  rw [Nat.zero_add] at this
  exact this
theorem hAt_succ (M : Nat → Nat) (j : Nat) : hAt M (j + 1) = mixF (hAt M j) (blkB M j) := rfl
/-! a block's bytes alone count -/
theorem accW_ext {B B' : Nat → Nat} (h : ∀ i, i < 64 → B i = B' i) : ∀ t, accW B t = accW B' t
  | 0 => rfl
  | t + 1 => by
    rw [accW_succ, accW_succ, accW_ext h t]
    by_cases ht : t < 16
    · have hb : Nat.blt t 16 = true := by rw [blt_eq]; simp [ht]
      rw [hb]
      have : be B t = be B' t := by
        unfold be
        rw [h (4 * t) (by omega), h (4 * t + 1) (by omega), h (4 * t + 2) (by omega), h (4 * t + 3) (by omega)]
      show be B t :: accW B' t = be B' t :: accW B' t
      rw [this]
    · have hb : Nat.blt t 16 = false := by rw [blt_eq]; simp [ht]
      rw [hb]
theorem rnds_ext {W W' : Nat → Nat} (h : ∀ i, W i = W' i) (x : H8) : ∀ t, rnds W x t = rnds W' x t
  | 0 => rfl
  | t + 1 => by rw [rnds_succ, rnds_succ, rnds_ext h x t, h t]
theorem wAt_ext {B B' : Nat → Nat} (h : ∀ i, i < 64 → B i = B' i) (t i : Nat) : wAt B t i = wAt B' t i := by
  unfold wAt
  rw [accW_ext h t]
theorem mixF_ext {B B' : Nat → Nat} (h : ∀ i, i < 64 → B i = B' i) (s : H8) : mixF s B = mixF s B' := by
  show addH s (rnds (wAt B 64) s 64) = addH s (rnds (wAt B' 64) s 64)
  rw [rnds_ext (fun i => wAt_ext h 64 i) s 64]
noncomputable def blkL (L : List Nat) (j : Nat) : List Nat := ltake (ldrop L (Nat.mul 64 j)) 64
noncomputable def hDt (L : List Nat) (j : Nat) : H8 := Nat.rec (motive := fun _ => H8) h8zero (fun j h => mixF h (getN (blkL L j))) j
theorem getN_lget (l : List Nat) (i : Nat) : getN l i = (l[i]?).getD 0 := by
  unfold getN
  rw [lget_eq]
  cases l[i]? <;> rfl
theorem hDt_eq (n : Nat) (B : Nat → Nat) : ∀ j, hDt (padL n B) j = hAt (padM n B) j
  | 0 => rfl
  | j + 1 => by
    have e : hDt (padL n B) (j + 1) = mixF (hDt (padL n B) j) (getN (blkL (padL n B) j)) := rfl
    rw [e, hDt_eq n B j, hAt_succ]
    refine mixF_ext (fun i hi => ?_) _
    have e2 : blkB (padM n B) j i = getN (padL n B) (Nat.mul 64 j + i) := by unfold blkB padM; exact congrArg (getN (padL n B)) (show Nat.add (Nat.mul 64 j) i = Nat.mul 64 j + i from Nat.add_eq)
    rw [e2]
    unfold blkL
    rw [getN_lget, getN_lget, ltake_eq, ldrop_eq, List.getElem?_take, if_pos hi, List.getElem?_drop]
theorem iota_get : ∀ (n i j : Nat), j < n → (iota n i)[j]? = some (i + j)
  | 0, i, j, h => by omega
  | n + 1, i, 0, h => rfl
  | n + 1, i, j + 1, h => by
    show (iota n (Nat.add i 1))[j]? = _
    rw [iota_get n (Nat.add i 1) j (by omega)]
    congr 1
    show i + 1 + j = i + (j + 1)
    omega
theorem iota_len : ∀ n i, (iota n i).length = n
  | 0, i => rfl
  | n + 1, i => by show (iota n (Nat.add i 1)).length + 1 = n + 1; rw [iota_len n]
theorem bs_iota {bl : List Nat} {n : Nat} (h : bl.length = n) : bs bl = lmap (fun i => V.int .u8 (.ofNat (getN bl i))) (iota n 0) := by
  unfold bs
  rw [lmap_eq, lmap_eq]
  refine List.ext_getElem? (fun i => ?_)
  rw [List.getElem?_map, List.getElem?_map]
  by_cases hi : i < n
  · rw [iota_get n 0 i hi, List.getElem?_eq_getElem (by omega)]
    simp only [Option.map_some, Nat.zero_add]
    rw [getN_eq (List.getElem?_eq_getElem (by omega))]
  · have h1 : bl[i]? = none := List.getElem?_eq_none (by omega)
    have h2 : (iota n 0)[i]? = none := List.getElem?_eq_none (by rw [iota_len]; omega)
    rw [h1, h2]
    rfl
end Go.Proofs.YtcecdaeceipbnaaGreatDoor
