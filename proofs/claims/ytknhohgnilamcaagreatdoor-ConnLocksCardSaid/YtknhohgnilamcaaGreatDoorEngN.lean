/-
  The operations that write or make memory: the model does the same; entries, copies; all of them. (Of no program.)
-/
import Derived.Test.YtknhohgnilamcaaGreatDoorEngL
namespace Go.Proofs.YtknhohgnilamcaaGreatDoor
set_option linter.unusedVariables false
set_option linter.unusedSimpArgs false
set_option linter.unusedSectionVars false
open Go

theorem modify_same {α : Type} (a : Array α) (i : Nat) (f : α → α) (h : ∀ x, a[i]? = some x → f x = x) : a.modify i f = a := by
  apply Array.ext_getElem?
  intro j
  rw [Array.getElem?_modify]
  split
  · rename_i e; subst e
    cases hx : a[i]? with
    | none => rfl
    | some x => rw [Option.map_some, h x hx]
  · rfl
theorem bset_spec (b : Nat) (v : V) : ∀ (es es2 : List ME), bset b v es = some es2 → ∃ (i : Nat) (e : ME), es[i]? = some e ∧ e.b = b ∧ (∀ (j : Nat) (x : ME), j < i → es[j]? = some x → x.b ≠ b) ∧ es2 = es.set i ⟨e.k, v, e.b⟩
  | [], es2, h => by
    have e : bset b v [] = none := rfl
    rw [e] at h; cases h
  | e :: es, es2, h => by
    have e1 : bset b v (e :: es) = match Nat.beq e.b b with | true => some (⟨e.k, v, e.b⟩ :: es) | false => (match bset b v es with | some r => some (e :: r) | none => none) := rfl
    rw [e1, nbeq_eq] at h
    split at h
    · rename_i hb
      have hb : e.b = b := of_decide_eq_true hb
      cases h
      exact ⟨0, e, rfl, hb, (fun j x hj => absurd hj (Nat.not_lt_zero j)), rfl⟩
    · rename_i hb
      have hb : ¬ e.b = b := of_decide_eq_false hb
      split at h
      · rename_i r hr
        cases h
        obtain ⟨i, x, h1, h2, h3, h4⟩ := bset_spec b v es r hr
        refine ⟨i + 1, x, by simpa using h1, h2, fun j y hj hy => ?_, by rw [h4]; rfl⟩
        cases j with
        | zero => simp at hy; subst hy; exact hb
        | succ j => exact h3 j y (by omega) (by simpa using hy)
      · cases h
theorem MapR.setVal {ι : Nm} {ks : KSh} {es : List ME} {es' : Array MapEntry} (M : MapR ι ks es es') {v : V} {v' : Value} (vv : VR ι v v') {i : Nat} {e : ME} (h : es[i]? = some e) :
    MapR ι ks (es.set i ⟨e.k, v, e.b⟩) (es'.modify i fun e => { e with val := v' }) := by
  have hlt : i < es.length := (List.getElem?_eq_some_iff.1 h).1
  have hg : ∀ j : Nat, (es.set i ⟨e.k, v, e.b⟩)[j]? = if i = j then some ⟨e.k, v, e.b⟩ else es[j]? := fun j => by
    rw [List.getElem?_set]
    by_cases e1 : i = j
    · subst e1; simp [hlt]
    · simp [e1]
  refine ⟨by simp [M.len], fun j x y hx hy => ?_, fun j x hx => ?_, fun j l x y hx hy hxy => ?_⟩
  · rw [hg] at hx
    rw [Array.getElem?_modify] at hy
    split at hx
    · rename_i e1; subst e1
      cases hx
      rw [if_pos rfl] at hy
      obtain ⟨e', he'⟩ := M.other h
      rw [he'] at hy
      cases hy
      have := M.rel i e e' h he'
      exact ⟨this.1, vv, this.2.2⟩
    · rename_i e1
      rw [if_neg e1] at hy
      exact M.rel j x y hx hy
  · rw [hg] at hx
    split at hx
    · cases hx; exact M.sh i e h
    · exact M.sh j x hx
  · have key : ∀ (a : Nat) (z : ME), (es.set i ⟨e.k, v, e.b⟩)[a]? = some z → ∃ z0 : ME, es[a]? = some z0 ∧ z0.k = z.k := by
      intro a z hz
      rw [hg] at hz
      split at hz
      · rename_i e1; subst e1
        cases hz
        exact ⟨e, h, rfl⟩
      · exact ⟨z, hz, rfl⟩
    obtain ⟨x0, h1, h2⟩ := key j x hx
    obtain ⟨y0, h3, h4⟩ := key l y hy
    exact M.inj j l x0 y0 h1 h3 (by rw [h2, h4]; exact hxy)
theorem i64_has {n : Nat} (h : n ≤ 1152921504606846976) : IntKind.i64.has (n : Int) := by
  unfold IntKind.has IntKind.min IntKind.max
  simp only [IntKind.bits, IntKind.signed, if_true, p63]
  omega
section
variable {P : Program} {E : Env P}
theorem e_men (m k : Arg) (ks : KSh) (z : V) : ESound E (.men m k ks z) := by
  intro n ι A b σ σ' w o vv F L R hok h
  obtain ⟨d, op, ty, pos, af, g⟩ := o
  cases op <;> simp only [okE, Bool.false_eq_true, Bool.and_eq_true] at hok
  rename_i t m' k'
  obtain ⟨⟨h1, h2⟩, h3⟩ := hok
  split at h3
  · rename_i kt et hu
    simp only [Bool.and_eq_true] at h3
    have K := E.mgood _ (show (kt, ks) ∈ E.mk_ by simpa using h3.1)
    obtain ⟨zv, hz, hzv⟩ := zeroV_inv h3.2
    simp only [eev] at h
    split at h
    · rename_i hsh
      have vk := ev_sound F L h2
      have hs2 := keyShaped_sound hsh vk
      split at h
      · rename_i p hm
        split at h
        · rename_i es ck ks' hg
          split at h
          · rename_i hks
            have hks : ks' = ks := of_decide_eq_true hks
            subst hks
            split at h
            · rename_i hck
              have hck := i64_has (ble_le hck)
              obtain ⟨pl, k1, k2, k3⟩ := (ev_as F L h1 hm).map_inv
              obtain ⟨pl', es', j1, j2, j3, j4, j5, j6, j7⟩ := R.ob p _ hg
              rw [k1] at j1; cases j1
              have M : MapR ι ks' es es' := ⟨j4, j5, j6, j7⟩
              have hget : (getObj pl.blk).run P w = .ok (.map es' ck) w := by simp [getObj, Sem.run, j3]
              have hset : ∀ o : Obj, (setObj pl.blk o).run P w = .ok () { w with heap := w.heap.setIfInBounds pl.blk o } := fun o => by simp [setObj, Sem.run, j3]
              rcases M.find K hsh vk w with ⟨h5, h6, h7⟩ | ⟨i, e, e', h5, h6, h7, h8, h9, h10⟩
              · rw [h5] at h
                simp only [Option.some.injEq, Prod.mk.injEq] at h
                obtain ⟨rfl, rfl⟩ := h
                rw [lapp_eq]
                obtain ⟨q1, q2⟩ := R.setMapOb hg k1 (ck2 := ck + 1) (M.push hsh vk (hzv ι) h7 ck) (N := σ.nx.nat)
                refine ⟨ι, _, Or.inl ⟨.tuple #[zv, .int .i64 (ck : Int)], exv2 (s := Instr.mapEntry t (b.eval m') (b.eval k')) rfl ?_, .mk_tup (.cons (hzv ι) (.cons (.int _ _ hck) .nil))⟩, q1, q2⟩
                rw [k3]
                simp [Instr.mapEntry, run_underlying hu, hget, K.check w false _ hs2, h6, hz, hset, goInt]
              · rw [h5] at h
                simp only at h
                split at h
                · rename_i hb
                  have hb := i64_has (ble_le hb)
                  simp only [Option.some.injEq, Prod.mk.injEq] at h
                  obtain ⟨rfl, rfl⟩ := h
                  have hr := M.rel i e e' h6 h7
                  have hborn : e.b = e'.born := hr.2.2
                  refine ⟨ι, w, Or.inl ⟨.tuple #[e'.val, .int .i64 (e.b : Int)], exv2 (s := Instr.mapEntry t (b.eval m') (b.eval k')) rfl ?_, .mk_tup (.cons hr.2.1 (.cons (.int _ _ hb) .nil))⟩, R, G.refl _ _ _ _⟩
                  have hmod : es'.modify i (fun e => { e with key := b.eval k' }) = es' := modify_same _ _ _ fun x hx => by
                    rw [h7] at hx; cases hx
                    rw [← h9]
                  rw [k3]
                  simp [Instr.mapEntry, run_underlying hu, hget, K.check w false _ hs2, h10, h7, h9, K.stays w _ hs2, hset, goInt, hmod, setIf_same j3, hborn]
                · cases h
            · cases h
          · cases h
        · cases h
      · cases h
    · cases h
  · cases h3
theorem e_mes (m s v : Arg) : ESound E (.mes m s v) := by
  intro n ι A b σ σ' w o vv F L R hok h
  obtain ⟨d, op, ty, pos, af, g⟩ := o
  cases op <;> simp only [okE, Bool.false_eq_true, Bool.and_eq_true] at hok
  rename_i t m' s' v'
  obtain ⟨⟨h1, h2⟩, h3⟩ := hok
  simp only [eev] at h
  split at h
  · rename_i p hm
    split at h
    · rename_i es ck ks hg
      split at h
      · rename_i k bi hs
        split at h
        · rename_i bn hb
          have := natOf_inv hb
          subst this
          split at h
          · rename_i es2 hes2
            simp only [Option.some.injEq, Prod.mk.injEq] at h
            obtain ⟨rfl, rfl⟩ := h
            obtain ⟨pl, k1, k2, k3⟩ := (ev_as F L h1 hm).map_inv
            obtain ⟨k4, _⟩ := (ev_as F L h2 hs).int_inv
            obtain ⟨pl', es', j1, j2, j3, j4, j5, j6, j7⟩ := R.ob p _ hg
            rw [k1] at j1; cases j1
            have M : MapR ι ks es es' := ⟨j4, j5, j6, j7⟩
            have hget : (getObj pl.blk).run P w = .ok (.map es' ck) w := by simp [getObj, Sem.run, j3]
            have hset : ∀ o : Obj, (setObj pl.blk o).run P w = .ok () { w with heap := w.heap.setIfInBounds pl.blk o } := fun o => by simp [setObj, Sem.run, j3]
            obtain ⟨i, e, g1, g2, g3, rfl⟩ := bset_spec bn _ es es2 hes2
            obtain ⟨q1, q2⟩ := R.setMapOb hg k1 (ck2 := ck) (M.setVal (ev_sound F L h3) g1) (N := σ.nx.nat)
            have hfi : es'.findIdx? (fun e => (e.born : Int) == (bn : Int)) = some i := by
              have hlt : i < es.length := (List.getElem?_eq_some_iff.1 g1).1
              have hb : ∀ (j : Nat) (hj : j < es'.size), (es'[j].born : Nat) = (es[j]'(by rw [M.len]; exact hj)).b := fun j hj =>
                (M.rel j _ _ (by simp) (by simp [hj])).2.2.symm
              rw [Array.findIdx?_eq_some_iff_getElem]
              refine ⟨by rw [← M.len]; exact hlt, ?_, fun j hj => ?_⟩
              · have h6 : es[i] = e := (List.getElem?_eq_some_iff.1 g1).2
                rw [hb i (by rw [← M.len]; exact hlt), h6, g2]; simp
              · rw [hb j (by rw [← M.len]; omega)]
                have := g3 j (es[j]'(by omega)) hj (by simp)
                simp
                omega
            refine ⟨ι, _, Or.inr ⟨exu (s := Instr.entryStore t (b.eval m') (b.eval s') (b.eval v')) rfl ?_, rfl⟩, q1, q2⟩
            rw [k3, k4]
            simp only [Instr.entryStore, Sem.run_bind, hget, Result.andThen_ok, asInt, asIntOf, Sem.run_pure, hfi, hset]
          · cases h
        · cases h
      · cases h
    · cases h
  · cases h
theorem e_cpy (x y : Arg) (esz : Nat) : ESound E (.cpy x y esz) := by
  intro n ι A b σ σ' w o v F L R hok h
  obtain ⟨d, op, ty, pos, af, g⟩ := o
  cases op <;> simp only [okE, Bool.false_eq_true] at hok
  rename_i cc
  obtain ⟨cal, args, ats⟩ := cc
  split at hok
  · rename_i c' a1 a2 he
    cases he
    split at hok
    · rename_i d' s' t rest ha ht
      simp only [Bool.and_eq_true] at hok
      obtain ⟨⟨h1, h2⟩, h3⟩ := hok
      split at h3
      · rename_i e hu
        simp only [Bool.and_eq_true, decide_eq_true_eq] at h3
        obtain ⟨h4, h5⟩ := h3
        have h0 : ats[0]? = some t := by
          have : ats.toList[0]? = some t := by rw [ht]; rfl
          simpa using this
        simp only [eev] at h
        split at h
        · rename_i src hsrc
          obtain ⟨sa, sl, sc, l', e1, e2, e3, e4, e5, e6⟩ := sliceCells_sound R (ev_sound F L h2) hsrc
          split at h
          · rename_i p o len cap es hd
            split at h
            · rename_i hes
              have hes : es = esz := Nat.eq_of_beq_eq_true hes
              subst hes
              obtain ⟨pl, a, c, k1, k2, k3, k4, k5, k6, k7⟩ := (ev_as F L h1 hd).slice_inv
              have hlm : (sl.min len) * es = min (sl * es) (len * es) := by
                rcases Nat.le_total sl len with hh | hh
                · have : sl * es ≤ len * es := Nat.mul_le_mul_right _ hh
                  rw [Nat.min_eq_left this]
                  show min sl len * es = _
                  rw [Nat.min_eq_left hh]
                · have : len * es ≤ sl * es := Nat.mul_le_mul_right _ hh
                  rw [Nat.min_eq_right this]
                  show min sl len * es = _
                  rw [Nat.min_eq_right hh]
              have hfc : (Builtin.firstCells es (sl.min len) (.slice sa sl sc)).run P w = .ok (l'.take (len * es)).toArray w := by
                cases sa with
                | none =>
                  obtain ⟨rfl, rfl⟩ := e5 rfl
                  have : l' = [] := List.length_eq_zero_iff.1 (by rw [e3]; simp)
                  subst this
                  have := run_firstCells_none (P := P) w es 0 0 0
                  simpa using run_firstCells_none (P := P) w es (Nat.min 0 len) 0 0
                | some ad =>
                  have hlen : (l'.take (len * es)).length = (sl.min len) * es := by
                    rw [List.length_take, e3, hlm, Nat.min_comm]
                  refine run_firstCells_some w es (sl.min len) ad sl sc _ hlen ?_
                  intro j u hu
                  rw [List.getElem?_take] at hu
                  split at hu
                  · exact e4 ad rfl j u hu
                  · cases hu
              have hcell : ∀ (w' : World), (match (some a : Option Addr) with | some a => (storeCells a (l'.take (len * es))).run P w | none => .ok () w) = .ok () w' →
                  (Builtin.copy_ ats ty #[b.eval d', b.eval s']).run P w = .ok (goInt (sl.min len)) w' := by
                intro w' hst
                rw [k7, e1]
                simp only [Builtin.copy_, h0, List.getElem?_toArray, List.getElem?_cons_zero, List.getElem?_cons_succ, Sem.run_bind, run_underlying hu, Result.andThen_ok, Builtin.lenOf, Sem.run_pure, run_szB h4, hfc]
                simp only at hst
                rw [hst]
                simp only [Result.andThen_ok, Sem.run_pure]
              split at h
              · rename_i hnil
                split at h
                · rename_i v0 hv0
                  simp only [Option.some.injEq, Prod.mk.injEq] at h
                  obtain ⟨rfl, rfl⟩ := h
                  rw [ltake_eq] at hnil
                  have hlen0 : (l'.take (len * es)) = [] := by
                    have h6 := (e2.take (len * es)).1
                    have h7 : src.take (len * es) = [] := hnil
                    rw [h7] at h6
                    exact List.length_eq_zero_iff.1 h6.symm
                  have hmin : (sl.min len) = 0 := by
                    have h8 : (l'.take (len * es)).length = 0 := by rw [hlen0]; rfl
                    rw [List.length_take, e3] at h8
                    have h9 : min (sl * es) (len * es) = 0 := by omega
                    rw [← hlm] at h9
                    rcases Nat.mul_eq_zero.1 h9 with h10 | h10
                    · exact h10
                    · omega
                  have hrun := hcell w (by rw [hlen0]; rfl)
                  rw [hmin] at hrun
                  exact ⟨ι, w, Or.inl ⟨_, extwo (f := Builtin.copy_) (fun _ _ _ _ => rfl) ha hrun, VR.mkLen hv0⟩, R, G.refl _ _ _ _⟩
                · cases h
              · rename_i x1 r1 hcons
                split at h
                · rename_i hpl
                  split at h
                  · rename_i l kin fz ro hg
                    split at h
                    · rename_i hw
                      obtain ⟨rfl, rfl, hle⟩ := wr_inv hw
                      have hle := ble_le hle
                      rw [llen_eq, llen_eq] at hle
                      split at h
                      · rename_i ps os len2 caps ess hsl
                        split at h
                        · rename_i v0 hv0
                          simp only [Option.some.injEq, Prod.mk.injEq] at h
                          obtain ⟨rfl, rfl⟩ := h
                          rw [hsl] at e6
                          simp only [lenOfV] at e6
                          subst e6
                          rw [ltake_eq] at hcons
                          have hv := e2.take (len * es)
                          have hcons' : src.take (len * es) = x1 :: r1 := hcons
                          rw [hcons'] at hv
                          have hlen1 := hv.1
                          have hle : o + (x1 :: r1).length ≤ l.length := hle
                          obtain ⟨pl0, c0, e0, g1, g2, g3, g4, g5, g6⟩ := R.ob p _ hg
                          rw [k1] at g1; cases g1
                          have hc0 : c ≠ 0 := by
                            intro hc0
                            have : len = 0 := by omega
                            subst this
                            have h6 : src.take (0 * es) = [] := by simp
                            rw [h6] at hcons'; cases hcons'
                          have k5 := k5 hc0
                          subst k5
                          obtain ⟨q1, q2⟩ := R.put (N := σ.nx.nat) hg k1 (o := o) hv hle
                          have hst := run_storeCells (P := P) (b := pl.blk) (e := e0) (l'.take (len * es)) w c0 (pl.st + o) 0 (plain_flat hpl hv).1 g3 (by omega)
                          rw [Nat.add_zero] at hst
                          refine ⟨ι, _, Or.inl ⟨_, extwo (f := Builtin.copy_) (fun _ _ _ _ => rfl) ha (hcell _ hst), VR.mkLen hv0⟩, q1, q2⟩
                        · cases h
                      · cases h
                    · cases h
                  · cases h
                · cases h
            · cases h
          · cases h
        · cases h
      · cases h3
    · cases hok
  · cases hok
/-- all of them -/
theorem e_sound (e : EOp) : ESound E e := by
  cases e with
  | st a x n => exact e_st a x n
  | alo z => exact late_sound (l_alo z)
  | box a n => exact late_sound (l_box a n)
  | bsl z ps len esz => exact late_sound (l_bsl z ps len esz)
  | mkm ks => exact e_mkm ks
  | mks len cap z esz bts => exact e_mks len cap z esz bts
  | app s x esz bts str => exact e_app s x esz bts str
  | cpy d s esz => exact e_cpy d s esz
  | mup m k v ks => exact e_mup m k v ks
  | mdl m k ks => exact e_mdl m k ks
  | men m k ks z => exact e_men m k ks z
  | mes m s v => exact e_mes m s v
end
end Go.Proofs.YtknhohgnilamcaaGreatDoor
