/-
  The operations that write or make memory: the model does the same; keys laid, deleted, entered; copies; all of them. (Of no program.)
-/
import Derived.Test.YtknhohgnilamcaaGreatDoorEngJ
namespace Go.Proofs.YtknhohgnilamcaaGreatDoor
set_option linter.unusedVariables false
set_option linter.unusedSimpArgs false
set_option linter.unusedSectionVars false
open Go

theorem mset_get (k v : V) : ∀ (es : List ME) (i : Nat), (∀ (j : Nat) (x : ME), es[j]? = some x → (keyEq k x.k = true ↔ j = i)) → ∀ j : Nat, (mset k v es)[j]? = if j = i then (es[j]?).map (fun e => ⟨e.k, v, e.b⟩) else es[j]?
  | [], i, h, j => by
    have e : mset k v [] = [] := rfl
    rw [e]; split <;> simp
  | e :: es, i, h, j => by
    have e1 : mset k v (e :: es) = match keyEq k e.k with | true => ⟨e.k, v, e.b⟩ :: es | false => e :: mset k v es := rfl
    rw [e1]
    cases hk : keyEq k e.k with
    | true =>
      have : 0 = i := (h 0 e rfl).1 hk
      subst this
      cases j with
      | zero => simp
      | succ j => simp
    | false =>
      have hi : i ≠ 0 := fun hi => by
        have := (h 0 e rfl).2 hi.symm
        rw [hk] at this; cases this
      obtain ⟨i', rfl⟩ : ∃ i', i = i' + 1 := ⟨i - 1, by omega⟩
      cases j with
      | zero => simp
      | succ j =>
        have := mset_get k v es i' (fun j x hx => by
          have := h (j + 1) x (by simpa using hx)
          rw [this]; omega) j
        simp only [List.getElem?_cons_succ]
        rw [this]
        by_cases hji : j = i'
        · simp [hji]
        · simp [hji]
theorem mrem_eq (k : V) : ∀ (es : List ME) (i : Nat), i < es.length → (∀ (j : Nat) (x : ME), es[j]? = some x → (keyEq k x.k = true ↔ j = i)) → mrem k es = es.eraseIdx i
  | [], i, hi, h => by simp at hi
  | e :: es, i, hi, h => by
    have e1 : mrem k (e :: es) = match keyEq k e.k with | true => es | false => e :: mrem k es := rfl
    rw [e1]
    cases hk : keyEq k e.k with
    | true =>
      have : 0 = i := (h 0 e rfl).1 hk
      subst this
      rfl
    | false =>
      have hi0 : i ≠ 0 := fun hi => by
        have := (h 0 e rfl).2 hi.symm
        rw [hk] at this; cases this
      obtain ⟨i', rfl⟩ : ∃ i', i = i' + 1 := ⟨i - 1, by omega⟩
      have := mrem_eq k es i' (by simpa using hi) (fun j x hx => by
        have := h (j + 1) x (by simpa using hx)
        rw [this]; omega)
      simp [this]
theorem mrem_none (k : V) : ∀ (es : List ME), (∀ (j : Nat) (x : ME), es[j]? = some x → keyEq k x.k = false) → mrem k es = es
  | [], h => rfl
  | e :: es, h => by
    have e1 : mrem k (e :: es) = match keyEq k e.k with | true => es | false => e :: mrem k es := rfl
    rw [e1, h 0 e rfl, mrem_none k es (fun j x hx => h (j + 1) x (by simpa using hx))]
section
variable {ι : Nm} {ks : KSh} {es : List ME} {es' : Array MapEntry}
theorem MapR.other (M : MapR ι ks es es') {i : Nat} {e : ME} (h : es[i]? = some e) : ∃ e', es'[i]? = some e' := by
  have : i < es.length := (List.getElem?_eq_some_iff.1 h).1
  exact ⟨es'[i]'(by rw [← M.len]; exact this), by simp [← M.len, this]⟩
theorem MapR.iff (M : MapR ι ks es es') {k : V} {k' : Value} (hk : keyShaped ks k = true) (vk : VR ι k k') {i : Nat} {e : ME} (h : es[i]? = some e) (he : e.k = k) : ∀ (j : Nat) (x : ME), es[j]? = some x → (keyEq k x.k = true ↔ j = i) := by
  intro j x hx
  obtain ⟨x', hx'⟩ := M.other hx
  rw [(keyEq_sound hk (M.sh j x hx) vk (M.rel j x x' hx hx').1).1]
  constructor
  · intro e1
    exact M.inj j i x e hx h (e1.symm.trans he.symm)
  · rintro rfl
    rw [h] at hx; cases hx
    exact he.symm
theorem MapR.no (M : MapR ι ks es es') {k : V} {k' : Value} (hk : keyShaped ks k = true) (vk : VR ι k k') (h : ∀ e ∈ es, e.k ≠ k) : ∀ (j : Nat) (x : ME), es[j]? = some x → keyEq k x.k = false := by
  intro j x hx
  obtain ⟨x', hx'⟩ := M.other hx
  have := (keyEq_sound hk (M.sh j x hx) vk (M.rel j x x' hx hx').1).1
  cases hq : keyEq k x.k with
  | false => rfl
  | true => exact absurd (this.1 hq).symm (h x (List.mem_of_getElem? hx))
theorem MapR.set (M : MapR ι ks es es') {k v : V} {k' v' : Value} (hk : keyShaped ks k = true) (vk : VR ι k k') (vv : VR ι v v') {i : Nat} {e : ME} (h : es[i]? = some e) (he : e.k = k) :
    MapR ι ks (mset k v es) (es'.modify i fun e => { e with key := k', val := v' }) := by
  have hg := mset_get k v es i (M.iff hk vk h he)
  have hlen : (mset k v es).length = es.length := by
    apply Nat.le_antisymm
    · apply Classical.byContradiction
      intro hn
      have h1 : es.length < (mset k v es).length := by omega
      have h2 := hg es.length
      rw [List.getElem?_eq_getElem h1] at h2
      have h3 : es[es.length]? = Option.none := by simp
      rw [h3] at h2
      split at h2 <;> cases h2
    · apply Classical.byContradiction
      intro hn
      have h1 : (mset k v es).length < es.length := by omega
      have h2 := hg (mset k v es).length
      have h3 : (mset k v es)[(mset k v es).length]? = Option.none := by simp
      rw [h3, List.getElem?_eq_getElem h1] at h2
      split at h2 <;> cases h2
  refine ⟨by rw [hlen, M.len]; simp, fun j x y hx hy => ?_, fun j x hx => ?_, fun j l x y hx hy hxy => ?_⟩
  · rw [hg] at hx
    rw [Array.getElem?_modify] at hy
    by_cases hji : j = i
    · subst hji
      rw [if_pos rfl, h] at hx
      cases hx
      obtain ⟨e', he'⟩ := M.other h
      rw [if_pos rfl, he'] at hy
      cases hy
      have := M.rel j e e' h he'
      exact ⟨by rw [he]; exact vk, vv, this.2.2⟩
    · rw [if_neg hji] at hx
      rw [if_neg (fun e => hji e.symm)] at hy
      exact M.rel j x y hx hy
  · rw [hg] at hx
    by_cases hji : j = i
    · subst hji
      rw [if_pos rfl, h] at hx
      cases hx
      exact M.sh j e h
    · rw [if_neg hji] at hx
      exact M.sh j x hx
  · have key : ∀ (a : Nat) (z : ME), (mset k v es)[a]? = some z → ∃ z0 : ME, es[a]? = some z0 ∧ z0.k = z.k := by
      intro a z hz
      rw [hg] at hz
      split at hz
      · rename_i e1; subst e1
        rw [h] at hz; cases hz
        exact ⟨e, h, rfl⟩
      · exact ⟨z, hz, rfl⟩
    obtain ⟨x0, h1, h2⟩ := key j x hx
    obtain ⟨y0, h3, h4⟩ := key l y hy
    exact M.inj j l x0 y0 h1 h3 (by rw [h2, h4]; exact hxy)
theorem MapR.push (M : MapR ι ks es es') {k v : V} {k' v' : Value} (hk : keyShaped ks k = true) (vk : VR ι k k') (vv : VR ι v v') (hno : ∀ e ∈ es, e.k ≠ k) (ck : Nat) :
    MapR ι ks (es ++ [⟨k, v, ck⟩]) (es'.push { key := k', val := v', born := ck }) := by
  have hlen := M.len
  refine ⟨by simp [hlen], fun j x y hx hy => ?_, fun j x hx => ?_, fun j l x y hx hy hxy => ?_⟩
  · rw [Array.getElem?_push] at hy
    by_cases hj : j < es.length
    · rw [List.getElem?_append_left hj] at hx
      rw [if_neg (by omega)] at hy
      exact M.rel j x y hx hy
    · rw [List.getElem?_append_right (by omega)] at hx
      have : j - es.length = 0 := by
        have := (List.getElem?_eq_some_iff.1 hx).1
        simp at this; omega
      rw [this] at hx
      cases hx
      rw [if_pos (by omega)] at hy
      cases hy
      exact ⟨vk, vv, rfl⟩
  · by_cases hj : j < es.length
    · rw [List.getElem?_append_left hj] at hx
      exact M.sh j x hx
    · rw [List.getElem?_append_right (by omega)] at hx
      have : j - es.length = 0 := by
        have := (List.getElem?_eq_some_iff.1 hx).1
        simp at this; omega
      rw [this] at hx
      cases hx
      exact hk
  · have key : ∀ (a : Nat) (z : ME), (es ++ [⟨k, v, ck⟩])[a]? = some z → (a < es.length ∧ es[a]? = some z) ∨ (a = es.length ∧ z = ⟨k, v, ck⟩) := by
      intro a z hz
      by_cases ha : a < es.length
      · rw [List.getElem?_append_left ha] at hz
        exact Or.inl ⟨ha, hz⟩
      · rw [List.getElem?_append_right (by omega)] at hz
        have : a - es.length = 0 := by
          have := (List.getElem?_eq_some_iff.1 hz).1
          simp at this; omega
        rw [this] at hz
        cases hz
        exact Or.inr ⟨by omega, rfl⟩
    rcases key j x hx with ⟨h1, h2⟩ | ⟨h1, rfl⟩ <;> rcases key l y hy with ⟨h3, h4⟩ | ⟨h3, rfl⟩
    · exact M.inj j l x y h2 h4 hxy
    · exact absurd hxy (hno x (List.mem_of_getElem? h2))
    · exact absurd hxy.symm (hno y (List.mem_of_getElem? h4))
    · omega
theorem MapR.erase (M : MapR ι ks es es') {i : Nat} (hi : i < es.length) : MapR ι ks (es.eraseIdx i) (es'.eraseIdxIfInBounds i) := by
  have hlen := M.len
  have e' : (es'.eraseIdxIfInBounds i).toList = es'.toList.eraseIdx i := by
    unfold Array.eraseIdxIfInBounds
    rw [dif_pos (by omega), Array.toList_eraseIdx]
  have e2 : ∀ j : Nat, (es'.eraseIdxIfInBounds i)[j]? = if j < i then es'[j]? else es'[j + 1]? := fun j => by
    rw [← Array.getElem?_toList, e', List.getElem?_eraseIdx]
    simp
  refine ⟨?_, fun j x y hx hy => ?_, fun j x hx => ?_, fun j l x y hx hy hxy => ?_⟩
  · rw [← Array.length_toList, e', List.length_eraseIdx, List.length_eraseIdx]
    simp [hlen]
  · rw [List.getElem?_eraseIdx] at hx
    rw [e2] at hy
    split at hx
    · rename_i h; rw [if_pos h] at hy; exact M.rel j x y hx hy
    · rename_i h; rw [if_neg h] at hy; exact M.rel (j + 1) x y hx hy
  · rw [List.getElem?_eraseIdx] at hx
    split at hx
    · exact M.sh j x hx
    · exact M.sh (j + 1) x hx
  · rw [List.getElem?_eraseIdx] at hx hy
    split at hx <;> split at hy
    · exact M.inj j l x y hx hy hxy
    · have := M.inj j (l + 1) x y hx hy hxy; omega
    · have := M.inj (j + 1) l x y hx hy hxy; omega
    · have := M.inj (j + 1) (l + 1) x y hx hy hxy; omega
/-- a map is laid anew -/
theorem Rep.setMapOb {σ : St} {w : World} (R : Rep ι σ w) {p : Pos} {ck : Nat} (hg : T.get p σ.h = some (.map es ck ks)) {pl : Pl} (hpl : ι p = some pl) {es2 : List ME} {es2' : Array MapEntry} {ck2 : Nat} (M : MapR ι ks es2 es2') {N : Nat} :
    Rep ι ⟨T.set (.map es2 ck2 ks) p σ.h, σ.nx⟩ { w with heap := w.heap.setIfInBounds pl.blk (.map es2' ck2) } ∧ G N ι σ w ι ⟨T.set (.map es2 ck2 ks) p σ.h, σ.nx⟩ { w with heap := w.heap.setIfInBounds pl.blk (.map es2' ck2) } := by
  obtain ⟨pl0, es0, j1, j2, j3, _⟩ := R.ob p _ hg
  rw [hpl] at j1; cases j1
  have hlt : pl.blk < w.heap.size := (Array.getElem?_eq_some_iff.1 j3).1
  have hnew : (w.heap.setIfInBounds pl.blk (.map es2' ck2))[pl.blk]? = some (.map es2' ck2) := by simp [hlt]
  refine R.setOb (ob := .map es2 ck2 ks) (ro := .map es2' ck2) hg rfl rfl rfl rfl hpl ⟨pl, es2', hpl, j2, hnew, M.len, M.rel, M.sh, M.inj⟩ ?_
  intro pq hb hk
  obtain ⟨k0, k1, k2, k4, k3⟩ := hk
  refine ⟨fun h0 => ?_, fun h0 => ?_, fun h0 => ?_, fun h0 => ?_, k3⟩
  · obtain ⟨c', e', h1, _⟩ := k0 h0
    rw [hb, j3] at h1; cases h1
  · exact ⟨es2', ck2, by rw [hb]; exact hnew⟩
  · obtain ⟨c', e', x, y, h1⟩ := k2 h0
    rw [hb, j3] at h1; cases h1
  · obtain ⟨c', e', h1⟩ := k4 h0
    rw [hb, j3] at h1; cases h1
end
theorem setIf_same {w : World} {b : Nat} {o : Obj} (h : w.heap[b]? = some o) : ({ w with heap := w.heap.setIfInBounds b o } : World) = w := by
  have : w.heap.setIfInBounds b o = w.heap := by
    apply Array.ext_getElem?
    intro i
    rw [Array.getElem?_setIfInBounds]
    split
    · rename_i e; subst e; rw [h]; simp; exact (Array.getElem?_eq_some_iff.1 h).1
    · rfl
  rw [this]
theorem T_set_same {α : Type} (x : α) : ∀ (p : Pos) (t : T α), T.get p t = some x → T.set x p t = t := by
  intro p
  induction p with
  | H => intro t h; cases t with
    | nil => cases h
    | node l v r => have : v = some x := h; subst this; rfl
  | O p ih => intro t h; cases t with
    | nil => cases h
    | node l v r => rw [T.set_Oc, ih l h]
  | I p ih => intro t h; cases t with
    | nil => cases h
    | node l v r => rw [T.set_Ic, ih r h]
section
variable {P : Program} {E : Env P}
theorem upd_map {ι : Nm} {σ : St} {w : World} (R : Rep ι σ w) {t kt et : TypeId} (hu : P.underlying t = some (.map kt et)) {ks : KSh} (K : MapK P kt ks) {p : Pos} {es : List ME} {ck : Nat} (hg : T.get p σ.h = some (.map es ck ks)) {k v : V} {k' v' m' : Value}
    (hk : keyShaped ks k = true) (vk : VR ι k k') (vv : VR ι v v') (hm : VR ι (.map p) m') {σ' : St}
    (h : (match mfind k es with | some _ => some (V.u, (⟨T.set (.map (mset k v es) ck ks) p σ.h, σ.nx⟩ : St)) | none => some (V.u, ⟨T.set (.map (lapp es [⟨k, v, ck⟩]) (Nat.add ck 1) ks) p σ.h, σ.nx⟩)) = some (V.u, σ')) :
    ∃ w', (Instr.mapUpdate t m' k' v').run P w = .ok () w' ∧ Rep ι σ' w' ∧ G σ.nx.nat ι σ w ι σ' w' := by
  obtain ⟨pl, k1, k2, rfl⟩ := hm.map_inv
  obtain ⟨pl', es', j1, j2, j3, j4, j5, j6, j7⟩ := R.ob p _ hg
  rw [k1] at j1; cases j1
  have M : MapR ι ks es es' := ⟨j4, j5, j6, j7⟩
  have hget : (getObj pl.blk).run P w = .ok (.map es' ck) w := by simp [getObj, Sem.run, j3]
  have hset : ∀ o : Obj, (setObj pl.blk o).run P w = .ok () { w with heap := w.heap.setIfInBounds pl.blk o } := fun o => by simp [setObj, Sem.run, j3]
  have hsh := keyShaped_sound hk vk
  rcases M.find K hk vk w with ⟨h5, h6, h7⟩ | ⟨i, e, e', h5, h6, h7, h8, h9, h10⟩
  · rw [h5] at h
    simp only [Option.some.injEq, Prod.mk.injEq, true_and] at h
    subst h
    rw [lapp_eq]
    obtain ⟨q1, q2⟩ := R.setMapOb hg k1 (ck2 := ck + 1) (M.push hk vk vv h7 ck) (N := σ.nx.nat)
    refine ⟨_, ?_, q1, q2⟩
    simp [Instr.mapUpdate, run_underlying hu, hget, K.check w false k' hsh, h6, hset]
  · rw [h5] at h
    simp only [Option.some.injEq, Prod.mk.injEq, true_and] at h
    subst h
    obtain ⟨q1, q2⟩ := R.setMapOb hg k1 (ck2 := ck) (M.set hk vk vv h6 h8) (N := σ.nx.nat)
    refine ⟨_, ?_, q1, q2⟩
    simp [Instr.mapUpdate, run_underlying hu, hget, K.check w false k' hsh, h10, hset, h7, h9, K.stays w k' hsh]
theorem e_mup (m k v : Arg) (ks : KSh) : ESound E (.mup m k v ks) := by
  intro n ι A b σ σ' w o vv F L R hok h
  obtain ⟨d, op, ty, pos, af, g⟩ := o
  simp only [eev] at h
  split at h
  · rename_i hsh
    split at h
    · rename_i p hm
      split at h
      · rename_i es ck ks' hg
        split at h
        · rename_i hks
          have hks : ks' = ks := of_decide_eq_true hks
          subst hks
          have hv : vv = .u := by split at h <;> cases h <;> rfl
          subst hv
          cases op <;> simp only [okE, Bool.false_eq_true, Bool.and_eq_true] at hok
          all_goals
            rename_i t m' k' v'
            obtain ⟨⟨⟨h1, h2⟩, h3⟩, h4⟩ := hok
            split at h4
            · rename_i kt et hu
              have K := E.mgood _ (by simpa using h4)
              obtain ⟨w', r1, r2, r3⟩ := upd_map (t := t) R hu K hg hsh (ev_sound F L h2) (ev_sound F L h3) (ev_as F L h1 hm) h
              exact ⟨ι, w', Or.inr ⟨exu (s := Instr.mapUpdate t (b.eval m') (b.eval k') (b.eval v')) rfl r1, rfl⟩, r2, r3⟩
            · cases h4
        · cases h
      · cases h
    · cases h
  · cases h
theorem e_mdl (m k : Arg) (ks : KSh) : ESound E (.mdl m k ks) := by
  intro n ι A b σ σ' w o vv F L R hok h
  obtain ⟨d, op, ty, pos, af, g⟩ := o
  cases op <;> simp only [okE, Bool.false_eq_true] at hok
  rename_i cc
  obtain ⟨cal, args, ats⟩ := cc
  split at hok
  · rename_i c' a1 a2 he
    cases he
    split at hok
    · rename_i m' k' t rest ha ht
      simp only [Bool.and_eq_true] at hok
      obtain ⟨⟨h1, h2⟩, h3⟩ := hok
      split at h3
      · rename_i kt et hu
        have K := E.mgood _ (by simpa using h3)
        have h0 : ats[0]? = some t := by
          have : ats.toList[0]? = some t := by rw [ht]; rfl
          simpa using this
        simp only [eev] at h
        split at h
        · rename_i hsh
          have vk := ev_sound F L h2
          have hs2 := keyShaped_sound hsh vk
          split at h
          · rename_i hm
            simp only [Option.some.injEq, Prod.mk.injEq] at h
            obtain ⟨rfl, rfl⟩ := h
            have k2 := (ev_as F L h1 hm).nilm_inv
            refine ⟨ι, w, Or.inl ⟨.tuple #[], extwo (f := Builtin.delete_) (fun _ _ _ _ => rfl) ha ?_, .mk_tup .nil⟩, R, G.refl _ _ _ _⟩
            rw [k2]
            simp [Builtin.delete_, h0, run_underlying hu, K.check w true _ hs2]
          · rename_i p hm
            split at h
            · rename_i es ck ks' hg
              split at h
              · rename_i hks
                have hks : ks' = ks := of_decide_eq_true hks
                subst hks
                simp only [Option.some.injEq, Prod.mk.injEq] at h
                obtain ⟨rfl, rfl⟩ := h
                obtain ⟨pl, k1, k2, k3⟩ := (ev_as F L h1 hm).map_inv
                obtain ⟨pl', es', j1, j2, j3, j4, j5, j6, j7⟩ := R.ob p _ hg
                rw [k1] at j1; cases j1
                have M : MapR ι ks' es es' := ⟨j4, j5, j6, j7⟩
                have hget : (getObj pl.blk).run P w = .ok (.map es' ck) w := by simp [getObj, Sem.run, j3]
                have hset : ∀ o : Obj, (setObj pl.blk o).run P w = .ok () { w with heap := w.heap.setIfInBounds pl.blk o } := fun o => by simp [setObj, Sem.run, j3]
                rcases M.find K hsh vk w with ⟨h5, h6, h7⟩ | ⟨i, e, e', h5, h6, h7, h8, h9, h10⟩
                · rw [mrem_none _ _ (M.no hsh vk h7), T_set_same _ _ _ hg]
                  refine ⟨ι, w, Or.inl ⟨.tuple #[], extwo (f := Builtin.delete_) (fun _ _ _ _ => rfl) ha ?_, .mk_tup .nil⟩, R, G.refl _ _ _ _⟩
                  rw [k3]
                  simp [Builtin.delete_, h0, run_underlying hu, hget, K.check w _ _ hs2, h6, hset, setIf_same j3]
                · have hlt : i < es.length := (List.getElem?_eq_some_iff.1 h6).1
                  rw [mrem_eq _ _ i hlt (M.iff hsh vk h6 h8)]
                  obtain ⟨q1, q2⟩ := R.setMapOb hg k1 (ck2 := ck) (M.erase hlt) (N := σ.nx.nat)
                  refine ⟨ι, _, Or.inl ⟨.tuple #[], extwo (f := Builtin.delete_) (fun _ _ _ _ => rfl) ha ?_, .mk_tup .nil⟩, q1, q2⟩
                  rw [k3]
                  simp [Builtin.delete_, h0, run_underlying hu, hget, K.check w _ _ hs2, h10, hset]
              · cases h
            · cases h
          · cases h
        · cases h
      · cases h3
    · cases hok
  · cases hok
end
end Go.Proofs.YtknhohgnilamcaaGreatDoor
