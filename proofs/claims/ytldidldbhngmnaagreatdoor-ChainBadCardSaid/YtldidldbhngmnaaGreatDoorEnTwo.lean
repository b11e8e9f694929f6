/-
  Part of the proof, joined from several texts.
-/
import Derived.Test.YtldidldbhngmnaaGreatDoorEnOne
import Derived.Tactics
import Derived.Orders
import Derived.MapKept
import Derived.DeepKeys3
import Derived.Stop.LaidErr
set_option linter.unusedVariables false
set_option linter.unusedSimpArgs false
set_option linter.unusedSectionVars false
namespace Go.Proofs.YtldidldbhngmnaaGreatDoor
open Go
theorem mset_get (k v : V) : ∀ (es : List ME) (i : Nat),(∀ (j : Nat) (x : ME),es[j]? = some x → (keyEq k x.k = true ↔ j = i)) → ∀ j : Nat,(mset k v es)[j]? = if j = i then (es[j]?).map (fun e => ⟨e.k,v,e.b⟩) else es[j]?
 | [],i,h,j => by
  have e : mset k v [] = [] := rfl
  rw [e]; split <;> simp
 | e :: es,i,h,j => by
  have e1 : mset k v (e :: es) = match keyEq k e.k with | true => ⟨e.k,v,e.b⟩ :: es | false => e :: mset k v es := rfl
  rw [e1]
  cases hk : keyEq k e.k with
  | true =>
   have : 0 = i := (h 0 e rfl).1 hk
   subst this
   cases j with
   | zero => simp
   | succ j => simp
  | false =>
   have hi : i ≠ 0 := fun hi => by
    have := (h 0 e rfl).2 hi.symm
    rw [hk] at this; cases this
   obtain ⟨i',rfl⟩ : ∃ i',i = i' + 1 := ⟨i - 1,by omega⟩
   cases j with
   | zero => simp
   | succ j =>
    have := mset_get k v es i' (fun j x hx => by
     have := h (j + 1) x (by simpa using hx)
     rw [this]; omega) j
    simp only [List.getElem?_cons_succ]
    rw [this]
    by_cases hji : j = i'
    ·simp [hji]
    ·simp [hji]
theorem mrem_eq (k : V) : ∀ (es : List ME) (i : Nat),i < es.length → (∀ (j : Nat) (x : ME),es[j]? = some x → (keyEq k x.k = true ↔ j = i)) → mrem k es = es.eraseIdx i
 | [],i,hi,h => by simp at hi
 | e :: es,i,hi,h => by
  have e1 : mrem k (e :: es) = match keyEq k e.k with | true => es | false => e :: mrem k es := rfl
  rw [e1]
  cases hk : keyEq k e.k with
  | true =>
   have : 0 = i := (h 0 e rfl).1 hk
   subst this
   rfl
  | false =>
   have hi0 : i ≠ 0 := fun hi => by
    have := (h 0 e rfl).2 hi.symm
    rw [hk] at this; cases this
   obtain ⟨i',rfl⟩ : ∃ i',i = i' + 1 := ⟨i - 1,by omega⟩
   have := mrem_eq k es i' (by simpa using hi) (fun j x hx => by
    have := h (j + 1) x (by simpa using hx)
    rw [this]; omega)
   simp [this]
theorem mrem_none (k : V) : ∀ (es : List ME),(∀ (j : Nat) (x : ME),es[j]? = some x → keyEq k x.k = false) → mrem k es = es
 | [],h => rfl
 | e :: es,h => by
  have e1 : mrem k (e :: es) = match keyEq k e.k with | true => es | false => e :: mrem k es := rfl
  rw [e1,h 0 e rfl,mrem_none k es (fun j x hx => h (j + 1) x (by simpa using hx))]
section
variable {ι : Nm} {ks : KSh} {es : List ME} {es' : Array MapEntry}
theorem MapR.other (M : MapR ι ks es es') {i : Nat} {e : ME} (h : es[i]? = some e) : ∃ e',es'[i]? = some e' := by
 have : i < es.length := (List.getElem?_eq_some_iff.1 h).1
 exact ⟨es'[i]'(by rw [← M.len]; exact this),by simp [← M.len,this]⟩
theorem MapR.iff (M : MapR ι ks es es') {k : V} {k' : Value} (hk : keyShaped ks k = true) (vk : VR ι k k') {i : Nat} {e : ME} (h : es[i]? = some e) (he : e.k = k) : ∀ (j : Nat) (x : ME),es[j]? = some x → (keyEq k x.k = true ↔ j = i) := by
 intro j x hx
 obtain ⟨x',hx'⟩ := M.other hx
 rw [(keyEq_sound hk (M.sh j x hx) vk (M.rel j x x' hx hx').1).1]
 constructor
 ·intro e1
  exact M.inj j i x e hx h (e1.symm.trans he.symm)
 ·rintro rfl
  rw [h] at hx; cases hx
  exact he.symm
theorem MapR.no (M : MapR ι ks es es') {k : V} {k' : Value} (hk : keyShaped ks k = true) (vk : VR ι k k') (h : ∀ e ∈ es,e.k ≠ k) : ∀ (j : Nat) (x : ME),es[j]? = some x → keyEq k x.k = false := by
 intro j x hx
 obtain ⟨x',hx'⟩ := M.other hx
 have := (keyEq_sound hk (M.sh j x hx) vk (M.rel j x x' hx hx').1).1
 cases hq : keyEq k x.k with
 | false => rfl
 | true => exact absurd (this.1 hq).symm (h x (List.mem_of_getElem? hx))
theorem MapR.set (M : MapR ι ks es es') {k v : V} {k' v' : Value} (hk : keyShaped ks k = true) (vk : VR ι k k') (vv : VR ι v v') {i : Nat} {e : ME} (h : es[i]? = some e) (he : e.k = k) :
  MapR ι ks (mset k v es) (es'.modify i fun e => { e with key := k',val := v' }) := by
 have hg := mset_get k v es i (M.iff hk vk h he)
 have hlen : (mset k v es).length = es.length := by
  apply Nat.le_antisymm
  ·apply Classical.byContradiction
   intro hn
   have h1 : es.length < (mset k v es).length := by omega
   have h2 := hg es.length
   rw [List.getElem?_eq_getElem h1] at h2
   have h3 : es[es.length]? = Option.none := by simp
   rw [h3] at h2
   split at h2 <;> cases h2
  ·apply Classical.byContradiction
   intro hn
   have h1 : (mset k v es).length < es.length := by omega
   have h2 := hg (mset k v es).length
   have h3 : (mset k v es)[(mset k v es).length]? = Option.none := by simp
   rw [h3,List.getElem?_eq_getElem h1] at h2
   split at h2 <;> cases h2
 refine ⟨by rw [hlen,M.len]; simp,fun j x y hx hy => ?_,fun j x hx => ?_,fun j l x y hx hy hxy => ?_⟩
 ·rw [hg] at hx
  rw [Array.getElem?_modify] at hy
  by_cases hji : j = i
  ·subst hji
   rw [if_pos rfl,h] at hx
   cases hx
   obtain ⟨e',he'⟩ := M.other h
   rw [if_pos rfl,he'] at hy
   cases hy
   have := M.rel j e e' h he'
   exact ⟨by rw [he]; exact vk,vv,this.2.2⟩
  ·rw [if_neg hji] at hx
   rw [if_neg (fun e => hji e.symm)] at hy
   exact M.rel j x y hx hy
 ·rw [hg] at hx
  by_cases hji : j = i
  ·subst hji
   rw [if_pos rfl,h] at hx
   cases hx
   exact M.sh j e h
  ·rw [if_neg hji] at hx
   exact M.sh j x hx
 ·have key : ∀ (a : Nat) (z : ME),(mset k v es)[a]? = some z → ∃ z0 : ME,es[a]? = some z0 ∧ z0.k = z.k := by
   intro a z hz
   rw [hg] at hz
   split at hz
   ·rename_i e1; subst e1
    rw [h] at hz; cases hz
    exact ⟨e,h,rfl⟩
   ·exact ⟨z,hz,rfl⟩
  obtain ⟨x0,h1,h2⟩ := key j x hx
  obtain ⟨y0,h3,h4⟩ := key l y hy
  exact M.inj j l x0 y0 h1 h3 (by rw [h2,h4]; exact hxy)
theorem MapR.push (M : MapR ι ks es es') {k v : V} {k' v' : Value} (hk : keyShaped ks k = true) (vk : VR ι k k') (vv : VR ι v v') (hno : ∀ e ∈ es,e.k ≠ k) (ck : Nat) :
  MapR ι ks (es ++ [⟨k,v,ck⟩]) (es'.push { key := k',val := v',born := ck }) := by
 have hlen := M.len
 refine ⟨by simp [hlen],fun j x y hx hy => ?_,fun j x hx => ?_,fun j l x y hx hy hxy => ?_⟩
 ·rw [Array.getElem?_push] at hy
  by_cases hj : j < es.length
  ·rw [List.getElem?_append_left hj] at hx
   rw [if_neg (by omega)] at hy
   exact M.rel j x y hx hy
  ·rw [List.getElem?_append_right (by omega)] at hx
   have : j - es.length = 0 := by
    have := (List.getElem?_eq_some_iff.1 hx).1
    simp at this; omega
   rw [this] at hx
   cases hx
   rw [if_pos (by omega)] at hy
   cases hy
   exact ⟨vk,vv,rfl⟩
 ·by_cases hj : j < es.length
  ·rw [List.getElem?_append_left hj] at hx
   exact M.sh j x hx
  ·rw [List.getElem?_append_right (by omega)] at hx
   have : j - es.length = 0 := by
    have := (List.getElem?_eq_some_iff.1 hx).1
    simp at this; omega
   rw [this] at hx
   cases hx
   exact hk
 ·have key : ∀ (a : Nat) (z : ME),(es ++ [⟨k,v,ck⟩])[a]? = some z → (a < es.length ∧ es[a]? = some z) ∨ (a = es.length ∧ z = ⟨k,v,ck⟩) := by
   intro a z hz
   by_cases ha : a < es.length
   ·rw [List.getElem?_append_left ha] at hz
    exact Or.inl ⟨ha,hz⟩
   ·rw [List.getElem?_append_right (by omega)] at hz
    have : a - es.length = 0 := by
     have := (List.getElem?_eq_some_iff.1 hz).1
     simp at this; omega
    rw [this] at hz
    cases hz
    exact Or.inr ⟨by omega,rfl⟩
  rcases key j x hx with ⟨h1,h2⟩ | ⟨h1,rfl⟩ <;> rcases key l y hy with ⟨h3,h4⟩ | ⟨h3,rfl⟩
  ·exact M.inj j l x y h2 h4 hxy
  ·exact absurd hxy (hno x (List.mem_of_getElem? h2))
  ·exact absurd hxy.symm (hno y (List.mem_of_getElem? h4))
  ·omega
theorem MapR.erase (M : MapR ι ks es es') {i : Nat} (hi : i < es.length) : MapR ι ks (es.eraseIdx i) (es'.eraseIdxIfInBounds i) := by
 have hlen := M.len
 have e' : (es'.eraseIdxIfInBounds i).toList = es'.toList.eraseIdx i := by
  unfold Array.eraseIdxIfInBounds
  rw [dif_pos (by omega),Array.toList_eraseIdx]
 have e2 : ∀ j : Nat,(es'.eraseIdxIfInBounds i)[j]? = if j < i then es'[j]? else es'[j + 1]? := fun j => by
  rw [← Array.getElem?_toList,e',List.getElem?_eraseIdx]
  simp
 refine ⟨?_,fun j x y hx hy => ?_,fun j x hx => ?_,fun j l x y hx hy hxy => ?_⟩
 ·rw [← Array.length_toList,e',List.length_eraseIdx,List.length_eraseIdx]
  simp [hlen]
 ·rw [List.getElem?_eraseIdx] at hx
  rw [e2] at hy
  split at hx
  ·rename_i h; rw [if_pos h] at hy; exact M.rel j x y hx hy
  ·rename_i h; rw [if_neg h] at hy; exact M.rel (j + 1) x y hx hy
 ·rw [List.getElem?_eraseIdx] at hx
  split at hx
  ·exact M.sh j x hx
  ·exact M.sh (j + 1) x hx
 ·rw [List.getElem?_eraseIdx] at hx hy
  split at hx <;> split at hy
  ·exact M.inj j l x y hx hy hxy
  ·have := M.inj j (l + 1) x y hx hy hxy; omega
  ·have := M.inj (j + 1) l x y hx hy hxy; omega
  ·have := M.inj (j + 1) (l + 1) x y hx hy hxy; omega
theorem Rep.setMapOb {σ : St} {w : World} (R : Rep ι σ w) {p : Pos} {ck : Nat} (hg : T.get p σ.h = some (.map es ck ks)) {pl : Pl} (hpl : ι p = some pl) {es2 : List ME} {es2' : Array MapEntry} {ck2 : Nat} (M : MapR ι ks es2 es2') {N : Nat} :
  Rep ι ⟨T.set (.map es2 ck2 ks) p σ.h,σ.nx⟩ { w with heap := w.heap.setIfInBounds pl.blk (.map es2' ck2) } ∧ G N ι σ w ι ⟨T.set (.map es2 ck2 ks) p σ.h,σ.nx⟩ { w with heap := w.heap.setIfInBounds pl.blk (.map es2' ck2) } := by
 obtain ⟨pl0,es0,j1,j2,j3,_⟩ := R.ob p _ hg
 rw [hpl] at j1; cases j1
 have hlt : pl.blk < w.heap.size := (Array.getElem?_eq_some_iff.1 j3).1
 have hnew : (w.heap.setIfInBounds pl.blk (.map es2' ck2))[pl.blk]? = some (.map es2' ck2) := by simp [hlt]
 refine R.setOb (ob := .map es2 ck2 ks) (ro := .map es2' ck2) hg rfl rfl rfl rfl hpl ⟨pl,es2',hpl,j2,hnew,M.len,M.rel,M.sh,M.inj⟩ ?_
 intro pq hb hk
 obtain ⟨k0,k1,k2,k4,k3⟩ := hk
 refine ⟨fun h0 => ?_,fun h0 => ?_,fun h0 => ?_,fun h0 => ?_,k3⟩
 ·obtain ⟨c',e',h1,_⟩ := k0 h0
  rw [hb,j3] at h1; cases h1
 ·exact ⟨es2',ck2,by rw [hb]; exact hnew⟩
 ·obtain ⟨c',e',x,y,h1⟩ := k2 h0
  rw [hb,j3] at h1; cases h1
 ·obtain ⟨c',e',h1⟩ := k4 h0
  rw [hb,j3] at h1; cases h1
end
theorem setIf_same {w : World} {b : Nat} {o : Obj} (h : w.heap[b]? = some o) : ({ w with heap := w.heap.setIfInBounds b o } : World) = w := by
 have : w.heap.setIfInBounds b o = w.heap := by
  apply Array.ext_getElem?
  intro i
  rw [Array.getElem?_setIfInBounds]
  split
  ·rename_i e; subst e; rw [h]; simp; exact (Array.getElem?_eq_some_iff.1 h).1
  ·rfl
 rw [this]
theorem T_set_same {α : Type} (x : α) : ∀ (p : Pos) (t : T α),T.get p t = some x → T.set x p t = t := by
 intro p
 induction p with
 | H => intro t h; cases t with
  | nil => cases h
  | node l v r => have : v = some x := h; subst this; rfl
 | O p ih => intro t h; cases t with
  | nil => cases h
  | node l v r => rw [T.set_Oc,ih l h]
 | I p ih => intro t h; cases t with
  | nil => cases h
  | node l v r => rw [T.set_Ic,ih r h]
section
variable {P : Program} {E : Env P}
theorem upd_map {ι : Nm} {σ : St} {w : World} (R : Rep ι σ w) {t kt et : TypeId} (hu : P.underlying t = some (.map kt et)) {ks : KSh} (K : MapK P kt ks) {p : Pos} {es : List ME} {ck : Nat} (hg : T.get p σ.h = some (.map es ck ks)) {k v : V} {k' v' m' : Value}
  (hk : keyShaped ks k = true) (vk : VR ι k k') (vv : VR ι v v') (hm : VR ι (.map p) m') {σ' : St}
  (h : (match mfind k es with | some _ => some (V.u,(⟨T.set (.map (mset k v es) ck ks) p σ.h,σ.nx⟩ : St)) | none => some (V.u,⟨T.set (.map (lapp es [⟨k,v,ck⟩]) (Nat.add ck 1) ks) p σ.h,σ.nx⟩)) = some (V.u,σ')) :
  ∃ w',(Instr.mapUpdate t m' k' v').run P w = .ok () w' ∧ Rep ι σ' w' ∧ G σ.nx.nat ι σ w ι σ' w' := by
 obtain ⟨pl,k1,k2,rfl⟩ := hm.map_inv
 obtain ⟨pl',es',j1,j2,j3,j4,j5,j6,j7⟩ := R.ob p _ hg
 rw [k1] at j1; cases j1
 have M : MapR ι ks es es' := ⟨j4,j5,j6,j7⟩
 have hget : (getObj pl.blk).run P w = .ok (.map es' ck) w := by simp [getObj,Sem.run,j3]
 have hset : ∀ o : Obj,(setObj pl.blk o).run P w = .ok () { w with heap := w.heap.setIfInBounds pl.blk o } := fun o => by simp [setObj,Sem.run,j3]
 have hsh := keyShaped_sound hk vk
 rcases M.find K hk vk w with ⟨h5,h6,h7⟩ | ⟨i,e,e',h5,h6,h7,h8,h9,h10⟩
 ·rw [h5] at h
  simp only [Option.some.injEq,Prod.mk.injEq,true_and] at h
  subst h
  rw [lapp_eq]
  obtain ⟨q1,q2⟩ := R.setMapOb hg k1 (ck2 := ck + 1) (M.push hk vk vv h7 ck) (N := σ.nx.nat)
  refine ⟨_,?_,q1,q2⟩
  simp [Instr.mapUpdate,run_underlying hu,hget,K.check w false k' hsh,h6,hset]
 ·rw [h5] at h
  simp only [Option.some.injEq,Prod.mk.injEq,true_and] at h
  subst h
  obtain ⟨q1,q2⟩ := R.setMapOb hg k1 (ck2 := ck) (M.set hk vk vv h6 h8) (N := σ.nx.nat)
  refine ⟨_,?_,q1,q2⟩
  simp [Instr.mapUpdate,run_underlying hu,hget,K.check w false k' hsh,h10,hset,h7,h9,K.stays w k' hsh]
theorem e_mup (m k v : Arg) (ks : KSh) : ESound E (.mup m k v ks) := by
 intro n ι A b σ σ' w o vv F L R hok h
 obtain ⟨d,op,ty,pos,af,g⟩ := o
 simp only [eev] at h
 split at h
 ·rename_i hsh
  split at h
  ·rename_i p hm
   split at h
   ·rename_i es ck ks' hg
    split at h
    ·rename_i hks
     have hks : ks' = ks := of_decide_eq_true hks
     subst hks
     have hv : vv = .u := by split at h <;> cases h <;> rfl
     subst hv
     cases op <;> simp only [okE,Bool.false_eq_true,Bool.and_eq_true] at hok
     all_goals
      rename_i t m' k' v'
      obtain ⟨⟨⟨h1,h2⟩,h3⟩,h4⟩ := hok
      split at h4
      ·rename_i kt et hu
       have K := E.mgood _ (by simpa using h4)
       obtain ⟨w',r1,r2,r3⟩ := upd_map (t := t) R hu K hg hsh (ev_sound F L h2) (ev_sound F L h3) (ev_as F L h1 hm) h
       exact ⟨ι,w',Or.inr ⟨exu (s := Instr.mapUpdate t (b.eval m') (b.eval k') (b.eval v')) rfl r1,rfl⟩,r2,r3⟩
      ·cases h4
    ·cases h
   ·cases h
  ·cases h
 ·cases h
theorem e_mdl (m k : Arg) (ks : KSh) : ESound E (.mdl m k ks) := by
 intro n ι A b σ σ' w o vv F L R hok h
 obtain ⟨d,op,ty,pos,af,g⟩ := o
 cases op <;> simp only [okE,Bool.false_eq_true] at hok
 rename_i cc
 obtain ⟨cal,args,ats⟩ := cc
 split at hok
 ·rename_i c' a1 a2 he
  cases he
  split at hok
  ·rename_i m' k' t rest ha ht
   simp only [Bool.and_eq_true] at hok
   obtain ⟨⟨h1,h2⟩,h3⟩ := hok
   split at h3
   ·rename_i kt et hu
    have K := E.mgood _ (by simpa using h3)
    have h0 : ats[0]? = some t := by
     have : ats.toList[0]? = some t := by rw [ht]; rfl
     simpa using this
    simp only [eev] at h
    split at h
    ·rename_i hsh
     have vk := ev_sound F L h2
     have hs2 := keyShaped_sound hsh vk
     split at h
     ·rename_i hm
      simp only [Option.some.injEq,Prod.mk.injEq] at h
      obtain ⟨rfl,rfl⟩ := h
      have k2 := (ev_as F L h1 hm).nilm_inv
      refine ⟨ι,w,Or.inl ⟨.tuple #[],extwo (f := Builtin.delete_) (fun _ _ _ _ => rfl) ha ?_,.mk_tup .nil⟩,R,G.refl _ _ _ _⟩
      rw [k2]
      simp [Builtin.delete_,h0,run_underlying hu,K.check w true _ hs2]
     ·rename_i p hm
      split at h
      ·rename_i es ck ks' hg
       split at h
       ·rename_i hks
        have hks : ks' = ks := of_decide_eq_true hks
        subst hks
        simp only [Option.some.injEq,Prod.mk.injEq] at h
        obtain ⟨rfl,rfl⟩ := h
        obtain ⟨pl,k1,k2,k3⟩ := (ev_as F L h1 hm).map_inv
        obtain ⟨pl',es',j1,j2,j3,j4,j5,j6,j7⟩ := R.ob p _ hg
        rw [k1] at j1; cases j1
        have M : MapR ι ks' es es' := ⟨j4,j5,j6,j7⟩
        have hget : (getObj pl.blk).run P w = .ok (.map es' ck) w := by simp [getObj,Sem.run,j3]
        have hset : ∀ o : Obj,(setObj pl.blk o).run P w = .ok () { w with heap := w.heap.setIfInBounds pl.blk o } := fun o => by simp [setObj,Sem.run,j3]
        rcases M.find K hsh vk w with ⟨h5,h6,h7⟩ | ⟨i,e,e',h5,h6,h7,h8,h9,h10⟩
        ·rw [mrem_none _ _ (M.no hsh vk h7),T_set_same _ _ _ hg]
         refine ⟨ι,w,Or.inl ⟨.tuple #[],extwo (f := Builtin.delete_) (fun _ _ _ _ => rfl) ha ?_,.mk_tup .nil⟩,R,G.refl _ _ _ _⟩
         rw [k3]
         simp [Builtin.delete_,h0,run_underlying hu,hget,K.check w _ _ hs2,h6,hset,setIf_same j3]
        ·have hlt : i < es.length := (List.getElem?_eq_some_iff.1 h6).1
         rw [mrem_eq _ _ i hlt (M.iff hsh vk h6 h8)]
         obtain ⟨q1,q2⟩ := R.setMapOb hg k1 (ck2 := ck) (M.erase hlt) (N := σ.nx.nat)
         refine ⟨ι,_,Or.inl ⟨.tuple #[],extwo (f := Builtin.delete_) (fun _ _ _ _ => rfl) ha ?_,.mk_tup .nil⟩,q1,q2⟩
         rw [k3]
         simp [Builtin.delete_,h0,run_underlying hu,hget,K.check w _ _ hs2,h10,hset]
       ·cases h
      ·cases h
     ·cases h
    ·cases h
   ·cases h3
  ·cases hok
 ·cases hok
end
end Go.Proofs.YtldidldbhngmnaaGreatDoor
namespace Go.Proofs.YtldidldbhngmnaaGreatDoor
open Go
theorem modify_same {α : Type} (a : Array α) (i : Nat) (f : α → α) (h : ∀ x,a[i]? = some x → f x = x) : a.modify i f = a := by
 apply Array.ext_getElem?
 intro j
 rw [Array.getElem?_modify]
 split
 ·rename_i e; subst e
  cases hx : a[i]? with
  | none => rfl
  | some x => rw [Option.map_some,h x hx]
 ·rfl
theorem bset_spec (b : Nat) (v : V) : ∀ (es es2 : List ME),bset b v es = some es2 → ∃ (i : Nat) (e : ME),es[i]? = some e ∧ e.b = b ∧ (∀ (j : Nat) (x : ME),j < i → es[j]? = some x → x.b ≠ b) ∧ es2 = es.set i ⟨e.k,v,e.b⟩
 | [],es2,h => by
  have e : bset b v [] = none := rfl
  rw [e] at h; cases h
 | e :: es,es2,h => by
  have e1 : bset b v (e :: es) = match Nat.beq e.b b with | true => some (⟨e.k,v,e.b⟩ :: es) | false => (match bset b v es with | some r => some (e :: r) | none => none) := rfl
  rw [e1,nbeq_eq] at h
  split at h
  ·rename_i hb
   have hb : e.b = b := of_decide_eq_true hb
   cases h
   exact ⟨0,e,rfl,hb,(fun j x hj => absurd hj (Nat.not_lt_zero j)),rfl⟩
  ·rename_i hb
   have hb : ¬ e.b = b := of_decide_eq_false hb
   split at h
   ·rename_i r hr
    cases h
    obtain ⟨i,x,h1,h2,h3,h4⟩ := bset_spec b v es r hr
    refine ⟨i + 1,x,by simpa using h1,h2,fun j y hj hy => ?_,by rw [h4]; rfl⟩
    cases j with
    | zero => simp at hy; subst hy; exact hb
    | succ j => exact h3 j y (by omega) (by simpa using hy)
   ·cases h
theorem MapR.setVal {ι : Nm} {ks : KSh} {es : List ME} {es' : Array MapEntry} (M : MapR ι ks es es') {v : V} {v' : Value} (vv : VR ι v v') {i : Nat} {e : ME} (h : es[i]? = some e) :
  MapR ι ks (es.set i ⟨e.k,v,e.b⟩) (es'.modify i fun e => { e with val := v' }) := by
 have hlt : i < es.length := (List.getElem?_eq_some_iff.1 h).1
 have hg : ∀ j : Nat,(es.set i ⟨e.k,v,e.b⟩)[j]? = if i = j then some ⟨e.k,v,e.b⟩ else es[j]? := fun j => by
  rw [List.getElem?_set]
  by_cases e1 : i = j
  ·subst e1; simp [hlt]
  ·simp [e1]
 refine ⟨by simp [M.len],fun j x y hx hy => ?_,fun j x hx => ?_,fun j l x y hx hy hxy => ?_⟩
 ·rw [hg] at hx
  rw [Array.getElem?_modify] at hy
  split at hx
  ·rename_i e1; subst e1
   cases hx
   rw [if_pos rfl] at hy
   obtain ⟨e',he'⟩ := M.other h
   rw [he'] at hy
   cases hy
   have := M.rel i e e' h he'
   exact ⟨this.1,vv,this.2.2⟩
  ·rename_i e1
   rw [if_neg e1] at hy
   exact M.rel j x y hx hy
 ·rw [hg] at hx
  split at hx
  ·cases hx; exact M.sh i e h
  ·exact M.sh j x hx
 ·have key : ∀ (a : Nat) (z : ME),(es.set i ⟨e.k,v,e.b⟩)[a]? = some z → ∃ z0 : ME,es[a]? = some z0 ∧ z0.k = z.k := by
   intro a z hz
   rw [hg] at hz
   split at hz
   ·rename_i e1; subst e1
    cases hz
    exact ⟨e,h,rfl⟩
   ·exact ⟨z,hz,rfl⟩
  obtain ⟨x0,h1,h2⟩ := key j x hx
  obtain ⟨y0,h3,h4⟩ := key l y hy
  exact M.inj j l x0 y0 h1 h3 (by rw [h2,h4]; exact hxy)
theorem i64_has {n : Nat} (h : n ≤ 1152921504606846976) : IntKind.i64.has (n : Int) := by
 unfold IntKind.has IntKind.min IntKind.max
 simp only [IntKind.bits,IntKind.signed,if_true,p63]
 omega
section
variable {P : Program} {E : Env P}
theorem e_men (m k : Arg) (ks : KSh) (z : V) : ESound E (.men m k ks z) := by
 intro n ι A b σ σ' w o vv F L R hok h
 obtain ⟨d,op,ty,pos,af,g⟩ := o
 cases op <;> simp only [okE,Bool.false_eq_true,Bool.and_eq_true] at hok
 rename_i t m' k'
 obtain ⟨⟨h1,h2⟩,h3⟩ := hok
 split at h3
 ·rename_i kt et hu
  simp only [Bool.and_eq_true] at h3
  have K := E.mgood _ (show (kt,ks) ∈ E.mk_ by simpa using h3.1)
  obtain ⟨zv,hz,hzv⟩ := zeroV_inv h3.2
  simp only [eev] at h
  split at h
  ·rename_i hsh
   have vk := ev_sound F L h2
   have hs2 := keyShaped_sound hsh vk
   split at h
   ·rename_i p hm
    split at h
    ·rename_i es ck ks' hg
     split at h
     ·rename_i hks
      have hks : ks' = ks := of_decide_eq_true hks
      subst hks
      split at h
      ·rename_i hck
       have hck := i64_has (ble_le hck)
       obtain ⟨pl,k1,k2,k3⟩ := (ev_as F L h1 hm).map_inv
       obtain ⟨pl',es',j1,j2,j3,j4,j5,j6,j7⟩ := R.ob p _ hg
       rw [k1] at j1; cases j1
       have M : MapR ι ks' es es' := ⟨j4,j5,j6,j7⟩
       have hget : (getObj pl.blk).run P w = .ok (.map es' ck) w := by simp [getObj,Sem.run,j3]
       have hset : ∀ o : Obj,(setObj pl.blk o).run P w = .ok () { w with heap := w.heap.setIfInBounds pl.blk o } := fun o => by simp [setObj,Sem.run,j3]
       rcases M.find K hsh vk w with ⟨h5,h6,h7⟩ | ⟨i,e,e',h5,h6,h7,h8,h9,h10⟩
       ·rw [h5] at h
        simp only [Option.some.injEq,Prod.mk.injEq] at h
        obtain ⟨rfl,rfl⟩ := h
        rw [lapp_eq]
        obtain ⟨q1,q2⟩ := R.setMapOb hg k1 (ck2 := ck + 1) (M.push hsh vk (hzv ι) h7 ck) (N := σ.nx.nat)
        refine ⟨ι,_,Or.inl ⟨.tuple #[zv,.int .i64 (ck : Int)],exv2 (s := Instr.mapEntry t (b.eval m') (b.eval k')) rfl ?_,.mk_tup (.cons (hzv ι) (.cons (.int _ _ hck) .nil))⟩,q1,q2⟩
        rw [k3]
        simp [Instr.mapEntry,run_underlying hu,hget,K.check w false _ hs2,h6,hz,hset,goInt]
       ·rw [h5] at h
        simp only at h
        split at h
        ·rename_i hb
         have hb := i64_has (ble_le hb)
         simp only [Option.some.injEq,Prod.mk.injEq] at h
         obtain ⟨rfl,rfl⟩ := h
         have hr := M.rel i e e' h6 h7
         have hborn : e.b = e'.born := hr.2.2
         refine ⟨ι,w,Or.inl ⟨.tuple #[e'.val,.int .i64 (e.b : Int)],exv2 (s := Instr.mapEntry t (b.eval m') (b.eval k')) rfl ?_,.mk_tup (.cons hr.2.1 (.cons (.int _ _ hb) .nil))⟩,R,G.refl _ _ _ _⟩
         have hmod : es'.modify i (fun e => { e with key := b.eval k' }) = es' := modify_same _ _ _ fun x hx => by
          rw [h7] at hx; cases hx
          rw [← h9]
         rw [k3]
         simp [Instr.mapEntry,run_underlying hu,hget,K.check w false _ hs2,h10,h7,h9,K.stays w _ hs2,hset,goInt,hmod,setIf_same j3,hborn]
        ·cases h
      ·cases h
     ·cases h
    ·cases h
   ·cases h
  ·cases h
 ·cases h3
theorem e_mes (m s v : Arg) : ESound E (.mes m s v) := by
 intro n ι A b σ σ' w o vv F L R hok h
 obtain ⟨d,op,ty,pos,af,g⟩ := o
 cases op <;> simp only [okE,Bool.false_eq_true,Bool.and_eq_true] at hok
 rename_i t m' s' v'
 obtain ⟨⟨h1,h2⟩,h3⟩ := hok
 simp only [eev] at h
 split at h
 ·rename_i p hm
  split at h
  ·rename_i es ck ks hg
   split at h
   ·rename_i k bi hs
    split at h
    ·rename_i bn hb
     have := natOf_inv hb
     subst this
     split at h
     ·rename_i es2 hes2
      simp only [Option.some.injEq,Prod.mk.injEq] at h
      obtain ⟨rfl,rfl⟩ := h
      obtain ⟨pl,k1,k2,k3⟩ := (ev_as F L h1 hm).map_inv
      obtain ⟨k4,_⟩ := (ev_as F L h2 hs).int_inv
      obtain ⟨pl',es',j1,j2,j3,j4,j5,j6,j7⟩ := R.ob p _ hg
      rw [k1] at j1; cases j1
      have M : MapR ι ks es es' := ⟨j4,j5,j6,j7⟩
      have hget : (getObj pl.blk).run P w = .ok (.map es' ck) w := by simp [getObj,Sem.run,j3]
      have hset : ∀ o : Obj,(setObj pl.blk o).run P w = .ok () { w with heap := w.heap.setIfInBounds pl.blk o } := fun o => by simp [setObj,Sem.run,j3]
      obtain ⟨i,e,g1,g2,g3,rfl⟩ := bset_spec bn _ es es2 hes2
      obtain ⟨q1,q2⟩ := R.setMapOb hg k1 (ck2 := ck) (M.setVal (ev_sound F L h3) g1) (N := σ.nx.nat)
      have hfi : es'.findIdx? (fun e => (e.born : Int) == (bn : Int)) = some i := by
       have hlt : i < es.length := (List.getElem?_eq_some_iff.1 g1).1
       have hb : ∀ (j : Nat) (hj : j < es'.size),(es'[j].born : Nat) = (es[j]'(by rw [M.len]; exact hj)).b := fun j hj =>
        (M.rel j _ _ (by simp) (by simp [hj])).2.2.symm
       rw [Array.findIdx?_eq_some_iff_getElem]
       refine ⟨by rw [← M.len]; exact hlt,?_,fun j hj => ?_⟩
       ·have h6 : es[i] = e := (List.getElem?_eq_some_iff.1 g1).2
        rw [hb i (by rw [← M.len]; exact hlt),h6,g2]; simp
       ·rw [hb j (by rw [← M.len]; omega)]
        have := g3 j (es[j]'(by omega)) hj (by simp)
        simp
        omega
      refine ⟨ι,_,Or.inr ⟨exu (s := Instr.entryStore t (b.eval m') (b.eval s') (b.eval v')) rfl ?_,rfl⟩,q1,q2⟩
      rw [k3,k4]
      simp only [Instr.entryStore,Sem.run_bind,hget,Result.andThen_ok,asInt,asIntOf,Sem.run_pure,hfi,hset]
     ·cases h
    ·cases h
   ·cases h
  ·cases h
 ·cases h
theorem VR.itr_inv {ι : Nm} {p : Pos} {y : Value} (h : VR ι (.itr p) y) : ∃ pl,ι p = some pl ∧ pl.kd = 2 ∧ y = .pointer (some ⟨pl.blk,0,none⟩) := by
 cases h with
 | itr _ pl h1 h2 => exact ⟨pl,h1,h2,rfl⟩
theorem lhas_eq (n : Nat) (l : List Nat) : lhas n l = l.contains n := by
 induction l with
 | nil => rfl
 | cons x l ih =>
  have e : lhas n (x :: l) = match Nat.beq x n with | true => true | false => lhas n l := rfl
  rw [e,nbeq_eq,ih,List.contains_cons]
  by_cases h : x = n
  ·subst h; simp
  ·have h' : (n == x) = false := by simp; exact fun e => h e.symm
   simp [h,h']
theorem lleft_eq (seen : List Nat) (es : List ME) : lleft seen es = es.filter fun e => !seen.contains e.b := by
 induction es with
 | nil => rfl
 | cons x l ih =>
  have e : lleft seen (x :: l) = match lhas x.b seen with | true => lleft seen l | false => x :: lleft seen l := rfl
  rw [e,lhas_eq,ih,List.filter_cons]
  cases seen.contains x.b <;> rfl
theorem llast_eq (l : List Nat) : llast l = l.getLast? := by
 induction l with
 | nil => rfl
 | cons x l ih =>
  have e : llast (x :: l) = match llast l with | none => some x | some y => some y := rfl
  rw [e,ih]
  cases l with
  | nil => rfl
  | cons y l => rw [List.getLast?_cons_cons]; cases h : (y :: l).getLast? with
   | none => simp at h
   | some z => rfl
theorem bfind_eq (b : Nat) (es : List ME) : bfind b es = es.find? (fun e => e.b == b) := by
 induction es with
 | nil => rfl
 | cons x l ih =>
  have e : bfind b (x :: l) = match Nat.beq x.b b with | true => some x | false => bfind b l := rfl
  rw [e,ih,List.find?_cons,nbeq_eq]
  by_cases h : x.b = b
  ·simp [h]
  ·have h' : (x.b == b) = false := by simpa using h
   rw [h']; simp [h]
theorem filter_born {ι : Nm} (f : Nat → Bool) : ∀ (es : List ME) (l : List MapEntry),es.length = l.length → (∀ (i : Nat) x y,es[i]? = some x → l[i]? = some y → MER ι x y) →
  (es.filter fun e => f e.b).length = (l.filter fun e => f e.born).length ∧ ∀ (i : Nat) x y,(es.filter fun e => f e.b)[i]? = some x → (l.filter fun e => f e.born)[i]? = some y → MER ι x y
 | [],[],_,_ => ⟨rfl,fun i x y h => by simp at h⟩
 | [],_ :: _,h,_ => by simp at h
 | _ :: _,[],h,_ => by simp at h
 | e :: es,x :: l,h,hr => by
  obtain ⟨h1,h2⟩ := filter_born f es l (by simpa using h) (fun i a b ha hb => hr (i + 1) a b (by simpa using ha) (by simpa using hb))
  have h0 := hr 0 e x rfl rfl
  have hb : e.b = x.born := h0.2.2
  rw [List.filter_cons,List.filter_cons,hb]
  cases hf : f x.born with
  | false => simpa using ⟨h1,h2⟩
  | true =>
   refine ⟨by simp [h1],fun i a b ha hb => ?_⟩
   cases i with
   | zero => simp at ha hb; subst ha; subst hb; exact h0
   | succ i => simp at ha hb; exact h2 i a b ha hb
theorem find_born2 {ι : Nm} (n : Nat) : ∀ (es : List ME) (l : List MapEntry),es.length = l.length → (∀ (i : Nat) x y,es[i]? = some x → l[i]? = some y → MER ι x y) → ∀ e,es.find? (fun e => e.b == n) = some e →
  ∃ x,l.find? (fun e => e.born == n) = some x ∧ MER ι e x
 | [],[],_,_,e,h => by simp at h
 | [],_ :: _,h,_,_,_ => by simp at h
 | _ :: _,[],h,_,_,_ => by simp at h
 | e :: es,x :: l,h,hr,e',he => by
  have h0 := hr 0 e x rfl rfl
  have hb : e.b = x.born := h0.2.2
  rw [List.find?_cons] at he
  rw [List.find?_cons,← hb]
  cases hf : (e.b == n) with
  | true => rw [hf] at he; cases he; exact ⟨x,rfl,h0⟩
  | false =>
   rw [hf] at he
   exact find_born2 n es l (by simpa using h) (fun i a b ha hb => hr (i + 1) a b (by simpa using ha) (by simpa using hb)) e' he
theorem Rep.newIter {ι : Nm} {σ : St} {w : World} (R : Rep ι σ w) {m : Option Pos} {m' : Option Nat} (hm : match m with | none => m' = none | some q => ∃ pq,ι q = some pq ∧ pq.kd = 1 ∧ m' = some pq.blk) (a c : Nat) :
  Rep (nmSet ι σ.nx ⟨w.heap.size,0,0,2⟩) ⟨T.set (.mit m a [] c) σ.nx σ.h,σ.nx.succ⟩ (w.alloc (.mapIter m' a #[] c)) ∧
  G σ.nx.nat ι σ w (nmSet ι σ.nx ⟨w.heap.size,0,0,2⟩) ⟨T.set (.mit m a [] c) σ.nx σ.h,σ.nx.succ⟩ (w.alloc (.mapIter m' a #[] c)) := by
 obtain ⟨h1,h2⟩ := R.fresh
 have hn := Pos.succ_nat σ.nx
 have hx : Ext ι (nmSet ι σ.nx ⟨w.heap.size,0,0,2⟩) := nmSet_ext h1
 refine R.push (nx := σ.nx.succ) h1 h2 (by omega) (by omega) (fun q hq => by cases hq) ?_ ?_ (Nat.le_refl _)
 ·refine ⟨_,m',nmSet_self _ _ _,rfl,by rw [heap_alloc_if,if_pos rfl],?_⟩
  cases m with
  | none => exact hm
  | some q => obtain ⟨pq,k1,k2,k3⟩ := hm; exact ⟨pq,hx _ _ k1,k2,k3⟩
 ·exact ⟨(fun h => by cases h),(fun h => by cases h),(fun _ => ⟨m',a,_,c,by rw [heap_alloc_if,if_pos rfl]⟩),(fun h => by cases h),(by show 2 ≤ 3; omega)⟩
theorem Rep.setIter {ι : Nm} {σ : St} {w : World} (R : Rep ι σ w) {p : Pos} {m : Option Pos} {a : Nat} {sn : List Nat} {c : Nat} (hg : T.get p σ.h = some (.mit m a sn c)) {pl : Pl} (hpl : ι p = some pl) {sn2 : List Nat} {c2 : Nat} {m' : Option Nat} (hb : w.heap[pl.blk]? = some (.mapIter m' a sn.toArray c)) {N : Nat} :
  Rep ι ⟨T.set (.mit m a sn2 c2) p σ.h,σ.nx⟩ { w with heap := w.heap.setIfInBounds pl.blk (.mapIter m' a sn2.toArray c2) } ∧ G N ι σ w ι ⟨T.set (.mit m a sn2 c2) p σ.h,σ.nx⟩ { w with heap := w.heap.setIfInBounds pl.blk (.mapIter m' a sn2.toArray c2) } := by
 obtain ⟨pl0,m0,j1,j2,j3,hm⟩ := R.ob p _ hg
 rw [hpl] at j1; cases j1
 rw [hb] at j3; cases j3
 have hlt : pl.blk < w.heap.size := (Array.getElem?_eq_some_iff.1 hb).1
 have hnew : (w.heap.setIfInBounds pl.blk (.mapIter m' a sn2.toArray c2))[pl.blk]? = some (.mapIter m' a sn2.toArray c2) := by simp [hlt]
 refine R.setOb (ob := .mit m a sn2 c2) (ro := .mapIter m' a sn2.toArray c2) hg rfl rfl rfl rfl hpl ⟨pl,m',hpl,j2,hnew,hm⟩ ?_
 intro pq hb2 hk
 obtain ⟨k0,k1,k2,k4,k3⟩ := hk
 refine ⟨fun h0 => ?_,fun h0 => ?_,fun h0 => ?_,fun h0 => ?_,k3⟩
 ·obtain ⟨c',e',h1,_⟩ := k0 h0
  rw [hb2,hb] at h1; cases h1
 ·obtain ⟨c',e',h1⟩ := k1 h0
  rw [hb2,hb] at h1; cases h1
 ·exact ⟨m',a,_,c2,by rw [hb2]; exact hnew⟩
 ·obtain ⟨c',e',h1⟩ := k4 h0
  rw [hb2,hb] at h1; cases h1
theorem e_rgm (m : Arg) : ESound E (.rgm m) := by
 intro n ι A b σ σ' w o vv F L R hok h
 obtain ⟨d,op,ty,pos,af,g⟩ := o
 cases op <;> simp only [okE,Bool.false_eq_true,Bool.and_eq_true] at hok
 rename_i t m'
 obtain ⟨h1,h2⟩ := hok
 split at h2
 ·rename_i kt et hu
  simp only [eev] at h
  split at h
  ·rename_i hm
   simp only [Option.some.injEq,Prod.mk.injEq] at h
   obtain ⟨rfl,rfl⟩ := h
   have k2 : b.eval m' = .map none := by
    have := ev_as F L h1 hm
    generalize b.eval m' = zz at this
    cases this; rfl
   obtain ⟨q1,q2⟩ := R.newIter (m := none) (m' := none) rfl 0 0
   refine ⟨_,_,Or.inl ⟨.pointer (some ⟨w.heap.size,0,none⟩),exv2 (s := Instr.range t (b.eval m')) rfl ?_,.itr _ _ (nmSet_self _ _ _) rfl⟩,q1,q2⟩
   rw [k2]
   simp only [Instr.range,Sem.run_bind,run_underlying hu,Result.andThen_ok,Sem.run_pure,newObj,Sem.run,Result.andThen]
   rfl
  ·rename_i p hm
   split at h
   ·rename_i es ck ks hg
    simp only [Option.some.injEq,Prod.mk.injEq] at h
    obtain ⟨rfl,rfl⟩ := h
    obtain ⟨pl,k1,k2,k3⟩ := (ev_as F L h1 hm).map_inv
    obtain ⟨pl',es',j1,j2,j3,_⟩ := R.ob p _ hg
    rw [k1] at j1; cases j1
    have hget : (getObj pl.blk).run P w = .ok (.map es' ck) w := by simp [getObj,Sem.run,j3]
    obtain ⟨q1,q2⟩ := R.newIter (m := some p) (m' := some pl.blk) ⟨pl,k1,k2,rfl⟩ ck ck
    refine ⟨_,_,Or.inl ⟨.pointer (some ⟨w.heap.size,0,none⟩),exv2 (s := Instr.range t (b.eval m')) rfl ?_,.itr _ _ (nmSet_self _ _ _) rfl⟩,q1,q2⟩
    rw [k3]
    simp only [Instr.range,Sem.run_bind,run_underlying hu,Result.andThen_ok,hget,Sem.run_pure,newObj,Sem.run,Result.andThen]
    rfl
   ·cases h
  ·cases h
 ·cases h2
theorem e_nxm (m : Arg) : ESound E (.nxm m) := by
 intro n ι A b σ σ' w o vv F L R hok h
 obtain ⟨d,op,ty,pos,af,g⟩ := o
 cases op <;> simp only [okE,Bool.false_eq_true,Bool.and_eq_true] at hok
 rename_i m' s
 obtain ⟨h1,h2⟩ := hok
 have hs : s = false := by cases s <;> first | rfl | cases h2
 subst hs
 simp only [eev] at h
 split at h
 ·rename_i p hm
  obtain ⟨pl,k1,k2,k3⟩ := (ev_as F L h1 hm).itr_inv
  split at h
  ·rename_i q since seen last hg
   obtain ⟨pl',m0,j1,j2,j3,j4⟩ := R.ob p _ hg
   rw [k1] at j1; cases j1
   have hget : (getObj pl.blk).run P w = .ok (.mapIter m0 since seen.toArray last) w := by simp [getObj,Sem.run,j3]
   split at h
   ·have j4 : m0 = none := j4
    subst j4
    simp only [Option.some.injEq,Prod.mk.injEq] at h
    obtain ⟨rfl,rfl⟩ := h
    refine ⟨ι,w,Or.inl ⟨.tuple #[.bool false],exv2 (s := Instr.next (b.eval m') false ty) rfl ?_,.mk_tup (.cons (.bool _) .nil)⟩,R,G.refl _ _ _ _⟩
    rw [k3]
    simp only [Instr.next,Sem.run_bind,hget,Result.andThen_ok,Sem.run_pure]
   ·rename_i q
    obtain ⟨pq,i1,i2,i3⟩ : ∃ pq,ι q = some pq ∧ pq.kd = 1 ∧ m0 = some pq.blk := j4
    subst i3
    split at h
    ·rename_i es ck ks hgm
     obtain ⟨plm,es',l1,l2,l3,l4,l5,l6,l7⟩ := R.ob q _ hgm
     rw [i1] at l1; cases l1
     have hgetm : (getObj pq.blk).run P w = .ok (.map es' ck) w := by simp [getObj,Sem.run,l3]
     split at h
     ·rename_i hst
      have hrel : ∀ (i : Nat) x y,es[i]? = some x → es'.toList[i]? = some y → MER ι x y := fun i x y a c => l5 i x y a (by simpa using c)
      have hlen : es.length = es'.toList.length := by simpa using l4
      have htest : (!seen.toArray.isEmpty && !es'.isEmpty && es'.all (fun x => decide (x.born ≥ last))) = false := by
       cases seen with
       | nil => simp
       | cons s0 sn =>
        cases es with
        | nil =>
         have : es' = #[] := Array.eq_empty_of_size_eq_zero (by simpa using l4.symm)
         subst this; simp
        | cons e0 er =>
         have hst : (!lall (fun e => Nat.ble last e.b) (e0 :: er)) = true := hst
         rw [lall_eq] at hst
         have hn : es'.all (fun x => decide (x.born ≥ last)) = false := by
          rw [Bool.eq_false_iff]
          intro hall
          have : (e0 :: er).all (fun e => Nat.ble last e.b) = true := by
           rw [List.all_eq_true]
           intro e he
           obtain ⟨i,hi,rfl⟩ := List.getElem_of_mem he
           have hi' : i < es'.size := by rw [← l4]; exact hi
           have hb := (l5 i _ _ (List.getElem?_eq_getElem hi) (Array.getElem?_eq_getElem hi')).2.2
           rw [Array.all_eq_true] at hall
           have := hall i hi'
           rw [hb]
           rw [Nat.ble_eq]
           simpa using this
          rw [this] at hst; cases hst
         rw [hn,Bool.and_false]
      have hcan : ∀ L : Array MapEntry,(∀ x ∈ L.toList,x.born < since) → ((if (L.filter (fun x => decide (x.born < since))).isEmpty then #[none] else #[]) ++ ((L.filter (fun x => decide (x.born < since))) ++ (L.filter (fun x => decide (x.born ≥ since)))).map some) = (if L.isEmpty then #[none] else #[]) ++ L.map some := by
       intro L hold
       have e1 : L.filter (fun x => decide (x.born < since)) = L := Array.filter_eq_self.2 (fun x hx => by simpa using hold x (by simpa using hx))
       have e2 : L.filter (fun x => decide (x.born ≥ since)) = #[] := by
        rw [Array.filter_eq_empty_iff]
        intro x hx
        have := hold x (by simpa using hx)
        simp
        omega
       rw [e1,e2,Array.append_empty]
      obtain ⟨f1,f2⟩ := filter_born (ι := ι) (fun n => !seen.contains n) es es'.toList hlen hrel
      have hleft : (es'.filter fun e => !seen.toArray.contains e.born).toList = es'.toList.filter (fun e => !seen.contains e.born) := by
       have hc : ∀ n,seen.toArray.contains n = seen.contains n := fun n => by simp
       simp only [hc,Array.toList_filter]
      rw [lleft_eq] at h
      generalize hL : es'.filter (fun e => !seen.toArray.contains e.born) = L at hleft
      split at h
      ·rename_i hnil
       simp only [Option.some.injEq,Prod.mk.injEq] at h
       obtain ⟨rfl,rfl⟩ := h
       rw [hnil] at f1
       have hL0 : L = #[] := by
        apply Array.toList_inj.1
        rw [hleft]
        exact List.length_eq_zero_iff.1 f1.symm
       subst hL0
       refine ⟨ι,w,Or.inl ⟨.tuple #[.bool false],exv2 (s := Instr.next (b.eval m') false ty) rfl ?_,.mk_tup (.cons (.bool _) .nil)⟩,R,G.refl _ _ _ _⟩
       rw [k3]
       simp only [Instr.next,Sem.run_bind,hget,hgetm,Result.andThen_ok,htest,Bool.false_eq_true,if_false,hL]
       simp [choose,Sem.run,Question.forced,Result.andThen]
      ·rename_i e r hcons
       split at h
       ·split at h
        ·rename_i hlt
         simp only [Option.some.injEq,Prod.mk.injEq] at h
         obtain ⟨rfl,rfl⟩ := h
         rw [hcons] at f1 f2
         obtain ⟨x,hx⟩ : ∃ x,es'.toList.filter (fun e => !seen.contains e.born) = [x] := List.length_eq_one_iff.1 f1.symm
         rw [hx] at f2 hleft
         have hex := f2 0 e x rfl rfl
         have hL0 : L = #[x] := Array.toList_inj.1 hleft
         subst hL0
         have hxlt : x.born < since := by
          have h8 := hex.2.2
          have h9 : e.b < since := by rw [blt_eq] at hlt; simpa using hlt
          omega
         obtain ⟨q1,q2⟩ := R.setIter hg k1 (sn2 := lapp seen [e.b]) (c2 := ck) j3 (N := σ.nx.nat)
         refine ⟨ι,_,Or.inl ⟨.tuple #[.bool true,x.key,x.val],exv2 (s := Instr.next (b.eval m') false ty) rfl ?_,.mk_tup (.cons (.bool _) (.cons hex.1 (.cons hex.2.1 .nil)))⟩,q1,q2⟩
         rw [k3]
         have hset : ∀ o : Obj,(setObj pl.blk o).run P w = .ok () { w with heap := w.heap.setIfInBounds pl.blk o } := fun o => by simp [setObj,Sem.run,j3]
         have hc := hcan #[x] (by intro y hy; simp at hy; subst hy; exact hxlt)
         simp only [Instr.next,Sem.run_bind,hget,hgetm,Result.andThen_ok,htest,Bool.false_eq_true,if_false,hL,hc]
         have hb8 : e.b = x.born := hex.2.2
         simp [choose,Sem.run,Question.forced,hset,lapp_eq,hb8,Result.andThen]
        ·cases h
       ·cases h
     ·cases h
    ·cases h
  ·cases h
 ·cases h
theorem e_ent (m : Arg) : ESound E (.ent m) := by
 intro n ι A b σ σ' w o vv F L R hok h
 obtain ⟨d,op,ty,pos,af,g⟩ := o
 cases op <;> simp only [okE,Bool.false_eq_true,Bool.and_eq_true] at hok
 rename_i m'
 simp only [eev] at h
 split at h
 ·rename_i p hm
  obtain ⟨pl,k1,k2,k3⟩ := (ev_as F L hok hm).itr_inv
  split at h
  ·rename_i q since seen last hg
   obtain ⟨pl',m0,j1,j2,j3,j4⟩ := R.ob p _ hg
   rw [k1] at j1; cases j1
   have hget : (getObj pl.blk).run P w = .ok (.mapIter m0 since seen.toArray last) w := by simp [getObj,Sem.run,j3]
   split at h
   ·cases h
   ·rename_i q
    obtain ⟨pq,i1,i2,i3⟩ : ∃ pq,ι q = some pq ∧ pq.kd = 1 ∧ m0 = some pq.blk := j4
    subst i3
    split at h
    ·rename_i es ck ks hgm
     obtain ⟨plm,es',l1,l2,l3,l4,l5,l6,l7⟩ := R.ob q _ hgm
     rw [i1] at l1; cases l1
     have hgetm : (getObj pq.blk).run P w = .ok (.map es' ck) w := by simp [getObj,Sem.run,l3]
     split at h
     ·rename_i hck
      have hck : ck = last := Nat.eq_of_beq_eq_true hck
      subst hck
      split at h
      ·rename_i st hlast
       rw [llast_eq] at hlast
       split at h
       ·rename_i e he
        rw [bfind_eq] at he
        simp only [Option.some.injEq,Prod.mk.injEq] at h
        obtain ⟨rfl,rfl⟩ := h
        obtain ⟨x,hx,hr⟩ := find_born2 (ι := ι) st es es'.toList (by simpa using l4) (fun i x y a c => l5 i x y a (by simpa using c)) e he
        have hx : es'.find? (fun e => e.born == st) = some x := by rw [← Array.find?_toList]; exact hx
        refine ⟨ι,w,Or.inl ⟨.tuple #[x.key,x.val],exv2 (s := Instr.entry (b.eval m')) rfl ?_,.mk_tup (.cons hr.1 (.cons hr.2.1 .nil))⟩,R,G.refl _ _ _ _⟩
        rw [k3]
        have hbk : seen.toArray.back? = some st := by simpa using hlast
        simp only [Instr.entry,Sem.run_bind,hget,hgetm,Result.andThen_ok,hbk,bne_self_eq_false,Bool.false_eq_true,if_false,hx,Sem.run_pure]
       ·cases h
      ·cases h
     ·cases h
    ·cases h
  ·cases h
 ·cases h
theorem e_cpy (x y : Arg) (esz : Nat) : ESound E (.cpy x y esz) := by
 intro n ι A b σ σ' w o v F L R hok h
 obtain ⟨d,op,ty,pos,af,g⟩ := o
 cases op <;> simp only [okE,Bool.false_eq_true] at hok
 rename_i cc
 obtain ⟨cal,args,ats⟩ := cc
 split at hok
 ·rename_i c' a1 a2 he
  cases he
  split at hok
  ·rename_i d' s' t rest ha ht
   simp only [Bool.and_eq_true] at hok
   obtain ⟨⟨h1,h2⟩,h3⟩ := hok
   split at h3
   ·rename_i e hu
    simp only [Bool.and_eq_true,decide_eq_true_eq] at h3
    obtain ⟨h4,h5⟩ := h3
    have h0 : ats[0]? = some t := by
     have : ats.toList[0]? = some t := by rw [ht]; rfl
     simpa using this
    simp only [eev] at h
    split at h
    ·rename_i src hsrc
     obtain ⟨sa,sl,sc,l',e1,e2,e3,e4,e5,e6⟩ := sliceCells_sound R (ev_sound F L h2) hsrc
     split at h
     ·rename_i p o len cap es hd
      split at h
      ·rename_i hes
       have hes : es = esz := Nat.eq_of_beq_eq_true hes
       subst hes
       obtain ⟨pl,a,c,k1,k2,k3,k4,k5,k6,k7⟩ := (ev_as F L h1 hd).slice_inv
       have hlm : (sl.min len) * es = min (sl * es) (len * es) := by
        rcases Nat.le_total sl len with hh | hh
        ·have : sl * es ≤ len * es := Nat.mul_le_mul_right _ hh
         rw [Nat.min_eq_left this]
         show min sl len * es = _
         rw [Nat.min_eq_left hh]
        ·have : len * es ≤ sl * es := Nat.mul_le_mul_right _ hh
         rw [Nat.min_eq_right this]
         show min sl len * es = _
         rw [Nat.min_eq_right hh]
       have hfc : (Builtin.firstCells es (sl.min len) (.slice sa sl sc)).run P w = .ok (l'.take (len * es)).toArray w := by
        cases sa with
        | none =>
         obtain ⟨rfl,rfl⟩ := e5 rfl
         have : l' = [] := List.length_eq_zero_iff.1 (by rw [e3]; simp)
         subst this
         have := run_firstCells_none (P := P) w es 0 0 0
         simpa using run_firstCells_none (P := P) w es (Nat.min 0 len) 0 0
        | some ad =>
         have hlen : (l'.take (len * es)).length = (sl.min len) * es := by
          rw [List.length_take,e3,hlm,Nat.min_comm]
         refine run_firstCells_some w es (sl.min len) ad sl sc _ hlen ?_
         intro j u hu
         rw [List.getElem?_take] at hu
         split at hu
         ·exact e4 ad rfl j u hu
         ·cases hu
       have hcell : ∀ (w' : World),(match (some a : Option Addr) with | some a => (storeCells a (l'.take (len * es))).run P w | none => .ok () w) = .ok () w' →
         (Builtin.copy_ ats ty #[b.eval d',b.eval s']).run P w = .ok (goInt (sl.min len)) w' := by
        intro w' hst
        rw [k7,e1]
        simp only [Builtin.copy_,h0,List.getElem?_toArray,List.getElem?_cons_zero,List.getElem?_cons_succ,Sem.run_bind,run_underlying hu,Result.andThen_ok,Builtin.lenOf,Sem.run_pure,run_szB h4,hfc]
        simp only at hst
        rw [hst]
        simp only [Result.andThen_ok,Sem.run_pure]
       split at h
       ·rename_i hnil
        split at h
        ·rename_i v0 hv0
         simp only [Option.some.injEq,Prod.mk.injEq] at h
         obtain ⟨rfl,rfl⟩ := h
         rw [ltake_eq] at hnil
         have hlen0 : (l'.take (len * es)) = [] := by
          have h6 := (e2.take (len * es)).1
          have h7 : src.take (len * es) = [] := hnil
          rw [h7] at h6
          exact List.length_eq_zero_iff.1 h6.symm
         have hmin : (sl.min len) = 0 := by
          have h8 : (l'.take (len * es)).length = 0 := by rw [hlen0]; rfl
          rw [List.length_take,e3] at h8
          have h9 : min (sl * es) (len * es) = 0 := by omega
          rw [← hlm] at h9
          rcases Nat.mul_eq_zero.1 h9 with h10 | h10
          ·exact h10
          ·omega
         have hrun := hcell w (by rw [hlen0]; rfl)
         rw [hmin] at hrun
         exact ⟨ι,w,Or.inl ⟨_,extwo (f := Builtin.copy_) (fun _ _ _ _ => rfl) ha hrun,VR.mkLen hv0⟩,R,G.refl _ _ _ _⟩
        ·cases h
       ·rename_i x1 r1 hcons
        split at h
        ·rename_i hpl
         split at h
         ·rename_i l kin fz ro hg
          split at h
          ·rename_i hw
           obtain ⟨rfl,rfl,hle⟩ := wr_inv hw
           have hle := ble_le hle
           rw [llen_eq,llen_eq] at hle
           split at h
           ·rename_i ps os len2 caps ess hsl
            split at h
            ·rename_i v0 hv0
             simp only [Option.some.injEq,Prod.mk.injEq] at h
             obtain ⟨rfl,rfl⟩ := h
             rw [hsl] at e6
             simp only [lenOfV] at e6
             subst e6
             rw [ltake_eq] at hcons
             have hv := e2.take (len * es)
             have hcons' : src.take (len * es) = x1 :: r1 := hcons
             rw [hcons'] at hv
             have hlen1 := hv.1
             have hle : o + (x1 :: r1).length ≤ l.length := hle
             obtain ⟨pl0,c0,e0,g1,g2,g3,g4,g5,g6⟩ := R.ob p _ hg
             rw [k1] at g1; cases g1
             have hc0 : c ≠ 0 := by
              intro hc0
              have : len = 0 := by omega
              subst this
              have h6 : src.take (0 * es) = [] := by simp
              rw [h6] at hcons'; cases hcons'
             have k5 := k5 hc0
             subst k5
             obtain ⟨q1,q2⟩ := R.put (N := σ.nx.nat) hg k1 (o := o) hv hle
             have hst := run_storeCells (P := P) (b := pl.blk) (e := e0) (l'.take (len * es)) w c0 (pl.st + o) 0 (plain_flat hpl hv).1 g3 (by omega)
             rw [Nat.add_zero] at hst
             refine ⟨ι,_,Or.inl ⟨_,extwo (f := Builtin.copy_) (fun _ _ _ _ => rfl) ha (hcell _ hst),VR.mkLen hv0⟩,q1,q2⟩
            ·cases h
           ·cases h
          ·cases h
         ·cases h
        ·cases h
      ·cases h
     ·cases h
    ·cases h
   ·cases h3
  ·cases hok
 ·cases hok
theorem exone {ρ : Operand → Value} {d : Option Tmp} {bb : Builtin} {args : Array Operand} {ats : Array TypeId} {ty : TypeId} {pos : String} {af : Array Edge} {g : Option (Nat × Bool)} {x : Operand} {w w' : World} {v' : Value} {f : Array TypeId → TypeId → Array Value → Sem Value}
  (hbb : ∀ ats ty cs vs,builtin bb ats ty cs vs = (do pure (.value (← f ats ty vs)))) (ha : args.toList = [x]) (h : (f ats ty #[ρ x]).run P w = .ok v' w') : (execOp ρ ⟨d,.call ⟨.builtin bb,args,ats⟩,ty,pos,af,g⟩).run P w = .ok (.value v') w' := by
 obtain rfl : args = #[x] := Array.toList_inj.1 ha
 unfold execOp
 simp only [resolve,invoke,Sem.run_bind,Sem.run_pure,Result.andThen_ok,List.map_toArray,List.map_cons,List.map_nil,hbb,h]
theorem e_clr (x : Arg) (z : List V) (esz : Nat) : ESound E (.clr x z esz) := by
 intro n ι A b σ σ' w o v F L R hok h
 obtain ⟨d,op,ty,pos,af,g⟩ := o
 cases op <;> simp only [okE,Bool.false_eq_true] at hok
 rename_i cc
 obtain ⟨cal,args,ats⟩ := cc
 split at hok
 ·rename_i c' a1 a2 he
  cases he
  split at hok
  ·rename_i s' t rest ha ht
   simp only [Bool.and_eq_true] at hok
   obtain ⟨h1,h3⟩ := hok
   split at h3
   ·rename_i e hu
    simp only [Bool.and_eq_true,beq_iff_eq,decide_eq_true_eq] at h3
    obtain ⟨⟨h4,h5⟩,h6⟩ := h3
    obtain ⟨zv,hz,hzv⟩ := zeroB_inv h4
    have h0 : ats[0]? = some t := by
     have : ats.toList[0]? = some t := by rw [ht]; rfl
     simpa using this
    simp only [eev] at h
    split at h
    ·rename_i hd
     simp only [Option.some.injEq,Prod.mk.injEq] at h
     obtain ⟨rfl,rfl⟩ := h
     have k := (ev_as F L h1 hd).nils_inv
     refine ⟨ι,w,Or.inl ⟨.tuple #[],exone (f := Builtin.clear_) (fun _ _ _ _ => rfl) ha ?_,.mk_tup .nil⟩,R,G.refl _ _ _ _⟩
     rw [k]
     simp [Builtin.clear_,h0,run_underlying hu]
    ·rename_i p o len cap es hd
     obtain ⟨pl,a,c,k1,k2,k3,k4,k5,k6,k7⟩ := (ev_as F L h1 hd).slice_inv
     split at h
     ·simp only [Option.some.injEq,Prod.mk.injEq] at h
      obtain ⟨rfl,rfl⟩ := h
      refine ⟨ι,w,Or.inl ⟨.tuple #[],exone (f := Builtin.clear_) (fun _ _ _ _ => rfl) ha ?_,.mk_tup .nil⟩,R,G.refl _ _ _ _⟩
      rw [k7]
      simp [Builtin.clear_,h0,run_underlying hu]
     ·rename_i m
      split at h
      ·rename_i hpl
       split at h
       ·rename_i l kin fz ro hg
        split at h
        ·rename_i hw
         obtain ⟨rfl,rfl,hle⟩ := wr_inv hw
         have hle := ble_le hle
         rw [llen_eq,llen_eq] at hle
         have hle : o + (lrep z (m + 1)).length ≤ l.length := hle
         simp only [Option.some.injEq,Prod.mk.injEq] at h
         obtain ⟨rfl,rfl⟩ := h
         have hzl : 0 < z.length := by omega
         have hv := zero_row (hzv ι) (m + 1) hzl
         obtain ⟨pl0,c0,e0,g1,g2,g3,g4,g5,g6⟩ := R.ob p _ hg
         rw [k1] at g1; cases g1
         have hc0 : c ≠ 0 := by omega
         have k5 := k5 hc0
         subst k5
         have hsz : zv.cells.size = z.length := by have := (hzv ι).1; simp at this; omega
         have hzc : (Builtin.zeroCells zv.cells (m + 1)).toList = ((Array.range ((m + 1) * z.length)).map (zv.cells[· % zv.cells.size]!)).toList := by
          unfold Builtin.zeroCells
          rw [hsz]
         have hlen := hv.1
         obtain ⟨q1,q2⟩ := R.put (N := σ.nx.nat) hg k1 (o := o) hv hle
         have hst := run_storeCells (P := P) (b := pl.blk) (e := e0) ((Array.range ((m + 1) * z.length)).map (zv.cells[· % zv.cells.size]!)).toList w c0 (pl.st + o) 0 (plain_flat hpl hv).1 g3 (by omega)
         rw [Nat.add_zero] at hst
         refine ⟨ι,_,Or.inl ⟨.tuple #[],exone (f := Builtin.clear_) (fun _ _ _ _ => rfl) ha ?_,.mk_tup .nil⟩,q1,q2⟩
         rw [k7]
         simp only [Builtin.clear_,h0,List.getElem?_toArray,List.getElem?_cons_zero,Sem.run_bind,run_underlying hu,Result.andThen_ok,hz,hzc]
         rw [hst]
         simp only [Result.andThen_ok,Sem.run_pure,Nat.add_zero]
        ·cases h
       ·cases h
      ·cases h
    ·cases h
   ·cases h3
  ·cases hok
 ·cases hok
theorem e_sound (e : EOp) : ESound E e := by
 cases e with
 | st a x n => exact e_st a x n
 | alo z => exact late_sound (l_alo z)
 | box a n => exact late_sound (l_box a n)
 | bsl z ps len esz => exact late_sound (l_bsl z ps len esz)
 | mkm ks => exact e_mkm ks
 | mks len cap z esz bts => exact e_mks len cap z esz bts
 | app s x esz bts str => exact e_app s x esz bts str
 | cpy d s esz => exact e_cpy d s esz
 | clr s z esz => exact e_clr s z esz
 | mup m k v ks => exact e_mup m k v ks
 | mdl m k ks => exact e_mdl m k ks
 | men m k ks z => exact e_men m k ks z
 | mes m s v => exact e_mes m s v
 | rgm m => exact e_rgm m
 | nxm m => exact e_nxm m
 | ent m => exact e_ent m
 | prd a => intro n ι A a σ σ' w o v F L R hok h; simp only [okE,Bool.false_eq_true] at hok
 | pin m k v ks => intro n ι A a σ σ' w o v F L R hok h; simp only [okE,Bool.false_eq_true] at hok
end
end Go.Proofs.YtldidldbhngmnaaGreatDoor
namespace Go.Proofs.YtldidldbhngmnaaGreatDoor
open Go
noncomputable def qevF_mv (a : Arg) (pt : List Nat) (A : T V) (σ : St) : Option V := some (ev A a)
noncomputable def qevF_pick (c : Arg) (a : Arg) (b : Arg) (pt : List Nat) (A : T V) (σ : St) : Option V := (match ev A c with | .bool t => some (match t with | true => ev A a | false => ev A b) | _ => none)
noncomputable def qevF_bld (z : List V) (ps : List (Nat × Nat × Arg)) (pt : List Nat) (A : T V) (σ : St) : Option V := (match bldF A ps z with | some l => some (.agg l) | none => none)
noncomputable def qevF_fadr (a : Arg) (off : Nat) (pt : List Nat) (A : T V) (σ : St) : Option V := (match ev A a with | .ptr p o => some (.ptr p (Nat.add o off)) | _ => none)
noncomputable def qevF_fld (a : Arg) (off : Nat) (n : Nat) (ag : Bool) (pt : List Nat) (A : T V) (σ : St) : Option V := (match ev A a with | .agg l => partA l off n ag | _ => none)
noncomputable def qevF_iadr (a : Arg) (i : Arg) (esz : Nat) (pt : List Nat) (A : T V) (σ : St) : Option V := (match ev A a with
  | .slice p o len _ _ => (match ev A i with | .int _ i => (match natOf i with | some n => (match Nat.blt n len with | true => some (.ptr p (Nat.add o (Nat.mul n esz))) | false => none) | none => none) | _ => none)
  | _ => none)
noncomputable def qevF_iada (a : Arg) (i : Arg) (esz : Nat) (n : Nat) (pt : List Nat) (A : T V) (σ : St) : Option V := (match ev A a with
  | .ptr p o => (match ev A i with | .int _ i => (match natOf i with | some j => (match Nat.blt j n with | true => some (.ptr p (Nat.add o (Nat.mul j esz))) | false => none) | none => none) | _ => none)
  | _ => none)
noncomputable def qevF_idxa (a : Arg) (i : Arg) (esz : Nat) (n : Nat) (ag : Bool) (pt : List Nat) (A : T V) (σ : St) : Option V := (match ev A a with
  | .agg l => (match ev A i with | .int _ i => (match natOf i with | some j => (match Nat.blt j n with | true => partA l (Nat.mul j esz) esz ag | false => none) | none => none) | _ => none)
  | _ => none)
noncomputable def qevF_idxs (a : Arg) (i : Arg) (pt : List Nat) (A : T V) (σ : St) : Option V := (match ev A a with
  | .str l => (match ev A i with | .int _ i => (match natOf i with | some j => (match lget l j with | some b => some (.int .u8 (.ofNat b)) | none => none) | none => none) | _ => none)
  | _ => none)
noncomputable def qevF_nck (a : Arg) (pt : List Nat) (A : T V) (σ : St) : Option V := (match ev A a with
  | .ptr p o => some (.ptr p o)
  | .iface t v => some (.iface t v)
  | .fn f x y => some (.fn f x y)
  | _ => none)
noncomputable def qevF_bin (op : BinOp) (a : Arg) (c : Arg) (pt : List Nat) (A : T V) (σ : St) : Option V := (match ev A a with | .int k x => (match ev A c with | .int k' y => (match beqK k k' with | true => ibin op k x y | false => none) | _ => none) | _ => none)
noncomputable def qevF_shf (left : Bool) (a : Arg) (c : Arg) (pt : List Nat) (A : T V) (σ : St) : Option V := (match ev A a with
  | .int k x => (match ev A c with
   | .int _ y => (match natOf y with
    | some n => (match Nat.ble n 64 with
     | true => some (.int k (wrapK k (match left with | true => Int.mul x (.ofNat (Nat.pow 2 (Nat.min n k.bits))) | false => Int.fdiv x (.ofNat (Nat.pow 2 (Nat.min n k.bits))))))
     | false => none)
    | none => none)
   | _ => none)
  | _ => none)
noncomputable def qevF_cmpb (ne : Bool) (a : Arg) (c : Arg) (pt : List Nat) (A : T V) (σ : St) : Option V := (match ev A a with | .bool x => (match ev A c with | .bool y => some (.bool (xorB ne (!(xorB x y)))) | _ => none) | _ => none)
noncomputable def qevF_cmps (op : BinOp) (a : Arg) (c : Arg) (pt : List Nat) (A : T V) (σ : St) : Option V := (match ev A a with
  | .str x => (match ev A c with
   | .str y => (match op with
    | .add => (match Nat.ble (Nat.add (llen x) (llen y)) 1000000 with | true => some (.str (lapp x y)) | false => none)
    | .eql => some (.bool (nateq x y))
    | .neq => some (.bool (!(nateq x y)))
    | _ => none)
   | _ => none)
  | _ => none)
noncomputable def qevF_eqp (kd : NK) (ne : Bool) (a : Arg) (c : Arg) (pt : List Nat) (A : T V) (σ : St) : Option V := (match eqpV σ pt kd (ev A a) (ev A c) with | some b => some (.bool (xorB ne b)) | none => none)
noncomputable def qevF_eqa (ne : Bool) (sh : List IntKind) (a : Arg) (c : Arg) (pt : List Nat) (A : T V) (σ : St) : Option V := (match ev A a with
  | .agg l => (match ev A c with
   | .agg m => (match shaped sh l with | true => (match shaped sh m with | true => some (.bool (xorB ne (inteq l m))) | false => none) | false => none)
   | _ => none)
  | _ => none)
noncomputable def qevF_not (a : Arg) (pt : List Nat) (A : T V) (σ : St) : Option V := (match ev A a with | .bool b => some (.bool (!b)) | _ => none)
noncomputable def qevF_neg (a : Arg) (pt : List Nat) (A : T V) (σ : St) : Option V := (match ev A a with | .int k n => some (.int k (wrapK k (Int.sub (.ofNat 0) n))) | _ => none)
noncomputable def qevF_inv (a : Arg) (pt : List Nat) (A : T V) (σ : St) : Option V := (match ev A a with
  | .int k n => (match k.signed with | false => some (.int k (wrapK k (.ofNat (Nat.xor (Nat.sub (modK k) 1) (toU (modK k) n))))) | true => none)
  | _ => none)
noncomputable def qevF_cvi (k : IntKind) (a : Arg) (pt : List Nat) (A : T V) (σ : St) : Option V := (match ev A a with | .int _ n => some (.int k (wrapK k n)) | _ => none)
noncomputable def qevF_cvid (a : Arg) (pt : List Nat) (A : T V) (σ : St) : Option V := (match ev A a with | .str l => some (.str l) | _ => none)
noncomputable def qevF_mki (t : Nat) (a : Arg) (pt : List Nat) (A : T V) (σ : St) : Option V := some (.iface t (ev A a))
noncomputable def qevF_mkf (f : Nat) (xs : List Arg) (ys : List Arg) (pt : List Nat) (A : T V) (σ : St) : Option V := some (.fn f (lmap (ev A) xs) (lmap (ev A) ys))
noncomputable def qevF_tas (a : Arg) (t : Nat) (z : V) (ok : Bool) (pt : List Nat) (A : T V) (σ : St) : Option V := (match ev A a with
  | .iface u v => (match Nat.beq u t with
   | true => some (match ok with | true => .tup [v,.bool true] | false => v)
   | false => (match ok with | true => some (.tup [z,.bool false]) | false => none))
  | .nili => (match ok with | true => some (.tup [z,.bool false]) | false => none)
  | _ => none)
noncomputable def qevF_tai (a : Arg) (ts : List Nat) (ok : Bool) (pt : List Nat) (A : T V) (σ : St) : Option V := (match ev A a with
  | .iface u v => (match lall (fun z => !(Nat.beq z (Nat.mul 2 u))) ts with
   | false => some (match ok with | true => .tup [.iface u v,.bool true] | false => .iface u v)
   | true => (match ok with
    | true => (match lall (fun z => !(Nat.beq z (Nat.add (Nat.mul 2 u) 1))) ts with | false => some (.tup [.nili,.bool false]) | true => none)
    | false => none))
  | .nili => (match ok with | true => some (.tup [.nili,.bool false]) | false => none)
  | _ => none)
noncomputable def qevF_ext (a : Arg) (i : Nat) (pt : List Nat) (A : T V) (σ : St) : Option V := (match ev A a with | .tup l => lget l i | _ => none)
noncomputable def qevF_lenv (a : Arg) (pt : List Nat) (A : T V) (σ : St) : Option V := (match ev A a with | .slice _ _ len _ _ => mkLen len | .nils => mkLen 0 | _ => none)
noncomputable def qevF_lens (a : Arg) (pt : List Nat) (A : T V) (σ : St) : Option V := (match ev A a with | .str l => mkLen (llen l) | _ => none)
noncomputable def qevF_lenc (n : Nat) (pt : List Nat) (A : T V) (σ : St) : Option V := mkLen n
noncomputable def qevF_slc (a : Arg) (lo : Option Arg) (hi : Option Arg) (esz : Nat) (pt : List Nat) (A : T V) (σ : St) : Option V := (match ev A a with
  | .slice p o len cap es => (match Nat.beq es esz with
   | true => (match optN A hi len with
    | some h => (match optN A lo 0 with
     | some l => (match Nat.ble l h && Nat.ble h len with
      | true => some (.slice p (Nat.add o (Nat.mul l esz)) (Nat.sub h l) (match cap with | some c => some (Nat.sub c l) | none => none) esz)
      | false => none)
     | none => none)
    | none => none)
   | false => none)
  | .nils => (match optN A hi 0 with
   | some h => (match optN A lo 0 with | some l => (match Nat.beq h 0 && Nat.beq l 0 with | true => some .nils | false => none) | none => none)
   | none => none)
  | _ => none)
noncomputable def qevF_slca (a : Arg) (lo : Option Arg) (hi : Option Arg) (esz : Nat) (n : Nat) (pt : List Nat) (A : T V) (σ : St) : Option V := (match ev A a with
  | .ptr p o => (match T.get p σ.h with
   | some (.cells ls _ _ _) => (match Nat.ble (Nat.add o (Nat.mul n esz)) (llen ls) with
    | true => (match optN A hi n with
     | some h => (match optN A lo 0 with
      | some l => (match Nat.ble l h && Nat.ble h n with
       | true => some (.slice p (Nat.add o (Nat.mul l esz)) (Nat.sub h l) (some (Nat.sub n l)) esz)
       | false => none)
      | none => none)
     | none => none)
    | false => none)
   | _ => none)
  | _ => none)
noncomputable def qevF_slcs (a : Arg) (lo : Option Arg) (hi : Option Arg) (pt : List Nat) (A : T V) (σ : St) : Option V := (match ev A a with
  | .str s => (match optN A hi (llen s) with
   | some h => (match optN A lo 0 with
    | some l => (match Nat.ble l h && Nat.ble h (llen s) with | true => some (.str (ltake (ldrop s l) (Nat.sub h l))) | false => none)
    | none => none)
   | none => none)
  | _ => none)
noncomputable def qevF_mnx (mx : Bool) (a : Arg) (c : Arg) (pt : List Nat) (A : T V) (σ : St) : Option V := (match ev A a with
  | .int k x => (match ev A c with
   | .int k' y => (match beqK k k' with
    | true => some (.int k (match mx with | true => (match ilt x y with | true => y | false => x) | false => (match ilt y x with | true => y | false => x)))
    | false => none)
   | _ => none)
  | _ => none)
noncomputable def qevF_ld1 (a : Arg) (pt : List Nat) (A : T V) (σ : St) : Option V := (match ev A a with | .ptr p o => (match T.get p σ.h with | some (.cells l _ _ _) => lget l o | _ => none) | _ => none)
noncomputable def qevF_ldn (a : Arg) (n : Nat) (pt : List Nat) (A : T V) (σ : St) : Option V := (match ev A a with | .ptr p o => (match T.get p σ.h with | some (.cells l _ _ _) => (match Nat.ble (Nat.add o n) (llen l) with | true => some (.agg (ltake (ldrop l o) n)) | false => none) | _ => none) | _ => none)
noncomputable def qevF_lkp (m : Arg) (k : Arg) (ks : KSh) (z : V) (ok : Bool) (pt : List Nat) (A : T V) (σ : St) : Option V := (match keyShaped ks (ev A k) with
  | true => (match ev A m with
   | .nilm => some (match ok with | true => .tup [z,.bool false] | false => z)
   | .map p => (match T.get p σ.h with
    | some (.map es _ ks') => (match decide (ks' = ks) with
     | true => some (match mfind (ev A k) es with
      | some e => (match ok with | true => .tup [e.v,.bool true] | false => e.v)
      | none => (match ok with | true => .tup [z,.bool false] | false => z))
     | false => none)
    | _ => none)
   | _ => none)
  | false => none)
noncomputable def qevF_lenm (m : Arg) (pt : List Nat) (A : T V) (σ : St) : Option V := (match ev A m with
  | .nilm => mkLen 0
  | .map p => (match T.get p σ.h with | some (.map es _ _) => mkLen (llen es) | _ => none)
  | _ => none)
noncomputable def qevF_wts (g : Arg) (pt : List Nat) (A : T V) (σ : St) : Option V := (match ev A g with | .ptr p o => (match T.get p σ.h with | some (.cells _ _ _ _) => some (.bool false) | _ => none) | _ => none)
noncomputable def qevF (pt : List Nat) (o : QOp) (A : T V) (σ : St) : Option V := match o with
 | .mv a => qevF_mv a pt A σ
 | .pick c a b => qevF_pick c a b pt A σ
 | .bld z ps => qevF_bld z ps pt A σ
 | .fadr a off => qevF_fadr a off pt A σ
 | .fld a off n ag => qevF_fld a off n ag pt A σ
 | .iadr a i esz => qevF_iadr a i esz pt A σ
 | .iada a i esz n => qevF_iada a i esz n pt A σ
 | .idxa a i esz n ag => qevF_idxa a i esz n ag pt A σ
 | .idxs a i => qevF_idxs a i pt A σ
 | .nck a => qevF_nck a pt A σ
 | .bin op a c => qevF_bin op a c pt A σ
 | .shf left a c => qevF_shf left a c pt A σ
 | .cmpb ne a c => qevF_cmpb ne a c pt A σ
 | .cmps op a c => qevF_cmps op a c pt A σ
 | .eqp kd ne a c => qevF_eqp kd ne a c pt A σ
 | .eqa ne sh a c => qevF_eqa ne sh a c pt A σ
 | .not a => qevF_not a pt A σ
 | .neg a => qevF_neg a pt A σ
 | .inv a => qevF_inv a pt A σ
 | .cvi k a => qevF_cvi k a pt A σ
 | .cvid a => qevF_cvid a pt A σ
 | .mki t a => qevF_mki t a pt A σ
 | .mkf f xs ys => qevF_mkf f xs ys pt A σ
 | .tas a t z ok => qevF_tas a t z ok pt A σ
 | .tai a ts ok => qevF_tai a ts ok pt A σ
 | .ext a i => qevF_ext a i pt A σ
 | .lenv a => qevF_lenv a pt A σ
 | .lens a => qevF_lens a pt A σ
 | .lenc n => qevF_lenc n pt A σ
 | .slc a lo hi esz => qevF_slc a lo hi esz pt A σ
 | .slca a lo hi esz n => qevF_slca a lo hi esz n pt A σ
 | .slcs a lo hi => qevF_slcs a lo hi pt A σ
 | .mnx mx a c => qevF_mnx mx a c pt A σ
 | .ld1 a => qevF_ld1 a pt A σ
 | .ldn a n => qevF_ldn a n pt A σ
 | .lkp m k ks z ok => qevF_lkp m k ks z ok pt A σ
 | .lenm m => qevF_lenm m pt A σ
 | .wts g => qevF_wts g pt A σ
theorem qevF_eq : qevF = qev := by
 funext pt o A σ
 cases o <;> rfl
noncomputable def eevF_st (a : Arg) (x : Arg) (n : Nat) (nm : Option Pos) (A : T V) (σ : St) : Option (V × St) := (match ev A a with
  | .ptr p o => (match flat (ev A x) with
   | some vs => (match lall plainV vs && Nat.beq (llen vs) n with
    | true => (match T.get p σ.h with
     | some (.cells l kin fz ro) => (match !fz && !ro && Nat.ble (Nat.add o n) (llen l) with
      | true => some (.u,⟨T.set (.cells (lput l o vs) [] false false) p (kill kin σ.h),σ.nx⟩)
      | false => none)
     | _ => none)
    | false => none)
   | none => none)
  | _ => none)
noncomputable def eevF_alo (z : List V) (nm : Option Pos) (A : T V) (σ : St) : Option (V × St) := some (.ptr (nameOf σ nm) 0,newB σ nm (.cells z [] false false))
noncomputable def eevF_box (a : Arg) (n : Nat) (nm : Option Pos) (A : T V) (σ : St) : Option (V × St) := (match flat (ev A a) with
  | some l => (match Nat.beq (llen l) n with | true => some (.ptr (nameOf σ nm) 0,newB σ nm (.cells l [] false false)) | false => none)
  | none => none)
noncomputable def eevF_bsl (z : List V) (ps : List (Nat × Nat × Arg)) (len : Nat) (esz : Nat) (nm : Option Pos) (A : T V) (σ : St) : Option (V × St) := (match bldF A ps z with
  | some l => some (.slice (nameOf σ nm) 0 len (some len) esz,newB σ nm (.cells l [] false false))
  | none => none)
noncomputable def eevF_mkm (ks : KSh) (nm : Option Pos) (A : T V) (σ : St) : Option (V × St) := some (.map (nameOf σ nm),newB σ nm (.map [] 0 ks))
noncomputable def eevF_mks (len : Arg) (cap : Arg) (z : List V) (esz : Nat) (bts : Nat) (nm : Option Pos) (A : T V) (σ : St) : Option (V × St) := (match ev A len with
  | .int _ l => (match ev A cap with
   | .int _ c => (match natOf l with
    | some l => (match natOf c with
     | some c => (match Nat.ble l c && Nat.ble (Nat.mul c (Nat.add bts 1)) 1099511627776 with
      | true => some (.slice σ.nx 0 l (some c) esz,⟨T.set (.cells (lrep z c) [] false false) σ.nx σ.h,σ.nx.succ⟩)
      | false => none)
     | none => none)
    | none => none)
   | _ => none)
  | _ => none)
noncomputable def eevF_app (s : Arg) (x : Arg) (esz : Nat) (bts : Nat) (str : Bool) (nm : Option Pos) (A : T V) (σ : St) : Option (V × St) := (match srcCells σ (ev A x) esz str with
  | some (n,news) => (match n with
   | 0 => (match ev A s with | .nils => some (.nils,σ) | .slice p o len cap es => (match Nat.beq es esz with | true => some (.slice p o len cap es,σ) | false => none) | _ => none)
   | _ + 1 => (match lall plainV news with
    | true => (match ev A s with
     | .nils => (match Nat.ble (Nat.mul n (Nat.add bts 1)) 1099511627776 with
      | true => some (.slice σ.nx 0 n none esz,⟨T.set (.cells news [] false false) σ.nx σ.h,σ.nx.succ⟩)
      | false => none)
     | .slice p o len cap es => (match Nat.beq es esz && Nat.ble (Nat.mul (Nat.add len n) (Nat.add bts 1)) 1099511627776 with
      | true => (match cap with
       | some c => (match Nat.ble (Nat.add len n) c with
        | true => (match T.get p σ.h with
         | some (.cells l kin fz ro) => (match !fz && !ro && Nat.ble (Nat.add o (Nat.mul (Nat.add len n) esz)) (llen l) with
          | true => some (.slice p o (Nat.add len n) (some c) esz,⟨T.set (.cells (lput l (Nat.add o (Nat.mul len esz)) news) [] false false) p (kill kin σ.h),σ.nx⟩)
          | false => none)
         | _ => none)
        | false => (match sliceCells σ (.slice p o len (some c) esz) esz with
         | some olds => some (.slice σ.nx 0 (Nat.add len n) none esz,⟨T.set (.cells (lapp olds news) [] false false) σ.nx σ.h,σ.nx.succ⟩)
         | none => none))
       | none => (match T.get p σ.h with
        | some (.cells l kin fz ro) => (match !fz && !ro && Nat.ble (Nat.add o (Nat.mul len esz)) (llen l) with
         | true => (match Nat.beq (Nat.add o (Nat.mul len esz)) (llen l) with
          | true => some (.slice σ.nx 0 (Nat.add len n) none esz,⟨T.set (.cells (lapp (ldrop l o) news) (p :: kin) false false) σ.nx (T.set (.cells l kin true false) p σ.h),σ.nx.succ⟩)
          | false => some (.slice σ.nx 0 (Nat.add len n) none esz,⟨T.set (.cells (lapp (ldrop (ltake l (Nat.add o (Nat.mul len esz))) o) news) [p] false false) σ.nx (T.set (.cells (ltake l (Nat.add o (Nat.mul len esz))) [] true false) p (kill kin σ.h)),σ.nx.succ⟩))
         | false => none)
        | _ => none))
      | false => none)
     | _ => none)
    | false => none))
  | none => none)
noncomputable def eevF_cpy (d : Arg) (s : Arg) (esz : Nat) (nm : Option Pos) (A : T V) (σ : St) : Option (V × St) := (match sliceCells σ (ev A s) esz with
  | some src => (match ev A d with
   | .slice p o len cap es => (match Nat.beq es esz with
    | true => (match ltake src (Nat.mul len esz) with
     | [] => (match mkLen 0 with | some v => some (v,σ) | none => none)
     | x :: r => (match lall plainV (x :: r) with
      | true => (match T.get p σ.h with
       | some (.cells l kin fz ro) => (match !fz && !ro && Nat.ble (Nat.add o (llen (x :: r))) (llen l) with
        | true => (match ev A s with
         | .slice _ _ len2 _ _ => (match mkLen (Nat.min len2 len) with
          | some v => some (v,⟨T.set (.cells (lput l o (x :: r)) [] false false) p (kill kin σ.h),σ.nx⟩)
          | none => none)
         | _ => none)
        | false => none)
       | _ => none)
      | false => none))
    | false => none)
   | _ => none)
  | none => none)
noncomputable def eevF_clr (s : Arg) (z : List V) (esz : Nat) (nm : Option Pos) (A : T V) (σ : St) : Option (V × St) := (match ev A s with
  | .nils => some (.tup [],σ)
  | .slice p o len cap es => (match len with
   | 0 => some (.tup [],σ)
   | m + 1 => (match lall plainV (lrep z (Nat.add m 1)) with
    | true => (match T.get p σ.h with
     | some (.cells l kin fz ro) => (match !fz && !ro && Nat.ble (Nat.add o (llen (lrep z (Nat.add m 1)))) (llen l) with
      | true => some (.tup [],⟨T.set (.cells (lput l o (lrep z (Nat.add m 1))) [] false false) p (kill kin σ.h),σ.nx⟩)
      | false => none)
     | _ => none)
    | false => none))
  | _ => none)
noncomputable def eevF_mup (m : Arg) (k : Arg) (v : Arg) (ks : KSh) (nm : Option Pos) (A : T V) (σ : St) : Option (V × St) := (match keyShaped ks (ev A k) with
  | true => (match ev A m with
   | .map p => (match T.get p σ.h with
    | some (.map es ck ks') => (match decide (ks' = ks) with
     | true => (match mfind (ev A k) es with
      | some _ => some (.u,⟨T.set (.map (mset (ev A k) (ev A v) es) ck ks) p σ.h,σ.nx⟩)
      | none => some (.u,⟨T.set (.map (lapp es [⟨ev A k,ev A v,ck⟩]) (Nat.add ck 1) ks) p σ.h,σ.nx⟩))
     | false => none)
    | _ => none)
   | _ => none)
  | false => none)
noncomputable def eevF_mdl (m : Arg) (k : Arg) (ks : KSh) (nm : Option Pos) (A : T V) (σ : St) : Option (V × St) := (match keyShaped ks (ev A k) with
  | true => (match ev A m with
   | .nilm => some (.tup [],σ)
   | .map p => (match T.get p σ.h with
    | some (.map es ck ks') => (match decide (ks' = ks) with
     | true => some (.tup [],⟨T.set (.map (mrem (ev A k) es) ck ks) p σ.h,σ.nx⟩)
     | false => none)
    | _ => none)
   | _ => none)
  | false => none)
noncomputable def eevF_men (m : Arg) (k : Arg) (ks : KSh) (z : V) (nm : Option Pos) (A : T V) (σ : St) : Option (V × St) := (match keyShaped ks (ev A k) with
  | true => (match ev A m with
   | .map p => (match T.get p σ.h with
    | some (.map es ck ks') => (match decide (ks' = ks) with
     | true => (match Nat.ble ck 1152921504606846976 with
      | true => (match mfind (ev A k) es with
       | some e => (match Nat.ble e.b 1152921504606846976 with | true => some (.tup [e.v,.int .i64 (.ofNat e.b)],σ) | false => none)
       | none => some (.tup [z,.int .i64 (.ofNat ck)],⟨T.set (.map (lapp es [⟨ev A k,z,ck⟩]) (Nat.add ck 1) ks) p σ.h,σ.nx⟩))
      | false => none)
     | false => none)
    | _ => none)
   | _ => none)
  | false => none)
noncomputable def eevF_mes (m : Arg) (s : Arg) (v : Arg) (nm : Option Pos) (A : T V) (σ : St) : Option (V × St) := (match ev A m with
  | .map p => (match T.get p σ.h with
   | some (.map es ck ks) => (match ev A s with
    | .int _ b => (match natOf b with
     | some b => (match bset b (ev A v) es with
      | some es' => some (.u,⟨T.set (.map es' ck ks) p σ.h,σ.nx⟩)
      | none => none)
     | none => none)
    | _ => none)
   | _ => none)
  | _ => none)
noncomputable def eevF_rgm (m : Arg) (nm : Option Pos) (A : T V) (σ : St) : Option (V × St) := (match ev A m with
  | .nilm => some (.itr σ.nx,⟨T.set (.mit none 0 [] 0) σ.nx σ.h,σ.nx.succ⟩)
  | .map p => (match T.get p σ.h with
   | some (.map es ck ks) => some (.itr σ.nx,⟨T.set (.mit (some p) ck [] ck) σ.nx σ.h,σ.nx.succ⟩)
   | _ => none)
  | _ => none)
noncomputable def eevF_nxm (m : Arg) (nm : Option Pos) (A : T V) (σ : St) : Option (V × St) := (match ev A m with
  | .itr p => (match T.get p σ.h with
   | some (.mit q since seen last) => (match q with
    | none => some (.tup [.bool false],σ)
    | some q => (match T.get q σ.h with
     | some (.map es ck ks) => (match stepB last seen es with
      | true => (match lleft seen es with
       | [] => some (.tup [.bool false],σ)
       | e :: r => (match r with
        | [] => (match Nat.blt e.b since with
         | true => some (.tup [.bool true,e.k,e.v],⟨T.set (.mit (some q) since (lapp seen [e.b]) ck) p σ.h,σ.nx⟩)
         | false => none)
        | _ :: _ => none))
      | false => none)
     | _ => none))
   | _ => none)
  | _ => none)
noncomputable def eevF_ent (m : Arg) (nm : Option Pos) (A : T V) (σ : St) : Option (V × St) := (match ev A m with
  | .itr p => (match T.get p σ.h with
   | some (.mit q since seen last) => (match q with
    | none => none
    | some q => (match T.get q σ.h with
     | some (.map es ck ks) => (match Nat.beq ck last with
      | true => (match llast seen with
       | some b => (match bfind b es with
        | some e => some (.tup [e.k,e.v],σ)
        | none => none)
       | none => none)
      | false => none)
     | _ => none))
   | _ => none)
  | _ => none)
noncomputable def eevF_prd (a : Arg) (nm : Option Pos) (A : T V) (σ : St) : Option (V × St) := (match nm with
  | some p => (match ev A a with
   | .ptr q o => (match p.beq q with
    | true => (match T.get p σ.h with
     | some (.cells l _ _ _) => (match lget l o with | some v => some (v,σ) | none => none)
     | _ => none)
    | false => none)
   | _ => none)
  | none => none)
noncomputable def eevF_pin (m : Arg) (k : Arg) (v : Arg) (ks : KSh) (nm : Option Pos) (A : T V) (σ : St) : Option (V × St) := (match nm with
  | some p' => (match ev A m with
   | .map q' => (match p'.beq q' with
    | true => (match keyShaped ks (ev A k) with
     | true => (match ev A m with
      | .map p => (match T.get p σ.h with
       | some (.map es ck ks') => (match decide (ks' = ks) with
        | true => (match mfind (ev A k) es with
         | some _ => some (.u,⟨T.set (.map (mset (ev A k) (ev A v) es) ck ks) p σ.h,σ.nx⟩)
         | none => some (.u,⟨T.set (.map (lapp es [⟨ev A k,ev A v,ck⟩]) (Nat.add ck 1) ks) p σ.h,σ.nx⟩))
        | false => none)
       | _ => none)
      | _ => none)
     | false => none)
    | false => none)
   | _ => none)
  | none => none)
noncomputable def eevF (e : EOp) (nm : Option Pos) (A : T V) (σ : St) : Option (V × St) := match e with
 | .st a x n => eevF_st a x n nm A σ
 | .alo z => eevF_alo z nm A σ
 | .box a n => eevF_box a n nm A σ
 | .bsl z ps len esz => eevF_bsl z ps len esz nm A σ
 | .mkm ks => eevF_mkm ks nm A σ
 | .mks len cap z esz bts => eevF_mks len cap z esz bts nm A σ
 | .app s x esz bts str => eevF_app s x esz bts str nm A σ
 | .cpy d s esz => eevF_cpy d s esz nm A σ
 | .clr s z esz => eevF_clr s z esz nm A σ
 | .mup m k v ks => eevF_mup m k v ks nm A σ
 | .mdl m k ks => eevF_mdl m k ks nm A σ
 | .men m k ks z => eevF_men m k ks z nm A σ
 | .mes m s v => eevF_mes m s v nm A σ
 | .rgm m => eevF_rgm m nm A σ
 | .nxm m => eevF_nxm m nm A σ
 | .ent m => eevF_ent m nm A σ
 | .prd a => eevF_prd a nm A σ
 | .pin m k v ks => eevF_pin m k v ks nm A σ
theorem eevF_eq : eevF = eev := by
 funext e nm A σ
 cases e <;> rfl
end Go.Proofs.YtldidldbhngmnaaGreatDoor
namespace Go.Proofs.YtldidldbhngmnaaGreatDoor
open Go
def QOp.args : QOp → List Arg
 | .mv a => [a]
 | .pick c a b => [c,a,b]
 | .bld z ps => ps.map (·.2.2)
 | .fadr a off => [a]
 | .fld a off n ag => [a]
 | .iadr a i esz => [a,i]
 | .iada a i esz n => [a,i]
 | .idxa a i esz n ag => [a,i]
 | .idxs a i => [a,i]
 | .nck a => [a]
 | .bin op a c => [a,c]
 | .shf l a c => [a,c]
 | .cmpb ne a c => [a,c]
 | .cmps op a c => [a,c]
 | .eqp kd ne a c => [a,c]
 | .eqa ne sh a c => [a,c]
 | .not a => [a]
 | .neg a => [a]
 | .inv a => [a]
 | .cvi k a => [a]
 | .cvid a => [a]
 | .mki t a => [a]
 | .mkf f xs ys => xs ++ ys
 | .tas a t z ok => [a]
 | .tai a ts ok => [a]
 | .ext a i => [a]
 | .lenv a => [a]
 | .lens a => [a]
 | .lenc n => []
 | .slc a lo hi esz => a :: (lo.toList ++ hi.toList)
 | .slca a lo hi esz n => a :: (lo.toList ++ hi.toList)
 | .slcs a lo hi => a :: (lo.toList ++ hi.toList)
 | .mnx mx a c => [a,c]
 | .ld1 a => [a]
 | .ldn a n => [a]
 | .lkp m k ks z ok => [m,k]
 | .lenm m => [m]
 | .wts g => [g]
def EOp.args : EOp → List Arg
 | .st a x n => [a,x]
 | .alo z => []
 | .box a n => [a]
 | .bsl z ps len esz => ps.map (·.2.2)
 | .mkm ks => []
 | .mks len cap z esz bts => [len,cap]
 | .app s x esz bts str => [s,x]
 | .cpy d s esz => [d,s]
 | .clr s z esz => [s]
 | .mup m k v ks => [m,k,v]
 | .mdl m k ks => [m,k]
 | .men m k ks z => [m,k]
 | .mes m s v => [m,s,v]
 | .rgm m => [m]
 | .nxm m => [m]
 | .ent m => [m]
 | .prd a => [a]
 | .pin m k v ks => [m,k,v]
theorem bldF_congr {A A' : T V} : ∀ (ps : List (Nat × Nat × Arg)),(∀ p ∈ ps,ev A p.2.2 = ev A' p.2.2) → bldF A ps = bldF A' ps
 | [],_ => rfl
 | p :: ps,h => by
  funext z
  have e : ∀ B : T V,bldF B (p :: ps) z = match flat (ev B p.2.2) with
   | none => none
   | some l => (match Nat.beq (llen l) p.2.1 && Nat.ble (Nat.add p.1 p.2.1) (llen z) with | true => bldF B ps (lsplice z p.1 l) | false => none) := fun _ => rfl
  rw [e,e,h p (by simp),bldF_congr ps (fun q hq => h q (by simp [hq]))]
theorem optN_congr {A A' : T V} {x : Option Arg} (h : ∀ y,x = some y → ev A y = ev A' y) : ∀ d,optN A x d = optN A' x d := by
 intro d
 cases x with
 | none => rfl
 | some y => simp only [optN,h y rfl]
theorem qev_congr {pt : List Nat} {o : QOp} {A A' : T V} {σ : St} (h : ∀ x ∈ o.args,ev A x = ev A' x) : qev pt o A σ = qev pt o A' σ := by
 cases o with
 | mv a =>
  have h0 := h a (by simp [QOp.args])
  simp only [qev,h0]
 | pick c a b =>
  have h0 := h c (by simp [QOp.args])
  have h1 := h a (by simp [QOp.args])
  have h2 := h b (by simp [QOp.args])
  simp only [qev,h0,h1,h2]
 | bld z ps =>
  have h0 := bldF_congr ps (fun p hp => h p.2.2 (by simp only [QOp.args,List.mem_map]; exact ⟨p,hp,rfl⟩))
  simp only [qev,h0]
 | fadr a off =>
  have h0 := h a (by simp [QOp.args])
  simp only [qev,h0]
 | fld a off n ag =>
  have h0 := h a (by simp [QOp.args])
  simp only [qev,h0]
 | iadr a i esz =>
  have h0 := h a (by simp [QOp.args])
  have h1 := h i (by simp [QOp.args])
  simp only [qev,h0,h1]
 | iada a i esz n =>
  have h0 := h a (by simp [QOp.args])
  have h1 := h i (by simp [QOp.args])
  simp only [qev,h0,h1]
 | idxa a i esz n ag =>
  have h0 := h a (by simp [QOp.args])
  have h1 := h i (by simp [QOp.args])
  simp only [qev,h0,h1]
 | idxs a i =>
  have h0 := h a (by simp [QOp.args])
  have h1 := h i (by simp [QOp.args])
  simp only [qev,h0,h1]
 | nck a =>
  have h0 := h a (by simp [QOp.args])
  simp only [qev,h0]
 | bin op a c =>
  have h0 := h a (by simp [QOp.args])
  have h1 := h c (by simp [QOp.args])
  simp only [qev,h0,h1]
 | shf l a c =>
  have h0 := h a (by simp [QOp.args])
  have h1 := h c (by simp [QOp.args])
  simp only [qev,h0,h1]
 | cmpb ne a c =>
  have h0 := h a (by simp [QOp.args])
  have h1 := h c (by simp [QOp.args])
  simp only [qev,h0,h1]
 | cmps op a c =>
  have h0 := h a (by simp [QOp.args])
  have h1 := h c (by simp [QOp.args])
  simp only [qev,h0,h1]
 | eqp kd ne a c =>
  have h0 := h a (by simp [QOp.args])
  have h1 := h c (by simp [QOp.args])
  simp only [qev,h0,h1]
 | eqa ne sh a c =>
  have h0 := h a (by simp [QOp.args])
  have h1 := h c (by simp [QOp.args])
  simp only [qev,h0,h1]
 | not a =>
  have h0 := h a (by simp [QOp.args])
  simp only [qev,h0]
 | neg a =>
  have h0 := h a (by simp [QOp.args])
  simp only [qev,h0]
 | inv a =>
  have h0 := h a (by simp [QOp.args])
  simp only [qev,h0]
 | cvi k a =>
  have h0 := h a (by simp [QOp.args])
  simp only [qev,h0]
 | cvid a =>
  have h0 := h a (by simp [QOp.args])
  simp only [qev,h0]
 | mki t a =>
  have h0 := h a (by simp [QOp.args])
  simp only [qev,h0]
 | mkf f xs ys =>
  have h0 : lmap (ev A) xs = lmap (ev A') xs := by rw [lmap_eq,lmap_eq]; exact List.map_congr_left fun x hx => h x (by simp [QOp.args,hx])
  have h1 : lmap (ev A) ys = lmap (ev A') ys := by rw [lmap_eq,lmap_eq]; exact List.map_congr_left fun x hx => h x (by simp [QOp.args,hx])
  simp only [qev,h0,h1]
 | tas a t z ok =>
  have h0 := h a (by simp [QOp.args])
  simp only [qev,h0]
 | tai a ts ok =>
  have h0 := h a (by simp [QOp.args])
  simp only [qev,h0]
 | ext a i =>
  have h0 := h a (by simp [QOp.args])
  simp only [qev,h0]
 | lenv a =>
  have h0 := h a (by simp [QOp.args])
  simp only [qev,h0]
 | lens a =>
  have h0 := h a (by simp [QOp.args])
  simp only [qev,h0]
 | lenc n =>
  rfl
 | slc a lo hi esz =>
  have h0 := h a (by simp [QOp.args])
  have h1 : ∀ d,optN A lo d = optN A' lo d := optN_congr fun x hx => h x (by simp [QOp.args,hx])
  have h2 : ∀ d,optN A hi d = optN A' hi d := optN_congr fun x hx => h x (by simp [QOp.args,hx])
  simp only [qev,h0,h1,h2]
 | slca a lo hi esz n =>
  have h0 := h a (by simp [QOp.args])
  have h1 : ∀ d,optN A lo d = optN A' lo d := optN_congr fun x hx => h x (by simp [QOp.args,hx])
  have h2 : ∀ d,optN A hi d = optN A' hi d := optN_congr fun x hx => h x (by simp [QOp.args,hx])
  simp only [qev,h0,h1,h2]
 | slcs a lo hi =>
  have h0 := h a (by simp [QOp.args])
  have h1 : ∀ d,optN A lo d = optN A' lo d := optN_congr fun x hx => h x (by simp [QOp.args,hx])
  have h2 : ∀ d,optN A hi d = optN A' hi d := optN_congr fun x hx => h x (by simp [QOp.args,hx])
  simp only [qev,h0,h1,h2]
 | mnx mx a c =>
  have h0 := h a (by simp [QOp.args])
  have h1 := h c (by simp [QOp.args])
  simp only [qev,h0,h1]
 | ld1 a =>
  have h0 := h a (by simp [QOp.args])
  simp only [qev,h0]
 | ldn a n =>
  have h0 := h a (by simp [QOp.args])
  simp only [qev,h0]
 | lkp m k ks z ok =>
  have h0 := h m (by simp [QOp.args])
  have h1 := h k (by simp [QOp.args])
  simp only [qev,h0,h1]
 | lenm m =>
  have h0 := h m (by simp [QOp.args])
  simp only [qev,h0]
 | wts g =>
  have h0 := h g (by simp [QOp.args])
  simp only [qev,h0]
theorem eev_congr {o : EOp} {nm : Option Pos} {A A' : T V} {σ : St} (h : ∀ x ∈ o.args,ev A x = ev A' x) : eev o nm A σ = eev o nm A' σ := by
 cases o with
 | st a x n =>
  have h0 := h a (by simp [EOp.args])
  have h1 := h x (by simp [EOp.args])
  simp only [eev,h0,h1]
 | alo z =>
  rfl
 | box a n =>
  have h0 := h a (by simp [EOp.args])
  simp only [eev,h0]
 | bsl z ps len esz =>
  have h0 := bldF_congr ps (fun p hp => h p.2.2 (by simp only [EOp.args,List.mem_map]; exact ⟨p,hp,rfl⟩))
  simp only [eev,h0]
 | mkm ks =>
  rfl
 | mks len cap z esz bts =>
  have h0 := h len (by simp [EOp.args])
  have h1 := h cap (by simp [EOp.args])
  simp only [eev,h0,h1]
 | app s x esz bts str =>
  have h0 := h s (by simp [EOp.args])
  have h1 := h x (by simp [EOp.args])
  simp only [eev,h0,h1]
 | cpy d s esz =>
  have h0 := h d (by simp [EOp.args])
  have h1 := h s (by simp [EOp.args])
  simp only [eev,h0,h1]
 | clr s z esz =>
  have h0 := h s (by simp [EOp.args])
  simp only [eev,h0]
 | mup m k v ks =>
  have h0 := h m (by simp [EOp.args])
  have h1 := h k (by simp [EOp.args])
  have h2 := h v (by simp [EOp.args])
  simp only [eev,h0,h1,h2]
 | mdl m k ks =>
  have h0 := h m (by simp [EOp.args])
  have h1 := h k (by simp [EOp.args])
  simp only [eev,h0,h1]
 | men m k ks z =>
  have h0 := h m (by simp [EOp.args])
  have h1 := h k (by simp [EOp.args])
  simp only [eev,h0,h1]
 | mes m s v =>
  have h0 := h m (by simp [EOp.args])
  have h1 := h s (by simp [EOp.args])
  have h2 := h v (by simp [EOp.args])
  simp only [eev,h0,h1,h2]
 | rgm m =>
  have h0 := h m (by simp [EOp.args])
  simp only [eev,h0]
 | nxm m =>
  have h0 := h m (by simp [EOp.args])
  simp only [eev,h0]
 | ent m =>
  have h0 := h m (by simp [EOp.args])
  simp only [eev,h0]
 | prd a =>
  have h0 := h a (by simp [EOp.args])
  simp only [eev,h0]
 | pin m k v ks =>
  have h0 := h m (by simp [EOp.args])
  have h1 := h k (by simp [EOp.args])
  have h2 := h v (by simp [EOp.args])
  simp only [eev,h0,h1,h2]
inductive XOp where
 | q (o : QOp)
 | e (o : EOp)
 | l (o : EOp) (j : Nat)
 | call (f : Pos) (as_ : List Arg)
 | callv (g : Arg) (as_ : List Arg)
 | inv (r : Arg) (name : String) (as_ : List Arg)
 | bad
def XOp.args : XOp → List Arg
 | .q o => o.args | .e o => o.args | .l o _ => o.args | .call _ as_ => as_ | .callv g as_ => g :: as_ | .inv r _ as_ => r :: as_ | .bad => []
structure RO where
 idx : Nat
 dst : Option Pos
 op : XOp
 gd : Option (Pos × Bool)
 re : List (Pos × QOp × Option (Pos × Bool))
inductive RV where
 | t (p : Pos) | c1 (p : Pos) | cn (p : Pos) (n : Nat)
inductive IR where
 | skip
 | reg (l : List RO)
 | rgd (k : Nat) (l : List RO)
 | seq (a b : IR)
 | cnd (c : Arg) (a b : IR)
 | blk (i : Nat) (b : IR)
 | loop (b : IR)
 | exit (i : Nat)
 | ret
 | bad
inductive FnE where
 | code (n : Nat) (body : IR) (res : List RV)
 | spec (s : Nat)
structure Mach where
 tab : T FnE
 spec : Nat → List V → St → Option (V × St)
 pt : List Nat
 mt : List (Nat × String × Pos)
inductive XE where | nrm | ext (i : Nat) | ret
noncomputable def wantG (A : T V) (g : Option (Pos × Bool)) : Option Bool := match g with
 | none => some true
 | some (p,b) => (match ev A (.s p) with | .bool c => some (match b with | true => c | false => !c) | .tup _ => some false | _ => none)
noncomputable def putD (A : T V) (d : Option Pos) (v : V) : T V := match d with | some p => T.set v p A | none => A
noncomputable def veq0 (x y : V) : Bool := match x with
 | .bool a => (match y with | .bool b => (match a with | true => b | false => !b) | _ => false)
 | .int k a => (match y with | .int k' b => (match beqK k k' with | true => ieq a b | false => false) | _ => false)
 | .str a => (match y with | .str b => nateq a b | _ => false)
 | .nilp => (match y with | .nilp => true | _ => false)
 | .ptr p o => (match y with | .ptr q o' => (match p.beq q with | true => Nat.beq o o' | false => false) | _ => false)
 | .nils => (match y with | .nils => true | _ => false)
 | .slice p o l c e => (match y with
  | .slice p' o' l' c' e' => (match p.beq p' && Nat.beq o o' && Nat.beq l l' && Nat.beq e e' with
   | true => (match c with | none => (match c' with | none => true | some _ => false) | some a => (match c' with | none => false | some b => Nat.beq a b))
   | false => false)
  | _ => false)
 | .nilm => (match y with | .nilm => true | _ => false)
 | .map p => (match y with | .map q => p.beq q | _ => false)
 | .nilf => (match y with | .nilf => true | _ => false)
 | .fn f [] [] => (match y with | .fn f' [] [] => Nat.beq f f' | _ => false)
 | .nili => (match y with | .nili => true | _ => false)
 | _ => false
noncomputable def veqL (f : V → V → Bool) (l : List V) : List V → Bool := List.rec (motive := fun _ => List V → Bool) (fun m => match m with | [] => true | _ :: _ => false)
 (fun x _ ih m => match m with | [] => false | y :: m => (match f x y with | true => ih m | false => false)) l
noncomputable def veqS (f : V → V → Bool) (x y : V) : Bool := match x with
 | .agg l => (match y with | .agg m => veqL f l m | _ => false)
 | .iface t v => (match y with | .iface u w => (match Nat.beq t u with | true => f v w | false => false) | _ => false)
 | .tup l => (match y with | .tup m => veqL f l m | _ => false)
 | x => veq0 x y
noncomputable def veq (x y : V) : Bool := veqS (veqS (veqS veq0)) x y
noncomputable def rechk (pt : List Nat) (A : T V) (σ : St) (l : List (Pos × QOp × Option (Pos × Bool))) : Bool := List.rec (motive := fun _ => Bool) true
 (fun r _ ih => match wantG A r.2.2 with
  | none => false
  | some false => ih
  | some true => (match qevF pt r.2.1 A σ with | some v => (match veq v (ev A (.s r.1)) with | true => ih | false => false) | none => false)) l
noncomputable def natPos (n : Nat) : Pos := Nat.rec (motive := fun _ => Pos) .H (fun _ p => p.succ) n
noncomputable def mtFind (l : List (Nat × String × Pos)) (t : Nat) (name : String) : Option Pos := List.rec (motive := fun _ => Option Pos) none (fun x _ ih => match Nat.beq x.1 t && decide (x.2.1 = name) with | true => some x.2.2 | false => ih) l
noncomputable def frameOf (l : List V) : Pos → T V → T V := List.rec (motive := fun _ => Pos → T V → T V) (fun _ t => t) (fun v _ ih p t => ih p.succ (T.set v p t)) l
noncomputable def namesOf (k : Nat) : Pos → List Pos × Pos := Nat.rec (motive := fun _ => Pos → List Pos × Pos) (fun p => ([],p)) (fun _ ih p => (p :: (ih p.succ).1,(ih p.succ).2)) k
noncomputable def xfin (M : Mach) (ro : RO) (A : T V) (r : Option (V × St)) : Option (T V × St) := match r with
 | none => none
 | some (v,σ) => (match rechk M.pt (putD A ro.dst v) σ ro.re with | true => some (putD A ro.dst v,σ) | false => none)
noncomputable def xQ (M : Mach) (o : QOp) (A : T V) (σ : St) : Option (V × St) := match qevF M.pt o A σ with | some v => some (v,σ) | none => none
noncomputable def xL (nms : List Pos) (o : EOp) (j : Nat) (A : T V) (σ : St) : Option (V × St) := match lget nms j with | some p => (match T.get p σ.h with | none => eevF o (some p) A σ | some _ => (match isPv o with | true => eevF o (some p) A σ | false => none)) | none => none
noncomputable def xCallv (call : Pos → List V → St → Option (V × St)) (g : Arg) (l : List Arg) (A : T V) (σ : St) : Option (V × St) := match ev A g with | .fn f x y => call (natPos f) (lapp x (lapp (lmap (ev A) l) y)) σ | _ => none
noncomputable def xInv (M : Mach) (call : Pos → List V → St → Option (V × St)) (r : Arg) (name : String) (l : List Arg) (A : T V) (σ : St) : Option (V × St) := match ev A r with | .iface t v => (match mtFind M.mt t name with | some f => call f (v :: lmap (ev A) l) σ | none => none) | _ => none
noncomputable def xop (M : Mach) (call : Pos → List V → St → Option (V × St)) (nms : List Pos) (x : XOp) (A : T V) (σ : St) : Option (V × St) := match x with
 | .q o => xQ M o A σ
 | .e o => eevF o none A σ
 | .l o j => xL nms o j A σ
 | .call f l => call f (lmap (ev A) l) σ
 | .callv g l => xCallv call g l A σ
 | .inv r name l => xInv M call r name l A σ
 | .bad => none
noncomputable def xstep (M : Mach) (call : Pos → List V → St → Option (V × St)) (nms : List Pos) (ro : RO) (A : T V) (σ : St) : Option (T V × St) := match wantG A ro.gd with
 | none => none
 | some false => some (putD A ro.dst (.tup []),σ)
 | some true => xfin M ro A (xop M call nms ro.op A σ)
noncomputable def runR (M : Mach) (call : Pos → List V → St → Option (V × St)) (nms : List Pos) (l : List RO) : T V → St → Option (T V × St) := List.rec (motive := fun _ => T V → St → Option (T V × St)) (fun A σ => some (A,σ))
 (fun ro _ ih A σ => match xstep M call nms ro A σ with | none => none | some (A',σ') => ih A' σ') l
noncomputable def loopF (b : T V → St → Option (XE × T V × St)) (n : Nat) : T V → St → Option (XE × T V × St) := Nat.rec (motive := fun _ => T V → St → Option (XE × T V × St)) (fun _ _ => none)
 (fun _ ih A σ => match b A σ with | none => none | some (x,A',σ') => (match x with | .nrm => ih A' σ' | x => some (x,A',σ'))) n
noncomputable def eReg (M : Mach) (call : Pos → List V → St → Option (V × St)) (l : List RO) (A : T V) (σ : St) : Option (XE × T V × St) := match runR M call [] l A σ with | none => none | some (A',σ') => some (.nrm,A',σ')
noncomputable def eRgd (M : Mach) (call : Pos → List V → St → Option (V × St)) (k : Nat) (l : List RO) (A : T V) (σ : St) : Option (XE × T V × St) := match namesOf k σ.nx with | (nms,nx) => (match runR M call nms l A ⟨σ.h,nx⟩ with | none => none | some (A',σ') => some (.nrm,A',σ'))
noncomputable def eSeq (fa fb : T V → St → Option (XE × T V × St)) (A : T V) (σ : St) : Option (XE × T V × St) := match fa A σ with | none => none | some (x,A',σ') => (match x with | .nrm => fb A' σ' | x => some (x,A',σ'))
noncomputable def eCnd (c : Arg) (fa fb : T V → St → Option (XE × T V × St)) (A : T V) (σ : St) : Option (XE × T V × St) := match ev A c with | .bool t => (match t with | true => fa A σ | false => fb A σ) | _ => none
noncomputable def eBlk (i : Nat) (f : T V → St → Option (XE × T V × St)) (A : T V) (σ : St) : Option (XE × T V × St) := match f A σ with | none => none | some (x,A',σ') => (match x with | .ext j => (match Nat.beq j i with | true => some (.nrm,A',σ') | false => some (.ext j,A',σ')) | x => some (x,A',σ'))
noncomputable def exec (M : Mach) (call : Pos → List V → St → Option (V × St)) (n : Nat) (c : IR) : T V → St → Option (XE × T V × St) := IR.rec (motive := fun _ => T V → St → Option (XE × T V × St))
 (fun A σ => some (.nrm,A,σ))
 (fun l => eReg M call l)
 (fun k l => eRgd M call k l)
 (fun _ _ iha ihb => eSeq iha ihb)
 (fun c _ _ iha ihb => eCnd c iha ihb)
 (fun i _ ih => eBlk i ih)
 (fun _ ih => loopF ih n)
 (fun i A σ => some (.ext i,A,σ))
 (fun A σ => some (.ret,A,σ))
 (fun _ _ => none) c
noncomputable def resF (l : List RV) (A : T V) (σ : St) : Option (List V) := List.rec (motive := fun _ => Option (List V)) (some []) (fun r _ ih => match ih with
 | none => none
 | some vs => (match (match r with | .t p => some (ev A (.s p)) | .c1 p => qevF_ld1 (.s p) [] A σ | .cn p n => qevF_ldn (.s p) n [] A σ) with | some v => some (v :: vs) | none => none)) l
noncomputable def one (l : List V) : V := match l with | [v] => v | l => .tup l
noncomputable def runFn1 (M : Mach) (call : Pos → List V → St → Option (V × St)) (n : Nat) (f : Pos) (vs : List V) (σ : St) : Option (V × St) := match T.get f M.tab with
 | none => none
 | some (.spec s) => M.spec s vs σ
 | some (.code nt b res) => (match Nat.ble (llen vs) nt with
  | false => none
  | true => (match exec M call n b (frameOf vs .H .nil) σ with
   | none => none
   | some (x,A,σ') => (match x with
    | .ext _ => none
    | _ => (match resF res A σ' with | some l => some (one l,σ') | none => none))))
noncomputable def runFn (M : Mach) (n : Nat) : Pos → List V → St → Option (V × St) := Nat.rec (motive := fun _ => Pos → List V → St → Option (V × St)) (fun _ _ _ => none) (fun n ih => runFn1 M ih n) n
end Go.Proofs.YtldidldbhngmnaaGreatDoor
namespace Go.Proofs.YtldidldbhngmnaaGreatDoor
open Go
def isLate (e : EOp) : Bool := match e with | .alo _ => true | .box _ _ => true | .bsl _ _ _ _ => true | .mkm _ => true | _ => false
section
variable {P : Program}
def okX (E : Env P) (x : XOp) (op : Op) : Bool := match x with
 | .q o => okQ E o op
 | .e o => okE E o op
 | .l o _ => (okE E o op && isLate o) || okP E o op
 | .call f l => (match op with | .call ⟨.value (.func g),args,_⟩ => f.nat == g + 1 && okAs E.ng l args.toList | _ => false)
 | .callv g l => (match op with | .call ⟨.value x,args,_⟩ => okA E.ng g x && okAs E.ng l args.toList | _ => false)
 | .inv r name l => (match op with | .call ⟨.invoke x name',args,_⟩ => decide (name = name') && okA E.ng r x && okAs E.ng l args.toList | _ => false)
 | .bad => true
def okDst (n : Nat) (d : Option Pos) (t : Option Tmp) : Bool := match d,t with | none,none => true | some p,some t => p.nat == t + 1 && decide (t < n) | _,_ => false
def okGd (ops : Array Oper) (g : Option (Pos × Bool)) (h : Option (Nat × Bool)) : Bool := match g,h with
 | none,none => true
 | some (p,b),some (j,c) => b == c && (match (ops[j]?).bind (·.dst) with | some t => p.nat == t + 1 | none => false)
 | _,_ => false
def okRO (E : Env P) (n : Nat) (ops : Array Oper) (r : RO) (o : Oper) : Bool := okX E r.op o.op && okDst n r.dst o.dst && okGd ops r.gd o.guard
def isL : XOp → Bool | .l _ _ => true | _ => false
def okROs (E : Env P) (n : Nat) (ops : Array Oper) : List RO → List Oper → Bool
 | [],[] => true
 | r :: l,o :: m => okRO E n ops r o && !isL r.op && okROs E n ops l m
 | _,_ => false
def Post (ι : Nm) (σ : St) (w : World) (v : V) (σ' : St) : Ending → World → Prop := fun e w' => ∃ ι' v',e = .returned v' ∧ VR ι' v v' ∧ Rep ι' σ' w' ∧ G σ.nx.nat ι σ w ι' σ' w'
def CallOK (P : Program) (ng : GS) (call : Pos → List V → St → Option (V × St)) : Prop := ∀ f vs σ v σ',call f vs σ = some (v,σ') →
 (∃ fn,P.funcs[f.nat - 1]? = some fn ∧ fn.body.isSome = true ∧ (fn.name == "runtime.NumGoroutine") = false) ∧
 ∀ (ι : Nm) (w : World) (args : Array Value),Gl ng ι → Rep ι σ w → VRs ι vs args.toList → Calls P (f.nat - 1) args w (Post ι σ w v σ')
structure MtOk (P : Program) (mt : List (Nat × String × Pos)) : Prop where
 ok : ∀ x ∈ mt,∀ (v : Value) (w : World),(method (P.types.size + Made.depth) x.1 v x.2.1).run P w = .ok (x.2.2.nat - 1,v) w
theorem natPos_nat (n : Nat) : (natPos n).nat = n + 1 := by
 induction n with
 | zero => rfl
 | succ n ih =>
  have : natPos (n + 1) = (natPos n).succ := rfl
  rw [this,Pos.succ_nat,ih]
theorem mtFind_mem {l : List (Nat × String × Pos)} {t : Nat} {name : String} {f : Pos} (h : mtFind l t name = some f) : (t,name,f) ∈ l := by
 induction l with
 | nil => cases h
 | cons x l ih =>
  have e : mtFind (x :: l) t name = match Nat.beq x.1 t && decide (x.2.1 = name) with | true => some x.2.2 | false => mtFind l t name := rfl
  rw [e] at h
  split at h
  ·rename_i hb
   simp only [Bool.and_eq_true,decide_eq_true_eq] at hb
   have h1 := Nat.eq_of_beq_eq_true hb.1
   cases h
   obtain ⟨a,b,c⟩ := x
   simp only at h1 hb
   rw [← h1,← hb.2]
   simp
  ·exact List.mem_cons_of_mem _ (ih h)
theorem run_callFunc {f : Nat} {args : Array Value} {fn : Func} (hf : P.funcs[f]? = some fn) (hb : fn.body.isSome = true) (hn : (fn.name == "runtime.NumGoroutine") = false) (w : World) :
  (callFunc f args).run P w = .ok (.enter f args) w := by
 have hb' : fn.body ≠ none := fun h => by rw [h] at hb; cases hb
 have hn' : fn.name ≠ "runtime.NumGoroutine" := by simpa using hn
 simp [callFunc,program,Sem.run,hf,hn',hb']
theorem call_sound {ng : GS} {call : Pos → List V → St → Option (V × St)} (hc : CallOK P ng call) {f : Pos} {vs : List V} {σ σ' : St} {v : V} (h : call f vs σ = some (v,σ')) {ι : Nm} {w : World} {args : Array Value} (L : Gl ng ι) (R : Rep ι σ w) (hv : VRs ι vs args.toList)
  {o : Oper} {a : Act} (hr : (execOp a.eval o).run P w = (callFunc (f.nat - 1) args).run P w) {K : Act → World → Prop} {Q : Exit → Act → World → Prop}
  (hK : ∀ ι' v' w',VR ι' v v' → Rep ι' σ' w' → G σ.nx.nat ι σ w ι' σ' w' → K (a.put o.dst v') w') : o.wp P a w K Q := by
 obtain ⟨⟨fn,h1,h2,h3⟩,h4⟩ := hc f vs σ v σ' h
 unfold Oper.wp
 rw [hr,run_callFunc h1 h2 h3]
 simp only [Oper.upon]
 refine (h4 ι w args L R hv).mono ?_
 rintro e w' ⟨ι',v',rfl,q1,q2,q3⟩
 exact hK ι' v' w' q1 q2 q3
theorem xop_sound {E : Env P} {M : Mach} (hpt : M.pt = E.pt) (hmt : MtOk P M.mt) {call : Pos → List V → St → Option (V × St)} (hc : CallOK P E.ng call) {nms : List Pos} {x : XOp} {n : Nat} {ds : List Deferred} {ι : Nm} {A : T V} {a : Act} {σ σ' : St} {w : World} {o : Oper} {v : V}
  (F : FR n ds ι A a) (L : Gl E.ng ι) (R : Rep ι σ w) (hok : okX E x o.op = true) (hl : isL x = false) (h : xop M call nms x A σ = some (v,σ')) {K : Act → World → Prop} {Q : Exit → Act → World → Prop}
  (hK : ∀ ι' v' w',VR ι' v v' → Rep ι' σ' w' → G σ.nx.nat ι σ w ι' σ' w' → K (a.put o.dst v') w') : o.wp P a w K Q := by
 cases x with
 | q q =>
  simp only [xop,xQ,xL,xCallv,xInv,qevF_eq,eevF_eq] at h
  split at h
  ·rename_i v1 hv
   cases h
   rw [hpt] at hv
   obtain ⟨v',r1,r2⟩ := q_sound q F.self L R hok hv
   unfold Oper.wp
   rw [r1]
   exact hK ι v' w r2 R (G.refl _ _ _ _)
  ·cases h
 | e e =>
  simp only [xop,xQ,xL,xCallv,xInv,qevF_eq,eevF_eq] at h
  obtain ⟨ι',w',hh,q1,q2⟩ := e_sound e F.self L R hok h
  unfold Oper.wp
  rcases hh with ⟨v',r1,r2⟩ | ⟨r1,rfl⟩
  ·rw [r1]; exact hK ι' v' w' r2 q1 q2
  ·rw [r1]; exact hK ι' undef w' (.u _) q1 q2
 | l e j => cases hl
 | bad => cases h
 | call f l =>
  obtain ⟨d,op,ty,pos,af,g⟩ := o
  simp only [okX] at hok
  split at hok
  ·rename_i g' args ats
   simp only [Bool.and_eq_true,beq_iff_eq] at hok
   simp only [xop,xQ,xL,xCallv,xInv,qevF_eq,eevF_eq] at h
   have hv := evs_sound F L _ _ hok.2
   rw [lmap_eq] at h
   refine call_sound hc h (args := args.map a.eval) L R (by simpa using hv) ?_ hK
   have : f.nat - 1 = g' := by omega
   unfold execOp
   simp only [resolve,Act.eval,Deferred.ofValue,invoke,Sem.run_bind,Sem.run_pure,Result.andThen_ok,this,Array.empty_append,Array.append_empty]
  ·cases hok
 | callv g l =>
  obtain ⟨d,op,ty,pos,af,g0⟩ := o
  simp only [okX] at hok
  split at hok
  ·rename_i x' args ats
   simp only [Bool.and_eq_true] at hok
   simp only [xop,xQ,xL,xCallv,xInv,qevF_eq,eevF_eq] at h
   split at h
   ·rename_i f xs ys hg
    have hv := evs_sound F L _ _ hok.2
    obtain ⟨a1,b1,e1,e2,e3⟩ := (ev_as F L hok.1 hg).fn_inv
    rw [lmap_eq,lapp_eq,lapp_eq] at h
    refine call_sound hc h (args := a1 ++ args.map a.eval ++ b1) L R (by simpa using e2.append (hv.append e3)) ?_ hK
    have : (natPos f).nat - 1 = f := by rw [natPos_nat]; rfl
    unfold execOp
    simp only [resolve,e1,Deferred.ofValue,invoke,Sem.run_bind,Sem.run_pure,Result.andThen_ok,this]
   ·cases h
  ·cases hok
 | inv r name l =>
  obtain ⟨d,op,ty,pos,af,g0⟩ := o
  simp only [okX] at hok
  split at hok
  ·rename_i x' name' args ats
   simp only [Bool.and_eq_true,decide_eq_true_eq] at hok
   obtain ⟨⟨rfl,h1⟩,h2⟩ := hok
   simp only [xop,xQ,xL,xCallv,xInv,qevF_eq,eevF_eq] at h
   split at h
   ·rename_i t v1 hr
    split at h
    ·rename_i f hf
     have hv := evs_sound F L _ _ h2
     obtain ⟨v1',e1,e2⟩ := (ev_as F L h1 hr).iface_inv
     have hm := hmt.ok _ (mtFind_mem hf)
     rw [lmap_eq] at h
     refine call_sound hc h (args := #[v1'] ++ args.map a.eval) L R (by simpa using VRs.cons e1 hv) ?_ hK
     unfold execOp
     have hex : (#[Value.iface t v1'] ++ args.map a.eval).extract 1 (#[Value.iface t v1'] ++ args.map a.eval).size = args.map a.eval := by
      apply Array.ext
      ·simp
      ·intro i h1 h2
       simp [Array.getElem_append]
     have hex2 : (#[Value.iface t v1'] ++ args.map a.eval)[0]? = some (Value.iface t v1') := by rw [Array.getElem?_append_left (by simp)]; rfl
     simp only [resolve,e2,invoke,Sem.run_bind,Sem.run_pure,Result.andThen_ok,hex,hex2,callMethod,program,Sem.run,hm v1' w]
    ·cases h
   ·cases h
  ·cases hok
theorem want_sound {n : Nat} {ι : Nm} {A : T V} {a : Act} {ops : Array Oper} {g : Option (Pos × Bool)} {o : Oper} {b : Bool}
  (hF : ∀ p c,g = some (p,c) → ∀ v t,T.get p A = some v → p.nat = t + 1 → VR ι v (a.tmps.getD t undef)) (hok : okGd ops g o.guard = true) (h : wantG A g = some b) : Region.wanted o (yielded ops a.tmps) = b := by
 cases g with
 | none =>
  cases ho : o.guard with
  | none => simp only [wantG] at h; cases h; simp [Region.wanted,ho]
  | some x => rw [ho] at hok; simp [okGd] at hok
 | some x =>
  obtain ⟨p,c⟩ := x
  cases ho : o.guard with
  | none => rw [ho] at hok; simp [okGd] at hok
  | some y =>
   obtain ⟨j,want⟩ := y
   rw [ho] at hok
   simp only [okGd,Bool.and_eq_true,beq_iff_eq] at hok
   obtain ⟨rfl,hok⟩ := hok
   split at hok
   ·rename_i t ht
    have hp : p.nat = t + 1 := by simpa using hok
    simp only [wantG] at h
    have he : ev A (.s p) = match T.get p A with | some v => v | none => .u := rfl
    have hy : yielded ops a.tmps j = match a.tmps[t]? with | some (.bool b) => some b | _ => none := by
     unfold yielded
     rw [ht]
     rfl
    cases hg : T.get p A with
    | none => rw [he,hg] at h; cases h
    | some v =>
     have hv := hF p c rfl v t hg hp
     rw [he,hg] at h
     simp only at h
     cases v <;> simp only at h <;> first | cases h | skip
     ·rename_i d
      have hb := hv.bool_inv
      have h2 : a.tmps[t]? = some (.bool d) := by
       cases ht2 : a.tmps[t]? with
       | none => simp [ht2,undef] at hb
       | some z => simp [ht2] at hb; rw [hb]
      simp only [Region.wanted,ho,hy,h2]
      cases c <;> cases d <;> simp_all
     ·obtain ⟨cc,hc,_⟩ := hv.of_tup
      have h2 : ∀ b,a.tmps[t]? ≠ some (.bool b) := fun b hb => by
       simp [hb] at hc
      have h3 : yielded ops a.tmps j = none := by
       rw [hy]
       split
       ·rename_i b hb; exact absurd hb (h2 b)
       ·rfl
      simp only [Region.wanted,ho,h3]
      rfl
   ·cases hok
theorem FR.put {n : Nat} {ds : List Deferred} {ι : Nm} {A : T V} {a : Act} (F : FR n ds ι A a) {d : Option Pos} {t : Option Tmp} (hok : okDst n d t = true) {v : V} {v' : Value} (hv : VR ι v v') : FR n ds ι (putD A d v) (a.put t v') := by
 cases d with
 | none => cases t with
  | none => exact F
  | some t => simp [okDst] at hok
 | some p => cases t with
  | none => simp [okDst] at hok
  | some t =>
   simp only [okDst,Bool.and_eq_true,beq_iff_eq,decide_eq_true_eq] at hok
   obtain ⟨h1,h2⟩ := hok
   refine ⟨by simp [Act.put,F.size],F.defers,fun q x s hq hs => ?_⟩
   simp only [putD,T.get_set] at hq
   simp only [Act.put,Array.getD_eq_getD_getElem?,Array.getElem?_setIfInBounds]
   have hsz := F.size
   have h1' : p.nat = t + 1 := h1
   have hs' : q.nat = s + 1 := hs
   have h2' : t < n := h2
   split at hq
   ·rename_i e; subst e
    cases hq
    have : t = s := by simp only [Tmp] at *; omega
    subst this
    rw [if_pos rfl,if_pos (by simp only [Tmp] at *; omega)]
    exact hv
   ·rename_i e
    rw [if_neg (fun h => e (Pos.nat_inj (by simp only [Tmp] at *; omega)))]
    have := F.at_ q x s hq hs
    rw [Array.getD_eq_getD_getElem?] at this
    exact this
theorem seq_sound {E : Env P} {M : Mach} (hpt : M.pt = E.pt) (hmt : MtOk P M.mt) {call : Pos → List V → St → Option (V × St)} (hc : CallOK P E.ng call) {n : Nat} {ds : List Deferred} {ops : Array Oper} {Q : Exit → Act → World → Prop} :
  ∀ (l : List RO) (os : List Oper) {ι : Nm} {A A' : T V} {a : Act} {σ σ' : St} {w : World},okROs E n ops l os = true → runR M call [] l A σ = some (A',σ') → FR n ds ι A a → Gl E.ng ι → Rep ι σ w →
   (∀ ι' a' w',FR n ds ι' A' a' → Rep ι' σ' w' → G σ.nx.nat ι σ w ι' σ' w' → Q .normal a' w') → wpList P ops Q os a w
 | [],[],ι,A,A',a,σ,σ',w,_,h,F,L,R,hQ => by
  have e : runR M call [] [] A σ = some (A,σ) := rfl
  rw [e] at h
  cases h
  exact hQ ι a w F R (G.refl _ _ _ _)
 | [],_ :: _,_,_,_,_,_,_,_,h,_,_,_,_,_ => by simp [okROs] at h
 | _ :: _,[],_,_,_,_,_,_,_,h,_,_,_,_,_ => by simp [okROs] at h
 | r :: l,o :: os,ι,A,A',a,σ,σ',w,hok,h,F,L,R,hQ => by
  simp only [okROs,okRO,Bool.and_eq_true] at hok
  obtain ⟨⟨⟨⟨h1,h2⟩,h3⟩,h4⟩,h5⟩ := hok
  have e : runR M call [] (r :: l) A σ = match xstep M call [] r A σ with | none => none | some (A',σ') => runR M call [] l A' σ' := rfl
  rw [e] at h
  split at h
  ·cases h
  ·rename_i A1 σ1 hs
   simp only [xstep] at hs
   split at hs
   ·cases hs
   ·rename_i hw
    have hw := want_sound (n := n) (a := a) (fun p c _ v t hg hp => F.at_ p v t hg hp) h3 hw
    cases hs
    simp only [wpList,hw]
    exact seq_sound hpt hmt hc l os h5 h (F.put h2 (.mk_tup .nil)) L R hQ
   ·rename_i hw
    have hw := want_sound (n := n) (a := a) (fun p c _ v t hg hp => F.at_ p v t hg hp) h3 hw
    simp only [xfin] at hs
    split at hs
    ·cases hs
    ·rename_i v1 σ2 hx
     split at hs
     ·cases hs
      simp only [wpList,hw,if_true]
      refine Or.inl (xop_sound hpt hmt hc F L R h1 (by simpa using h4) hx ?_)
      intro ι' v' w' q1 q2 q3
      exact seq_sound hpt hmt hc l os h5 h ((F.mono q3.ext).put h2 q1) (L.mono q3.ext) q2 (fun ι2 a2 w2 m1 m2 m3 => hQ ι2 a2 w2 m1 m2 (q3.trans q3.nx m3))
     ·cases hs
end
end Go.Proofs.YtldidldbhngmnaaGreatDoor
namespace Go.Proofs.YtldidldbhngmnaaGreatDoor
open Go
section
variable {P : Program}
def LoopAt (P : Program) (c : Code) (Q : Exit → Act → World → Prop) (a : Act) (w : World) : Prop := ∀ (b : Frame) (k : List Item) (cs : List Frame),
 ∃ e a' w',Q e a' w' ∧ Arrives P (lone (b.at a (.code c :: .inLoop c :: k)) cs w) b k cs e a' w'
theorem LoopAt.wp {c : Code} {Q : Exit → Act → World → Prop} {a : Act} {w : World} (h : LoopAt P c Q a w) : (Code.loop c).wp P Q a w := by
 intro b k cs
 obtain ⟨e,a',w',hq,harr⟩ := h b k cs
 exact ⟨e,a',w',hq,.of_steps (.one step_loop) harr⟩
theorem LoopAt.round {c : Code} {Q : Exit → Act → World → Prop} {a : Act} {w : World} (h : c.wp P (Exit.then (LoopAt P c Q) Q) a w) : LoopAt P c Q a w := by
 intro b k cs
 obtain ⟨e,a1,w1,hq,harr⟩ := h b (.inLoop c :: k) cs
 cases e with
 | normal =>
  obtain ⟨e2,a2,w2,hq2,harr2⟩ := hq b k cs
  exact ⟨e2,a2,w2,hq2,.of_steps (Steps.trans harr (.one step_inLoop)) harr2⟩
 | exit id => exact ⟨_,a1,w1,hq,.pass (x := .inLoop c) rfl (fun _ _ => .inl (by simp)) harr⟩
 | goto l => exact ⟨_,a1,w1,hq,.pass (x := .inLoop c) rfl (fun _ _ => .inl (by simp)) harr⟩
 | ret => exact ⟨_,a1,w1,hq,.pass (x := .inLoop c) rfl (fun _ _ => .inl (by simp)) harr⟩
 | panic ch => exact ⟨_,a1,w1,hq,.pass (x := .inLoop c) rfl (fun _ _ => .inl (by simp)) harr⟩
 | outgrown => exact ⟨_,a1,w1,hq,.pass (x := .inLoop c) rfl (fun _ _ => .inl (by simp)) harr⟩
def XQ (x : XE) (Q : Exit → Act → World → Prop) : Act → World → Prop := match x with | .nrm => Q .normal | .ext i => Q (.exit i) | .ret => Q .ret
def RgdSound (P : Program) (E : Env P) (M : Mach) (n : Nat) (okD : Nat → List RO → Array Oper → Bool) : Prop := ∀ (call : Pos → List V → St → Option (V × St)),CallOK P E.ng call → ∀ (id k : Nat) (l : List RO) (ops : Array Oper),okD k l ops = true →
 ∀ {ds : List Deferred} {ι : Nm} {A A' : T V} {a : Act} {σ σ' : St} {w : World} {Q : Exit → Act → World → Prop},runR M call (namesOf k σ.nx).1 l A ⟨σ.h,(namesOf k σ.nx).2⟩ = some (A',σ') → FR n ds ι A a → Gl E.ng ι → Rep ι σ w →
 (∀ ι' a' w',FR n ds ι' A' a' → Rep ι' σ' w' → G σ.nx.nat ι σ w ι' σ' w' → Q .normal a' w') → (Code.region id ops true).wp P Q a w
def okC (E : Env P) (n : Nat) (okD : Nat → List RO → Array Oper → Bool) : IR → Code → Bool
 | .skip,.skip => true
 | .reg l,.region _ ops false => okROs E n ops l ops.toList
 | .rgd k l,.region _ ops true => okD k l ops
 | .seq a b,.seq x y => okC E n okD a x && okC E n okD b y
 | .cnd c a b,.cond z x y => okA E.ng c z && okC E n okD a x && okC E n okD b y
 | .blk i b,.block j x => i == j && okC E n okD b x
 | .loop b,.loop x => okC E n okD b x
 | .exit i,.exit j => i == j
 | .ret,.ret => true
 | .bad,_ => true
 | _,_ => false
theorem exec_sound {E : Env P} {M : Mach} (hpt : M.pt = E.pt) (hmt : MtOk P M.mt) {call : Pos → List V → St → Option (V × St)} (hc : CallOK P E.ng call) {n : Nat} {ds : List Deferred} {okD : Nat → List RO → Array Oper → Bool} (hD : RgdSound P E M n okD) (fuel : Nat) :
  ∀ (c : IR) (x : Code) {ι : Nm} {A A' : T V} {a : Act} {σ σ' : St} {w : World} {e : XE} {Q : Exit → Act → World → Prop},okC E n okD c x = true → exec M call fuel c A σ = some (e,A',σ') → FR n ds ι A a → Gl E.ng ι → Rep ι σ w →
   (∀ ι' a' w',FR n ds ι' A' a' → Rep ι' σ' w' → G σ.nx.nat ι σ w ι' σ' w' → XQ e Q a' w') → x.wp P Q a w := by
 intro c
 induction c with
 | skip =>
  intro x ι A A' a σ σ' w e Q hok h F L R hQ
  cases x <;> simp only [okC,Bool.false_eq_true] at hok
  have : some (XE.nrm,A,σ) = some (e,A',σ') := h
  cases this
  exact wp_skip (hQ ι a w F R (G.refl _ _ _ _))
 | reg l =>
  intro x ι A A' a σ σ' w e Q hok h F L R hQ
  cases x <;> try simp only [okC,Bool.false_eq_true] at hok
  rename_i id ops dr
  have hok : (match dr with | false => okROs E n ops l ops.toList | true => false) = true := by cases dr <;> exact hok
  cases dr <;> simp only [Bool.false_eq_true] at hok
  have h : (match runR M call [] l A σ with | none => none | some (A',σ') => some (XE.nrm,A',σ')) = some (e,A',σ') := h
  split at h
  ·cases h
  ·rename_i A1 σ1 hr
   cases h
   exact wp_region_list (seq_sound hpt hmt hc l _ hok hr F L R hQ)
 | rgd k l =>
  intro x ι A A' a σ σ' w e Q hok h F L R hQ
  cases x <;> try simp only [okC,Bool.false_eq_true] at hok
  rename_i id ops dr
  have hok : (match dr with | true => okD k l ops | false => false) = true := by cases dr <;> exact hok
  cases dr <;> simp only [Bool.false_eq_true] at hok
  have h : (match runR M call (namesOf k σ.nx).1 l A ⟨σ.h,(namesOf k σ.nx).2⟩ with | none => none | some (A',σ') => some (XE.nrm,A',σ')) = some (e,A',σ') := h
  split at h
  ·cases h
  ·rename_i A1 σ1 hr
   cases h
   exact hD call hc id k l ops hok hr F L R hQ
 | seq c1 c2 ih1 ih2 =>
  intro x ι A A' a σ σ' w e Q hok h F L R hQ
  cases x <;> simp only [okC,Bool.false_eq_true,Bool.and_eq_true] at hok
  have h : (match exec M call fuel c1 A σ with | none => none | some (x,A',σ') => (match x with | .nrm => exec M call fuel c2 A' σ' | x => some (x,A',σ'))) = some (e,A',σ') := h
  split at h
  ·cases h
  ·rename_i e1 A1 σ1 hr
   refine wp_seq (ih1 _ hok.1 hr F L R ?_)
   intro ι1 a1 w1 F1 R1 G1
   cases e1 with
   | nrm => exact ih2 _ hok.2 h F1 (L.mono G1.ext) R1 (fun ι2 a2 w2 F2 R2 G2 => hQ ι2 a2 w2 F2 R2 (G1.trans G1.nx G2))
   | ext i => cases h; exact hQ ι1 a1 w1 F1 R1 G1
   | ret => cases h; exact hQ ι1 a1 w1 F1 R1 G1
 | cnd c c1 c2 ih1 ih2 =>
  intro x ι A A' a σ σ' w e Q hok h F L R hQ
  cases x <;> simp only [okC,Bool.false_eq_true,Bool.and_eq_true] at hok
  have h : (match ev A c with | .bool t => (match t with | true => exec M call fuel c1 A σ | false => exec M call fuel c2 A σ) | _ => none) = some (e,A',σ') := h
  split at h
  ·rename_i t hv
   have hb := (ev_as F L hok.1.1 hv).bool_inv
   cases t with
   | true => exact wp_cond_true hb (ih1 _ hok.1.2 h F L R hQ)
   | false => exact wp_cond_false hb (ih2 _ hok.2 h F L R hQ)
  ·cases h
 | blk i c ih =>
  intro x ι A A' a σ σ' w e Q hok h F L R hQ
  cases x <;> simp only [okC,Bool.false_eq_true,Bool.and_eq_true,beq_iff_eq] at hok
  obtain ⟨rfl,hok⟩ := hok
  have h : (match exec M call fuel c A σ with | none => none | some (x,A',σ') => (match x with | .ext j => (match Nat.beq j i with | true => some (XE.nrm,A',σ') | false => some (.ext j,A',σ')) | x => some (x,A',σ'))) = some (e,A',σ') := h
  split at h
  ·cases h
  ·rename_i e1 A1 σ1 hr
   refine wp_block (ih _ hok hr F L R ?_)
   intro ι1 a1 w1 F1 R1 G1
   cases e1 with
   | nrm => cases h; exact hQ ι1 a1 w1 F1 R1 G1
   | ext j =>
    simp only [XQ,Exit.inBlock]
    have h : (match Nat.beq j i with | true => some (XE.nrm,A1,σ1) | false => some (.ext j,A1,σ1)) = some (e,A',σ') := h
    split at h
    ·rename_i hj
     have := Nat.eq_of_beq_eq_true hj
     cases h
     rw [if_pos this]
     exact hQ ι1 a1 w1 F1 R1 G1
    ·rename_i hj
     have : ¬ j = i := fun h => by rw [h] at hj; simp at hj
     cases h
     rw [if_neg this]
     exact hQ ι1 a1 w1 F1 R1 G1
   | ret => cases h; exact hQ ι1 a1 w1 F1 R1 G1
 | loop c ih =>
  intro x ι A A' a σ σ' w e Q hok h F L R hQ
  cases x <;> simp only [okC,Bool.false_eq_true] at hok
  rename_i body
  have h : loopF (exec M call fuel c) fuel A σ = some (e,A',σ') := h
  refine LoopAt.wp ?_
  have key : ∀ (f : Nat) {ι : Nm} {A : T V} {a : Act} {σ : St} {w : World},loopF (exec M call fuel c) f A σ = some (e,A',σ') → FR n ds ι A a → Gl E.ng ι → Rep ι σ w →
    (∀ ι' a' w',FR n ds ι' A' a' → Rep ι' σ' w' → G σ.nx.nat ι σ w ι' σ' w' → XQ e Q a' w') → LoopAt P body Q a w := by
   intro f
   induction f with
   | zero => intro ι A a σ w h; cases h
   | succ f ihf =>
    intro ι A a σ w h F L R hQ
    have h : (match exec M call fuel c A σ with | none => none | some (x,A',σ') => (match x with | .nrm => loopF (exec M call fuel c) f A' σ' | x => some (x,A',σ'))) = some (e,A',σ') := h
    split at h
    ·cases h
    ·rename_i e1 A1 σ1 hr
     refine LoopAt.round (ih _ hok hr F L R ?_)
     intro ι1 a1 w1 F1 R1 G1
     cases e1 with
     | nrm => exact ihf h F1 (L.mono G1.ext) R1 (fun ι2 a2 w2 F2 R2 G2 => hQ ι2 a2 w2 F2 R2 (G1.trans G1.nx G2))
     | ext i => cases h; exact hQ ι1 a1 w1 F1 R1 G1
     | ret => cases h; exact hQ ι1 a1 w1 F1 R1 G1
  exact key fuel h F L R hQ
 | exit i =>
  intro x ι A A' a σ σ' w e Q hok h F L R hQ
  cases x <;> simp only [okC,Bool.false_eq_true,beq_iff_eq] at hok
  subst hok
  have : some (XE.ext i,A,σ) = some (e,A',σ') := h
  cases this
  exact wp_exit (hQ ι a w F R (G.refl _ _ _ _))
 | ret =>
  intro x ι A A' a σ σ' w e Q hok h F L R hQ
  cases x <;> simp only [okC,Bool.false_eq_true] at hok
  have : some (XE.ret,A,σ) = some (e,A',σ') := h
  cases this
  exact wp_ret (hQ ι a w F R (G.refl _ _ _ _))
 | bad =>
  intro x ι A A' a σ σ' w e Q hok h F L R hQ
  cases h
def okRV (E : Env P) : RV → ResultVar → Bool
 | .t p,.tmp t => p.nat == t + 1
 | .c1 p,.cell a ty => p.nat == a + 1 && aggB P ty == some false
 | .cn p n,.cell a ty => p.nat == a + 1 && aggB P ty == some true && szB P ty n
 | _,_ => false
def okRVs (E : Env P) : List RV → List ResultVar → Bool
 | [],[] => true
 | r :: l,x :: m => okRV E r x && okRVs E l m
 | _,_ => false
def resOf (tmps : Array Value) : ResultVar → Sem Value
 | .tmp t => pure (tmps.getD t undef)
 | .cell a t => do loadVar t (← asAddr (tmps.getD a undef))
theorem cell_of_load {t : TypeId} {x v' : Value} {w : World} {ρ : Operand → Value} {op : Operand} (hx : ρ op = x) {d : Option Tmp} {ty : TypeId} {pos : String} {af : Array Edge} {g : Option (Nat × Bool)}
  (h : (execOp ρ ⟨d,.load t op,ty,pos,af,g⟩).run P w = .ok (.value v') w) : (do loadVar t (← asAddr x) : Sem Value).run P w = .ok v' w := by
 have h : (do pure (Next.value (← Instr.loadAt t (ρ op))) : Sem Next).run P w = .ok (.value v') w := h
 rw [hx] at h
 have e : (do loadVar t (← asAddr x) : Sem Value).run P w = (Instr.loadAt t x).run P w ∨ ∀ r,(Instr.loadAt t x).run P w ≠ .ok r w := by
  cases x
  case pointer a =>
   cases a with
   | none => right; intro r; simp [Instr.loadAt,Instr.sureAddr,stuck,Sem.run]
   | some a => left; simp [Instr.loadAt,Instr.sureAddr,asAddr,Sem.run_bind,Sem.run_pure]
  all_goals (right; intro r; simp [Instr.loadAt,Instr.sureAddr,stuck,Sem.run])
 rw [Sem.run_bind] at h
 cases hr : (Instr.loadAt t x).run P w with
 | ok r w1 =>
  rw [hr] at h
  simp only [Result.andThen_ok,Sem.run_pure,Result.ok.injEq,Next.value.injEq] at h
  obtain ⟨rfl,rfl⟩ := h
  rcases e with e | e
  ·rw [e,hr]
  ·exact absurd hr (e _)
 | halt x w1 => rw [hr] at h; cases h
theorem res1_sound {E : Env P} {n : Nat} {ds : List Deferred} {ι : Nm} {A : T V} {a : Act} {σ : St} {w : World} {v : V} (F : FR n ds ι A a) (L : Gl E.ng ι) (R : Rep ι σ w) : ∀ (r : RV) (x : ResultVar),okRV E r x = true →
  (match r with | .t p => some (ev A (.s p)) | .c1 p => qev [] (.ld1 (.s p)) A σ | .cn p n => qev [] (.ldn (.s p) n) A σ) = some v → ∃ v',(resOf a.tmps x).run P w = .ok v' w ∧ VR ι v v'
 | .t p,.tmp t,hok,hv => by
  simp only [okRV,beq_iff_eq] at hok
  cases hv
  have := ev_sound (x := .s p) (o := .tmp t) F L (by simp [okA,hok])
  exact ⟨_,rfl,this⟩
 | .c1 p,.cell t ty,hok,hv => by
  simp only [okRV,Bool.and_eq_true,beq_iff_eq] at hok
  obtain ⟨v',r1,r2⟩ := q_sound (E := E) (.ld1 (.s p)) (o := ⟨none,.load ty (.tmp t),0,"",#[],none⟩) F.self L R (by simp [okQ,okA,hok.1,hok.2]) hv
  exact ⟨v',cell_of_load (ρ := a.eval) (op := .tmp t) rfl r1,r2⟩
 | .cn p k,.cell t ty,hok,hv => by
  simp only [okRV,Bool.and_eq_true,beq_iff_eq] at hok
  obtain ⟨v',r1,r2⟩ := q_sound (E := E) (.ldn (.s p) k) (o := ⟨none,.load ty (.tmp t),0,"",#[],none⟩) F.self L R (by simp [okQ,okA,hok.1.1,hok.1.2,hok.2]) hv
  exact ⟨v',cell_of_load (ρ := a.eval) (op := .tmp t) rfl r1,r2⟩
 | .t _,.cell _ _,hok,_ => by cases hok
 | .c1 _,.tmp _,hok,_ => by cases hok
 | .cn _ _,.tmp _,hok,_ => by cases hok
theorem res_sound {E : Env P} {n : Nat} {ds : List Deferred} {ι : Nm} {A : T V} {a : Act} {σ : St} {w : World} (F : FR n ds ι A a) (L : Gl E.ng ι) (R : Rep ι σ w) : ∀ (l : List RV) (rs : List ResultVar) (vs : List V),okRVs E l rs = true → resF l A σ = some vs →
  ∃ cs : List Value,(rs.mapM (resOf a.tmps)).run P w = .ok cs w ∧ VRs ι vs cs
 | [],[],vs,_,h => by
  have : some [] = some vs := h
  cases this
  exact ⟨[],by rw [List.mapM_nil]; rfl,.nil⟩
 | [],_ :: _,_,h,_ => by simp [okRVs] at h
 | _ :: _,[],_,h,_ => by simp [okRVs] at h
 | r :: l,x :: m,vs,hok,h => by
  simp only [okRVs,Bool.and_eq_true] at hok
  have e : resF (r :: l) A σ = match resF l A σ with
   | none => none
   | some vs => (match (match r with | .t p => some (ev A (.s p)) | .c1 p => qev [] (.ld1 (.s p)) A σ | .cn p n => qev [] (.ldn (.s p) n) A σ) with | some v => some (v :: vs) | none => none) := rfl
  rw [e] at h
  split at h
  ·cases h
  ·rename_i vs1 h1
   split at h
   ·rename_i v hv
    cases h
    obtain ⟨cs,q1,q2⟩ := res_sound F L R l m vs1 hok.2 h1
    have hx := res1_sound F L R r x hok.1 hv
    obtain ⟨v',r1,r2⟩ := hx
    refine ⟨v' :: cs,?_,.cons r2 q2⟩
    rw [List.mapM_cons]
    simp only [Sem.run_bind,r1,q1,Result.andThen_ok,Sem.run_pure]
   ·cases h
theorem results_sound {E : Env P} {n : Nat} {ds : List Deferred} {ι : Nm} {A : T V} {a : Act} {σ : St} {w : World} (F : FR n ds ι A a) (L : Gl E.ng ι) (R : Rep ι σ w) {fn : Func} {l : List RV} {vs : List V} (hok : okRVs E l fn.results.toList = true) (h : resF l A σ = some vs) :
  ∃ v',(results fn a.tmps).run P w = .ok v' w ∧ VR ι (one vs) v' := by
 obtain ⟨cs,h1,h2⟩ := res_sound F L R l _ vs hok h
 have e : results fn a.tmps = (do let vs ← fn.results.mapM (resOf a.tmps); pure (if h : vs.size = 1 then vs[0] else .tuple vs)) := by
  unfold results
  congr 1
 have e2 : (fn.results.mapM (resOf a.tmps)).run P w = .ok cs.toArray w := by
  rw [Array.mapM_eq_mapM_toList,map_eq_pure_bind]
  simp only [Sem.run_bind,h1,Result.andThen_ok,Sem.run_pure]
 refine ⟨_,by rw [e,Sem.run_bind,e2]; rfl,?_⟩
 have hl := h2.1
 match vs,cs,h2,hl with
 | [],[],h2,_ => exact .mk_tup h2
 | [v],[c],h2,_ => exact h2.head
 | v :: v1 :: vs,c :: c1 :: cs,h2,_ =>
  have : ¬ (c :: c1 :: cs).toArray.size = 1 := by simp
  rw [dif_neg this]
  exact .mk_tup h2
theorem frameOf_get : ∀ (l : List V) (p : Pos) (t : T V) (q : Pos) (v : V),T.get q (frameOf l p t) = some v → (p.nat ≤ q.nat ∧ l[q.nat - p.nat]? = some v) ∨ T.get q t = some v
 | [],p,t,q,v,h => .inr h
 | x :: l,p,t,q,v,h => by
  have h : T.get q (frameOf l p.succ (T.set x p t)) = some v := h
  rcases frameOf_get l p.succ (T.set x p t) q v h with ⟨h1,h2⟩ | h1
  ·rw [Pos.succ_nat] at h1 h2
   refine .inl ⟨by omega,?_⟩
   have : q.nat - p.nat = (q.nat - (p.nat + 1)) + 1 := by omega
   rw [this,List.getElem?_cons_succ]
   exact h2
  ·rw [T.get_set] at h1
   split at h1
   ·rename_i e; subst e
    exact .inl ⟨Nat.le_refl _,by simpa using h1⟩
   ·exact .inr h1
theorem FR.enter {n : Nat} {ι : Nm} {vs : List V} {args : Array Value} (hv : VRs ι vs args.toList) (hle : vs.length ≤ n) : FR n [] ι (frameOf vs .H .nil) { tmps := args ++ Array.replicate (n - args.size) undef,defers := [] } := by
 have hl : vs.length = args.size := by simpa using hv.1
 refine ⟨by simp; omega,rfl,fun p v t h1 h2 => ?_⟩
 rcases frameOf_get vs .H .nil p v h1 with ⟨h3,h4⟩ | h3
 ·have hp : p.nat - Pos.H.nat = t := by show p.nat - 1 = t; omega
  rw [hp] at h4
  have ht : t < vs.length := (List.getElem?_eq_some_iff.1 h4).1
  have e : (args ++ Array.replicate (n - args.size) undef)[t]? = args[t]? := Array.getElem?_append_left (by omega)
  have e2 : args[t]? = some args[t] := Array.getElem?_eq_getElem (by omega)
  rw [Array.getD_eq_getD_getElem?,e,e2]
  refine hv.2 t v _ h4 ?_
  rw [Array.getElem?_toList]; exact e2
 ·rw [T.get_nil] at h3; cases h3
def FnIs (P : Program) (f : Pos) : Prop := ∃ fn,P.funcs[f.nat - 1]? = some fn ∧ fn.body.isSome = true ∧ (fn.name == "runtime.NumGoroutine") = false
structure MOk (P : Program) (E : Env P) (M : Mach) (okD : Nat → Nat → List RO → Array Oper → Bool) : Prop where
 pt : M.pt = E.pt
 mt : MtOk P M.mt
 rgd : ∀ n,RgdSound P E M n (okD n)
 code : ∀ f n b res,T.get f M.tab = some (.code n b res) → ∃ fn c,P.funcs[f.nat - 1]? = some fn ∧ fn.body = some c ∧ fn.ntmps = n ∧ (fn.name == "runtime.NumGoroutine") = false ∧ okC E n (okD n) b c = true ∧ okRVs E res fn.results.toList = true
 spec : ∀ f s,T.get f M.tab = some (.spec s) → FnIs P f ∧ ∀ vs σ v σ',M.spec s vs σ = some (v,σ') → ∀ (ι : Nm) (w : World) (args : Array Value),Gl E.ng ι → Rep ι σ w → VRs ι vs args.toList → Calls P (f.nat - 1) args w (Post ι σ w v σ')
theorem run_sound {E : Env P} {M : Mach} {okD : Nat → Nat → List RO → Array Oper → Bool} (K : MOk P E M okD) : ∀ k,CallOK P E.ng (runFn M k)
 | 0 => fun f vs σ v σ' h => by cases h
 | k + 1 => fun f vs σ v σ' h => by
  have ih := run_sound K k
  have h : runFn1 M (runFn M k) k f vs σ = some (v,σ') := h
  unfold runFn1 at h
  split at h
  ·cases h
  ·rename_i s hs
   obtain ⟨h1,h2⟩ := K.spec f s hs
   exact ⟨h1,h2 vs σ v σ' h⟩
  ·rename_i n b res ht
   obtain ⟨fn,c,h1,h2,h3,h4,h5,h6⟩ := K.code f n b res ht
   refine ⟨⟨fn,h1,by rw [h2]; rfl,h4⟩,fun ι w args L R hv => ?_⟩
   split at h
   ·cases h
   ·rename_i hle
    have hle := ble_le hle
    rw [llen_eq] at hle
    split at h
    ·cases h
    ·rename_i x A σ1 hx
     refine calls_of_wp h1 h2 ?_
     rw [h3]
     refine exec_sound K.pt K.mt ih (K.rgd n) k b c h5 hx (FR.enter hv hle) L R ?_
     intro ι1 a1 w1 F1 R1 G1
     have fin : ∀ l,resF res A σ1 = some l → some (one l,σ1) = some (v,σ') → a1.defers = [] ∧ ∃ v',(results fn a1.tmps).run P w1 = .ok v' w1 ∧ Post ι σ w v σ' (.returned v') w1 := by
      intro l hl he
      cases he
      obtain ⟨v',r1,r2⟩ := results_sound F1 (L.mono G1.ext) R1 h6 hl
      exact ⟨F1.defers,v',r1,ι1,v',rfl,r2,R1,G1⟩
     cases x with
     | ext i => cases h
     | nrm =>
      simp only at h
      split at h
      ·rename_i l hl; exact fin l hl h
      ·cases h
     | ret =>
      simp only at h
      split at h
      ·rename_i l hl; exact fin l hl h
      ·cases h
end
end Go.Proofs.YtldidldbhngmnaaGreatDoor
namespace Go.Proofs.YtldidldbhngmnaaGreatDoor
open Go
theorem pbeq {p q : Pos} (h : p.beq q = true) : p = q := by rw [Pos.beq_eq] at h; simpa using h
theorem nbeq {a b : Nat} (h : Nat.beq a b = true) : a = b := Nat.eq_of_beq_eq_true h
theorem veq0_eq : ∀ {x y : V},veq0 x y = true → x = y := by
 intro x y h
 cases x <;> simp only [veq0] at h
 case bool a =>
  cases y <;> simp only [Bool.false_eq_true] at h
  rename_i b; cases a <;> cases b <;> first | rfl | cases h
 case int k a =>
  cases y <;> simp only [Bool.false_eq_true] at h
  split at h
  ·rename_i hk
   rw [ieq_eq] at h
   rw [beqK_eq hk,of_decide_eq_true h]
  ·cases h
 case str a =>
  cases y <;> simp only [Bool.false_eq_true] at h
  rw [nateq_eq] at h; rw [of_decide_eq_true h]
 case nilp => cases y <;> first | rfl | cases h
 case ptr p o =>
  cases y <;> simp only [Bool.false_eq_true] at h
  split at h
  ·rename_i hk; rw [pbeq hk,nbeq h]
  ·cases h
 case nils => cases y <;> first | rfl | cases h
 case slice p o l c e =>
  cases y <;> simp only [Bool.false_eq_true] at h
  split at h
  ·rename_i hk
   simp only [Bool.and_eq_true] at hk
   obtain ⟨⟨⟨h1,h2⟩,h3⟩,h4⟩ := hk
   rw [pbeq h1,nbeq h2,nbeq h3,nbeq h4]
   split at h
   ·split at h
    ·rfl
    ·cases h
   ·split at h
    ·cases h
    ·rw [nbeq h]
  ·cases h
 case nilm => cases y <;> first | rfl | cases h
 case map p =>
  cases y <;> simp only [Bool.false_eq_true] at h
  rw [pbeq h]
 case nilf => cases y <;> first | rfl | cases h
 case fn f a b =>
  cases a <;> cases b <;> first | (cases h; done) | skip
  cases y <;> first | (cases h; done) | skip
  rename_i f' a' b'
  cases a' <;> cases b' <;> first | (cases h; done) | skip
  have h : Nat.beq f f' = true := h
  rw [nbeq h]
 case nili => cases y <;> first | rfl | cases h
 all_goals cases h
theorem veqL_eq {f : V → V → Bool} (hf : ∀ x y,f x y = true → x = y) : ∀ {x y : List V},veqL f x y = true → x = y
 | [],[],_ => rfl
 | [],_ :: _,h => by cases h
 | _ :: _,[],h => by cases h
 | x :: l,y :: m,h => by
  have h : (match f x y with | true => veqL f l m | false => false) = true := h
  split at h
  ·rename_i hh; rw [hf _ _ hh,veqL_eq hf h]
  ·cases h
theorem veqS_eq {f : V → V → Bool} (hf : ∀ x y,f x y = true → x = y) : ∀ x y : V,veqS f x y = true → x = y := by
 intro x y h
 cases x
 case agg l =>
  cases y <;> first | (cases h; done) | skip
  have h : veqL f l _ = true := h
  rw [veqL_eq hf h]
 case tup l =>
  cases y <;> first | (cases h; done) | skip
  have h : veqL f l _ = true := h
  rw [veqL_eq hf h]
 case iface t v =>
  cases y <;> first | (cases h; done) | skip
  rename_i u w
  have h : (match Nat.beq t u with | true => f v w | false => false) = true := h
  split at h
  ·rename_i hh; rw [nbeq hh,hf _ _ h]
  ·cases h
 all_goals exact veq0_eq h
theorem veq_eq {x y : V} (h : veq x y = true) : x = y := veqS_eq (veqS_eq (veqS_eq (fun _ _ h => veq0_eq h))) x y h
noncomputable def argEq : Arg → Arg → Bool
 | .s p,.s q => p.beq q
 | .g p,.g q => p.beq q
 | .v x,.v y => veq x y
 | _,_ => false
theorem argEq_eq {a b : Arg} (h : argEq a b = true) : a = b := by
 cases a <;> cases b <;> first | (cases h; done) | skip
 ·rw [pbeq h]
 ·rw [veq_eq h]
 ·rw [pbeq h]
noncomputable def optEq : Option Arg → Option Arg → Bool
 | none,none => true | some a,some b => argEq a b | _,_ => false
theorem optEq_eq {a b : Option Arg} (h : optEq a b = true) : a = b := by
 cases a <;> cases b <;> simp only [optEq,Bool.false_eq_true] at h
 ·rfl
 ·rw [argEq_eq h]
def isPure : QOp → Bool | .ld1 _ => false | .ldn _ _ => false | .lkp _ _ _ _ _ => false | .lenm _ => false | .wts _ => false | .eqp _ _ _ _ => false | .slca _ _ _ _ _ => false | _ => true
theorem qev_pure {q : QOp} (h : isPure q = true) (pt : List Nat) (A : T V) (σ σ2 : St) : qev pt q A σ = qev pt q A σ2 := by
 cases q <;> first | (cases h; done) | rfl
noncomputable def reEq : QOp → QOp → Bool
 | .ld1 a,.ld1 b => argEq a b
 | .ldn a n,.ldn b m => argEq a b && Nat.beq n m
 | .lkp m k ks z ok,.lkp m' k' ks' z' ok' => argEq m m' && argEq k k' && decide (ks = ks') && veq z z' && decide (ok = ok')
 | .lenm a,.lenm b => argEq a b
 | .wts a,.wts b => argEq a b
 | .eqp kd ne a c,.eqp kd' ne' a' c' => decide (kd = kd') && decide (ne = ne') && argEq a a' && argEq c c'
 | .slca a lo hi esz n,.slca a' lo' hi' esz' n' => argEq a a' && optEq lo lo' && optEq hi hi' && Nat.beq esz esz' && Nat.beq n n'
 | _,_ => false
theorem reEq_eq {a b : QOp} (h : reEq a b = true) : a = b := by
 cases a <;> first | (simp only [reEq,Bool.false_eq_true] at h; done) | skip
 all_goals cases b <;> first | (simp only [reEq,Bool.false_eq_true] at h; done) | skip
 all_goals simp only [reEq,Bool.and_eq_true,decide_eq_true_eq] at h
 ·obtain ⟨⟨⟨rfl,rfl⟩,h1⟩,h2⟩ := h
  rw [argEq_eq h1,argEq_eq h2]
 ·obtain ⟨⟨⟨⟨h1,h2⟩,h3⟩,h4⟩,h5⟩ := h
  rw [argEq_eq h1,optEq_eq h2,optEq_eq h3,nbeq h4,nbeq h5]
 ·rw [argEq_eq h]
 ·rw [argEq_eq h.1,nbeq h.2]
 ·obtain ⟨⟨⟨⟨h1,h2⟩,rfl⟩,h4⟩,rfl⟩ := h
  rw [argEq_eq h1,argEq_eq h2,veq_eq h4]
 ·rw [argEq_eq h]
 ·rw [argEq_eq h]
def Arg.slot : Arg → List Pos | .s p => [p] | _ => []
def RO.gslot (r : RO) : List Pos := match r.gd with | some (p,_) => [p] | none => []
def RO.slots (r : RO) : List Pos := r.gslot ++ r.op.args.flatMap Arg.slot
noncomputable def restr : List Pos → T V → T V | [],_ => .nil | p :: l,A => match T.get p A with | some v => T.set v p (restr l A) | none => restr l A
theorem restr_get (l : List Pos) (A : T V) (q : Pos) : T.get q (restr l A) = if q ∈ l then T.get q A else none := by
 induction l with
 | nil => simp [restr,T.get_nil]
 | cons p l ih =>
  unfold restr
  split
  ·rename_i v hv
   rw [T.get_set,ih]
   by_cases e : q = p
   ·subst e; simp [hv]
   ·simp [e]
  ·rename_i hv
   rw [ih]
   by_cases e : q = p
   ·subst e; simp [hv]
   ·simp [e]
theorem ev_restr {l : List Pos} {A : T V} {x : Arg} (h : ∀ p ∈ x.slot,p ∈ l) : ev A x = ev (restr l A) x := by
 cases x with
 | s p =>
  have e : ∀ B : T V,ev B (.s p) = match T.get p B with | some v => v | none => .u := fun _ => rfl
  rw [e,e,restr_get,if_pos (h p (by simp [Arg.slot]))]
 | v x => rfl
 | g p => rfl
 | f n => rfl
theorem ev_slots {A B : T V} {x : Arg} (h : ∀ p ∈ x.slot,T.get p A = T.get p B) : ev A x = ev B x := by
 cases x with
 | s p =>
  have e : ∀ B : T V,ev B (.s p) = match T.get p B with | some v => v | none => .u := fun _ => rfl
  rw [e,e,h p (by simp [Arg.slot])]
 | v x => rfl
 | g p => rfl
 | f n => rfl
theorem xop_congr {M : Mach} {call : Pos → List V → St → Option (V × St)} {nms : List Pos} {x : XOp} {A A' : T V} {σ : St} (h : ∀ y ∈ x.args,ev A y = ev A' y) : xop M call nms x A σ = xop M call nms x A' σ := by
 have hl : ∀ l : List Arg,(∀ y ∈ l,ev A y = ev A' y) → lmap (ev A) l = lmap (ev A') l := fun l hl => by
  rw [lmap_eq,lmap_eq]; exact List.map_congr_left hl
 cases x with
 | q o => simp only [xop,xQ,xL,xCallv,xInv,qevF_eq,eevF_eq,qev_congr h]
 | e o => simp only [xop,xQ,xL,xCallv,xInv,qevF_eq,eevF_eq,eev_congr h]
 | l o j => simp only [xop,xQ,xL,xCallv,xInv,qevF_eq,eevF_eq,eev_congr h]
 | call f l => simp only [xop,xQ,xL,xCallv,xInv,qevF_eq,eevF_eq,hl l h]
 | callv g l => simp only [xop,xQ,xL,xCallv,xInv,qevF_eq,eevF_eq,hl l (fun y hy => h y (by simp [XOp.args,hy])),h g (by simp [XOp.args])]
 | inv r n l => simp only [xop,xQ,xL,xCallv,xInv,qevF_eq,eevF_eq,hl l (fun y hy => h y (by simp [XOp.args,hy])),h r (by simp [XOp.args])]
 | bad => rfl
theorem wantG_congr {A A' : T V} {g : Option (Pos × Bool)} (h : ∀ p c,g = some (p,c) → T.get p A = T.get p A') : wantG A g = wantG A' g := by
 cases g with
 | none => rfl
 | some x =>
  obtain ⟨p,b⟩ := x
  have := ev_slots (A := A) (B := A') (x := .s p) (fun q hq => by simp [Arg.slot] at hq; subst hq; exact h _ _ rfl)
  simp only [wantG,this]
theorem late_inv {e : EOp} (he : isLate e = true) {p : Pos} {A : T V} {σ σ' : St} {v : V} (h : eev e (some p) A σ = some (v,σ')) : ∃ ob : Ob,ob.kin = [] ∧ σ' = newB σ (some p) ob ∧ ∀ σ2,eev e (some p) A σ2 = some (v,newB σ2 (some p) ob) := by
 cases e <;> first | (cases he; done) | skip
 case alo z =>
  simp only [eev,Option.some.injEq,Prod.mk.injEq] at h
  obtain ⟨rfl,rfl⟩ := h
  exact ⟨_,rfl,rfl,fun _ => rfl⟩
 case box a n =>
  simp only [eev] at h
  split at h
  ·rename_i l hl
   split at h
   ·rename_i hb
    simp only [Option.some.injEq,Prod.mk.injEq] at h
    obtain ⟨rfl,rfl⟩ := h
    exact ⟨.cells l [] false false,rfl,rfl,fun _ => by simp only [eev,hl,hb]; rfl⟩
   ·cases h
  ·cases h
 case bsl z ps len esz =>
  simp only [eev] at h
  split at h
  ·rename_i l hl
   simp only [Option.some.injEq,Prod.mk.injEq] at h
   obtain ⟨rfl,rfl⟩ := h
   exact ⟨.cells l [] false false,rfl,rfl,fun _ => by simp only [eev,hl]; rfl⟩
  ·cases h
 case mkm ks =>
  simp only [eev,Option.some.injEq,Prod.mk.injEq] at h
  obtain ⟨rfl,rfl⟩ := h
  exact ⟨_,rfl,rfl,fun _ => rfl⟩
theorem priv_inv {e : EOp} (he : isPv e = true) {p : Pos} {A : T V} {σ σ' : St} {v : V} (h : eev e (some p) A σ = some (v,σ')) : ∃ ob ob' : Ob,T.get p σ.h = some ob ∧ (ob.kin = [] → ob'.kin = []) ∧ σ'.nx = σ.nx ∧ (∀ q,T.get q σ'.h = if q = p then some ob' else T.get q σ.h) ∧
  ∀ σ2,T.get p σ2.h = some ob → ∃ σ2',eev e (some p) A σ2 = some (v,σ2') ∧ σ2'.nx = σ2.nx ∧ ∀ q,T.get q σ2'.h = if q = p then some ob' else T.get q σ2.h := by
 cases e <;> first | (cases he; done) | skip
 case prd a =>
  simp only [eev] at h
  split at h
  ·rename_i q o hq
   split at h
   ·rename_i hb
    split at h
    ·rename_i l kin fz ro hg
     split at h
     ·rename_i x hx
      simp only [Option.some.injEq,Prod.mk.injEq] at h
      obtain ⟨rfl,rfl⟩ := h
      refine ⟨_,_,hg,id,rfl,fun r => ?_,fun σ2 h2 => ⟨σ2,?_,rfl,fun r => ?_⟩⟩
      ·by_cases e : r = p
       ·subst e; rw [if_pos rfl]; exact hg
       ·rw [if_neg e]
      ·simp only [eev,hq,hb,h2,hx]
      ·by_cases e : r = p
       ·subst e; rw [if_pos rfl]; exact h2
       ·rw [if_neg e]
     ·cases h
    ·cases h
   ·cases h
  ·cases h
 case pin m k u ks =>
  simp only [eev] at h
  split at h
  ·rename_i q' hm
   split at h
   ·rename_i hb
    have hpq := pbeq hb
    subst hpq
    split at h
    ·rename_i hsh
     split at h
     ·rename_i q hm2
      cases hm2
      split at h
      ·rename_i es ck ks' hg
       split at h
       ·rename_i hks
        split at h
        ·rename_i x hx
         simp only [Option.some.injEq,Prod.mk.injEq] at h
         obtain ⟨rfl,rfl⟩ := h
         refine ⟨_,_,hg,fun _ => rfl,rfl,fun r => T.get_set ..,fun σ2 h2 => ⟨⟨T.set (.map (mset (ev A k) (ev A u) es) ck ks) p σ2.h,σ2.nx⟩,?_,rfl,fun r => T.get_set ..⟩⟩
         simp only [eev,hm,hb,hsh,h2,hks,hx]
        ·rename_i hx
         simp only [Option.some.injEq,Prod.mk.injEq] at h
         obtain ⟨rfl,rfl⟩ := h
         refine ⟨_,_,hg,fun _ => rfl,rfl,fun r => T.get_set ..,fun σ2 h2 => ⟨⟨T.set (.map (lapp es [⟨ev A k,ev A u,ck⟩]) (Nat.add ck 1) ks) p σ2.h,σ2.nx⟩,?_,rfl,fun r => T.get_set ..⟩⟩
         simp only [eev,hm,hb,hsh,h2,hks,hx]
       ·cases h
      ·cases h
     ·rename_i hx
      exact absurd rfl (hx _)
    ·cases h
   ·cases h
  ·cases h
theorem namesOf_get : ∀ (k : Nat) (p : Pos) (j : Nat) (q : Pos),(namesOf k p).1[j]? = some q → q.nat = p.nat + j ∧ j < k
 | 0,p,j,q,h => by have h : ([] : List Pos)[j]? = some q := h; simp at h
 | k + 1,p,j,q,h => by
  have h : (p :: (namesOf k p.succ).1)[j]? = some q := h
  cases j with
  | zero => simp at h; subst h; simp
  | succ j =>
   rw [List.getElem?_cons_succ] at h
   obtain ⟨h1,h2⟩ := namesOf_get k p.succ j q h
   rw [Pos.succ_nat] at h1
   exact ⟨by omega,by omega⟩
theorem namesOf_nx : ∀ (k : Nat) (p : Pos),(namesOf k p).2.nat = p.nat + k
 | 0,p => rfl
 | k + 1,p => by
  have : (namesOf (k + 1) p).2 = (namesOf k p.succ).2 := rfl
  rw [this,namesOf_nx k p.succ,Pos.succ_nat]
  omega
def edgesB (o : Oper) : List Nat := (o.after.toList.filter (Region.binds .any)).map (·.on)
def tget : List (Nat × Nat) → Nat → Option Nat | [],_ => none | x :: l,i => match Nat.beq x.1 i with | true => some x.2 | false => tget l i
def maskE (tbl : List (Nat × Nat)) : List Nat → Option Nat
 | [] => some 0
 | i :: l => match tget tbl i with | none => none | some m => (match maskE tbl l with | none => none | some r => some (Nat.lor (Nat.lor m (Nat.shiftLeft 1 i)) r))
structure AO where
 ro : RO
 o : Oper
 m : Nat
def annot (ops : Array Oper) : List (Nat × Nat) → List RO → Option (List AO)
 | _,[] => some []
 | tbl,r :: l => match ops[r.idx]? with
  | none => none
  | some o => (match maskE tbl (edgesB o) with | none => none | some m => (match annot ops ((r.idx,m) :: tbl) l with | none => none | some t => some (⟨r,o,m⟩ :: t)))
def Closed (ops : Array Oper) (S : Nat → Prop) : Prop := ∀ i o,ops[i]? = some o → S i → ∀ e ∈ edgesB o,S e
def MaskOk (ops : Array Oper) (m : Nat) (o : Oper) : Prop := ∀ S : Nat → Prop,Closed ops S → (∀ e ∈ edgesB o,S e) → ∀ i,m.testBit i = true → S i
def TblOk (ops : Array Oper) (tbl : List (Nat × Nat)) : Prop := ∀ i m,(i,m) ∈ tbl → ∃ o,ops[i]? = some o ∧ MaskOk ops m o
theorem tget_mem {tbl : List (Nat × Nat)} {i m : Nat} (h : tget tbl i = some m) : (i,m) ∈ tbl := by
 induction tbl with
 | nil => cases h
 | cons x l ih =>
  unfold tget at h
  split at h
  ·rename_i hb; cases h; rw [← nbeq hb]; simp
  ·exact List.mem_cons_of_mem _ (ih h)
theorem maskE_ok {ops : Array Oper} {tbl : List (Nat × Nat)} (ht : TblOk ops tbl) : ∀ (l : List Nat) (m : Nat),maskE tbl l = some m → (∀ S : Nat → Prop,Closed ops S → (∀ e ∈ l,S e) → ∀ i,m.testBit i = true → S i) ∧ ∀ e ∈ l,∃ m,(e,m) ∈ tbl
 | [],m,h => by
  simp only [maskE,Option.some.injEq] at h
  subst h
  exact ⟨fun S _ _ i hi => by simp at hi,fun e he => by cases he⟩
 | j :: l,m,h => by
  simp only [maskE] at h
  split at h
  ·cases h
  ·rename_i m1 h1
   split at h
   ·cases h
   ·rename_i r hr
    cases h
    obtain ⟨k1,k2⟩ := maskE_ok ht l r hr
    obtain ⟨o,ho,hm⟩ := ht j m1 (tget_mem h1)
    refine ⟨fun S hS he i hi => ?_,fun e he => ?_⟩
    ·have hi : ((m1 ||| 1 <<< j) ||| r).testBit i = true := hi
     rw [Nat.testBit_or,Nat.testBit_or] at hi
     simp only [Bool.or_eq_true] at hi
     have hj : S j := he j (by simp)
     rcases hi with (hi | hi) | hi
     ·exact hm S hS (hS j o ho hj) i hi
     ·rw [Nat.one_shiftLeft,Nat.testBit_two_pow] at hi
      have : j = i := by simpa using hi
      rw [← this]; exact hj
     ·exact k1 S hS (fun e h => he e (by simp [h])) i hi
    ·rcases List.mem_cons.1 he with rfl | he
     ·exact ⟨m1,tget_mem h1⟩
     ·exact k2 e he
theorem annot_ok {ops : Array Oper} : ∀ (l : List RO) (tbl : List (Nat × Nat)) (L : List AO),TblOk ops tbl → annot ops tbl l = some L → L.map (·.ro) = l ∧ ∀ (k : Nat) (a : AO),L[k]? = some a →
   ops[a.ro.idx]? = some a.o ∧ MaskOk ops a.m a.o ∧ ∀ e ∈ edgesB a.o,(∃ (j : Nat) (b : AO),j < k ∧ L[j]? = some b ∧ b.ro.idx = e) ∨ ∃ m,(e,m) ∈ tbl
 | [],tbl,L,ht,h => by
  simp only [annot,Option.some.injEq] at h
  subst h
  exact ⟨rfl,fun k a h => by simp at h⟩
 | r :: l,tbl,L,ht,h => by
  simp only [annot] at h
  split at h
  ·cases h
  ·rename_i o ho
   split at h
   ·cases h
   ·rename_i m hm
    split at h
    ·cases h
    ·rename_i t hl
     cases h
     obtain ⟨k1,k2⟩ := maskE_ok ht _ m hm
     have ht2 : TblOk ops ((r.idx,m) :: tbl) := fun i m' hi => by
      rcases List.mem_cons.1 hi with e | hi
      ·cases e; exact ⟨o,ho,k1⟩
      ·exact ht i m' hi
     obtain ⟨j1,j2⟩ := annot_ok l _ t ht2 hl
     refine ⟨by simp [j1],fun k a hk => ?_⟩
     cases k with
     | zero =>
      simp at hk; subst hk
      exact ⟨ho,k1,fun e he => .inr (k2 e he)⟩
     | succ k =>
      rw [List.getElem?_cons_succ] at hk
      obtain ⟨q1,q2,q3⟩ := j2 k a hk
      refine ⟨q1,q2,fun e he => ?_⟩
      rcases q3 e he with ⟨j,b,x1,x2,x3⟩ | ⟨m',hm'⟩
      ·exact .inl ⟨j + 1,b,by omega,by rw [List.getElem?_cons_succ]; exact x2,x3⟩
      ·rcases List.mem_cons.1 hm' with e' | hm'
       ·cases e'
        exact .inl ⟨0,⟨r,o,m⟩,by omega,rfl,rfl⟩
       ·exact .inr ⟨m',hm'⟩
noncomputable def pmem (p : Pos) : List Pos → Bool | [] => false | q :: l => p.beq q || pmem p l
theorem pmem_iff {p : Pos} {l : List Pos} : pmem p l = true ↔ p ∈ l := by
 induction l with
 | nil => simp [pmem]
 | cons q l ih => simp [pmem,ih,Pos.beq_eq]
noncomputable def dstIn (d : Option Pos) (l : List Pos) : Bool := match d with | some p => pmem p l | none => false
theorem dstIn_false {d : Option Pos} {l : List Pos} (h : dstIn d l = false) {p : Pos} (hd : d = some p) : p ∉ l := fun hp => by
 subst hd; simp only [dstIn] at h; rw [pmem_iff.2 hp] at h; cases h
noncomputable def dstNe (d e : Option Pos) : Bool := match d,e with | some p,some q => !(p.beq q) | _,_ => true
theorem dstNe_ne {d e : Option Pos} (h : dstNe d e = true) {p : Pos} (hd : d = some p) : e ≠ some p := fun he => by
 subst hd; subst he; simp [dstNe,Pos.beq_eq] at h
def kindN : XOp → Nat | .q q => (match isPure q with | true => 0 | false => 1) | .l e _ => (match isPv e with | true => 4 | false => 3) | _ => 2
noncomputable def apart (a b : RO) : Bool := !dstIn a.dst b.slots && !dstIn b.dst a.slots && dstNe a.dst b.dst
def gdEq (a b : Option (Pos × Bool)) : Bool := decide (a = b)
noncomputable def hasRe (a b : RO) : Bool := match a.dst,a.op with | some p,.q q => b.re.any (fun x => x.1.beq p && reEq x.2.1 q && gdEq x.2.2 a.gd) | _,_ => false
theorem hasRe_inv {a b : RO} (h : hasRe a b = true) : ∃ p q,a.dst = some p ∧ a.op = .q q ∧ (p,q,a.gd) ∈ b.re := by
 unfold hasRe at h
 split at h
 ·rename_i p q h1 h2
  rw [List.any_eq_true] at h
  obtain ⟨x,hx,h⟩ := h
  simp only [Bool.and_eq_true] at h
  obtain ⟨⟨e1,e2⟩,e3⟩ := h
  refine ⟨p,q,h1,h2,?_⟩
  obtain ⟨x1,x2,x3⟩ := x
  have : x3 = a.gd := of_decide_eq_true e3
  have e1 := pbeq e1
  have e2 := reEq_eq e2
  simp only at e1 e2
  rw [← e1,← e2,← this]
  exact hx
 ·cases h
noncomputable def pairK (a b : RO) (clob : Bool) : Bool := match kindN a.op with
 | 0 => true
 | 1 => (match kindN b.op with | 0 => true | 1 => true | _ => hasRe a b && !clob)
 | _ => (match kindN b.op with | 0 => true | 3 => true | 4 => true | _ => false)
def lateJ : XOp → Option Nat | .l _ j => some j | _ => none
noncomputable def keeps (a : RO) (b : RO) : Bool := !dstIn b.dst ((match a.dst with | some p => [p] | none => []) ++ a.slots)
def isN (x : XOp) : Bool := match kindN x with | 1 => true | 2 => true | _ => false
noncomputable def lateC (a b : AO) (g c : Bool) : Bool := match lateJ a.ro.op,lateJ b.ro.op with
 | some i,some j => !(Nat.beq i j) || (!g && !c && gdEq a.ro.gd b.ro.gd && Nat.testBit b.m a.ro.idx && Nat.beq (kindN b.ro.op) 4)
 | _,_ => true
noncomputable def sufOK (a : AO) : Bool → Bool → List AO → Bool
 | _,_,[] => true
 | c,g,b :: l => !(Nat.beq a.ro.idx b.ro.idx) && lateC a b g c && (Nat.testBit b.m a.ro.idx || (apart a.ro b.ro && pairK a.ro b.ro (c || !keeps a.ro b.ro))) && sufOK a (c || !keeps a.ro b.ro) (g || isN b.ro.op) l
noncomputable def pairsOK : List AO → Bool | [] => true | a :: l => sufOK a (dstIn a.ro.dst a.ro.slots) false l && pairsOK l
def Same (L : List AO) (p q : Nat) (a b : AO) : Prop := a.ro.gd = b.ro.gd ∧ Nat.testBit b.m a.ro.idx = true ∧ kindN b.ro.op = 4 ∧ dstIn a.ro.dst a.ro.slots = false ∧
 ∀ j d,p < j → j < q → L[j]? = some d → keeps a.ro d.ro = true ∧ isN d.ro.op = false
def Pair (L : List AO) (p q : Nat) (a b : AO) : Prop := a.ro.idx ≠ b.ro.idx ∧ (∀ i,lateJ a.ro.op = some i → lateJ b.ro.op = some i → Same L p q a b) ∧
 (Nat.testBit b.m a.ro.idx = true ∨ (apart a.ro b.ro = true ∧ ∃ c,pairK a.ro b.ro c = true ∧ (c = false → dstIn a.ro.dst a.ro.slots = false ∧ ∀ j d,p < j → j ≤ q → L[j]? = some d → keeps a.ro d.ro = true)))
theorem sufOK_spec {a : AO} {c0 g0 : Bool} : ∀ (l : List AO) (c g : Bool),(c = false → c0 = false) → (g = false → g0 = false) → sufOK a c g l = true → ∀ (q : Nat) (b : AO),l[q]? = some b → a.ro.idx ≠ b.ro.idx ∧
  (∀ i,lateJ a.ro.op = some i → lateJ b.ro.op = some i → a.ro.gd = b.ro.gd ∧ Nat.testBit b.m a.ro.idx = true ∧ kindN b.ro.op = 4 ∧ c0 = false ∧ g0 = false ∧ ∀ j d,j < q → l[j]? = some d → keeps a.ro d.ro = true ∧ isN d.ro.op = false) ∧
  (Nat.testBit b.m a.ro.idx = true ∨ (apart a.ro b.ro = true ∧ ∃ c',pairK a.ro b.ro c' = true ∧ (c' = false → c0 = false ∧ ∀ j d,j ≤ q → l[j]? = some d → keeps a.ro d.ro = true)))
 | [],c,g,h0,hg,h,q,b,hq => by simp at hq
 | x :: l,c,g,h0,hg,h,q,b,hq => by
  simp only [sufOK,Bool.and_eq_true] at h
  obtain ⟨⟨⟨h1,h2⟩,h3⟩,h4⟩ := h
  have h1 : a.ro.idx ≠ x.ro.idx := fun e => by rw [e,nbeq_eq] at h1; simp at h1
  cases q with
  | zero =>
   simp at hq; subst hq
   refine ⟨h1,fun i hi hj => ?_,?_⟩
   ·unfold lateC at h2
    rw [hi,hj] at h2
    simp only [nbeq_eq,decide_true,Bool.not_true,Bool.false_or,Bool.and_eq_true,Bool.not_eq_true'] at h2
    obtain ⟨⟨⟨⟨k1,k2⟩,k3⟩,k4⟩,k5⟩ := h2
    exact ⟨of_decide_eq_true k3,k4,by simpa [nbeq_eq] using k5,h0 k2,hg k1,fun j d hj => absurd hj (Nat.not_lt_zero _)⟩
   ·simp only [Bool.or_eq_true,Bool.and_eq_true] at h3
    rcases h3 with h3 | ⟨h3,h5⟩
    ·exact .inl h3
    ·refine .inr ⟨h3,_,h5,fun hc => ?_⟩
     simp only [Bool.or_eq_false_iff,Bool.not_eq_false'] at hc
     refine ⟨h0 hc.1,fun j d hj hd => ?_⟩
     have : j = 0 := by omega
     subst this
     simp at hd; subst hd
     exact hc.2
  | succ q =>
   rw [List.getElem?_cons_succ] at hq
   obtain ⟨k1,k2,k3⟩ := sufOK_spec (c0 := (c || !keeps a.ro x.ro)) (g0 := (g || isN x.ro.op)) l _ _ (fun h => h) (fun h => h) h4 q b hq
   refine ⟨k1,fun i hi hj => ?_,?_⟩
   ·obtain ⟨m1,m2,m3,m4,m5,m6⟩ := k2 i hi hj
    simp only [Bool.or_eq_false_iff,Bool.not_eq_false'] at m4 m5
    refine ⟨m1,m2,m3,h0 m4.1,hg m5.1,fun j d hj hd => ?_⟩
    cases j with
    | zero => simp at hd; subst hd; exact ⟨m4.2,m5.2⟩
    | succ j => rw [List.getElem?_cons_succ] at hd; exact m6 j d (by omega) hd
   ·rcases k3 with k3 | ⟨k3,c',k5,k6⟩
    ·exact .inl k3
    ·refine .inr ⟨k3,c',k5,fun hc => ?_⟩
     obtain ⟨m1,m2⟩ := k6 hc
     simp only [Bool.or_eq_false_iff,Bool.not_eq_false'] at m1
     refine ⟨h0 m1.1,fun j d hj hd => ?_⟩
     cases j with
     | zero => simp at hd; subst hd; exact m1.2
     | succ j => rw [List.getElem?_cons_succ] at hd; exact m2 j d (by omega) hd
theorem pairsOK_spec : ∀ (L : List AO),pairsOK L = true → ∀ (p q : Nat) (a b : AO),p < q → L[p]? = some a → L[q]? = some b → Pair L p q a b
 | [],h,p,q,a,b,hpq,hp,hq => by simp at hp
 | x :: l,h,p,q,a,b,hpq,hp,hq => by
  simp only [pairsOK,Bool.and_eq_true] at h
  obtain ⟨h1,h2⟩ := h
  cases q with
  | zero => omega
  | succ q =>
   rw [List.getElem?_cons_succ] at hq
   cases p with
   | zero =>
    simp at hp; subst hp
    obtain ⟨k1,k2,k3⟩ := sufOK_spec l _ _ (fun h => h) (fun h => h) h1 q b hq
    refine ⟨k1,fun i hi hj => ?_,?_⟩
    ·obtain ⟨m1,m2,m3,m4,m5,m6⟩ := k2 i hi hj
     refine ⟨m1,m2,m3,m4,fun j d hj1 hj2 hd => ?_⟩
     cases j with
     | zero => omega
     | succ j => rw [List.getElem?_cons_succ] at hd; exact m6 j d (by omega) hd
    ·rcases k3 with k3 | ⟨k3,c',k5,k6⟩
     ·exact .inl k3
     ·refine .inr ⟨k3,c',k5,fun hc => ⟨(k6 hc).1,fun j d hj1 hj2 hd => ?_⟩⟩
      cases j with
      | zero => omega
      | succ j => rw [List.getElem?_cons_succ] at hd; exact (k6 hc).2 j d (by omega) hd
   | succ p =>
    rw [List.getElem?_cons_succ] at hp
    obtain ⟨k1,k2,k3⟩ := pairsOK_spec l h2 p q a b (by omega) hp hq
    refine ⟨k1,fun i hi hj => ?_,?_⟩
    ·obtain ⟨m1,m2,m3,m4,m6⟩ := k2 i hi hj
     refine ⟨m1,m2,m3,m4,fun j d hj1 hj2 hd => ?_⟩
     cases j with
     | zero => omega
     | succ j => rw [List.getElem?_cons_succ] at hd; exact m6 j d (by omega) (by omega) hd
    ·rcases k3 with k3 | ⟨k3,c',k5,k6⟩
     ·exact .inl k3
     ·refine .inr ⟨k3,c',k5,fun hc => ⟨(k6 hc).1,fun j d hj1 hj2 hd => ?_⟩⟩
      cases j with
      | zero => omega
      | succ j => rw [List.getElem?_cons_succ] at hd; exact (k6 hc).2 j d (by omega) (by omega) hd
noncomputable def crOK : List Nat → List AO → Bool
 | _,[] => true
 | s,a :: l => (match a.ro.op with
  | .l e j => (match isPv e with | true => s.any (Nat.beq j) && crOK s l | false => crOK (j :: s) l)
  | _ => crOK s l)
theorem crOK_spec : ∀ (L : List AO) (s : List Nat),crOK s L = true → ∀ (q : Nat) (b : AO) e j,L[q]? = some b → b.ro.op = .l e j → isPv e = true → j ∈ s ∨ ∃ p a e',p < q ∧ L[p]? = some a ∧ a.ro.op = .l e' j ∧ isPv e' = false
 | [],s,h,q,b,e,j,hq,_,_ => by simp at hq
 | x :: l,s,h,q,b,e,j,hq,ho,hp => by
  cases q with
  | zero =>
   simp at hq; subst hq
   unfold crOK at h
   rw [ho] at h
   simp only [hp,Bool.and_eq_true] at h
   obtain ⟨h,_⟩ := h
   rw [List.any_eq_true] at h
   obtain ⟨y,hy,h⟩ := h
   rw [nbeq h]; exact .inl hy
  | succ q =>
   rw [List.getElem?_cons_succ] at hq
   have key : ∀ s',crOK s' l = true → (∀ y ∈ s',y ∈ s ∨ (y = j → ∃ e',x.ro.op = .l e' y ∧ isPv e' = false)) → j ∈ s ∨ ∃ p a e',p < q + 1 ∧ (x :: l)[p]? = some a ∧ a.ro.op = .l e' j ∧ isPv e' = false := fun s' h1 h2 => by
    rcases crOK_spec l s' h1 q b e j hq ho hp with h | ⟨p,a,e',i1,i2,i3,i4⟩
    ·rcases h2 j h with h | h
     ·exact .inl h
     ·obtain ⟨e',i1,i2⟩ := h rfl
      exact .inr ⟨0,x,e',by omega,rfl,i1,i2⟩
    ·exact .inr ⟨p + 1,a,e',by omega,by rw [List.getElem?_cons_succ]; exact i2,i3,i4⟩
   unfold crOK at h
   split at h
   ·rename_i e' j' hx
    split at h
    ·simp only [Bool.and_eq_true] at h
     exact key s h.2 (fun y hy => .inl hy)
    ·rename_i hpv
     refine key _ h (fun y hy => ?_)
     rcases List.mem_cons.1 hy with rfl | hy
     ·exact .inr (fun _ => ⟨e',hx,hpv⟩)
     ·exact .inl hy
   ·exact key s h (fun y hy => .inl hy)
noncomputable def okD {P : Program} (E : Env P) (n k : Nat) (l : List RO) (ops : Array Oper) : Bool := match annot ops [] l with
 | none => false
 | some L => pairsOK L && crOK [] L && L.all (fun a => okRO E n ops a.ro a.o) && (List.range ops.size).all (fun i => l.any (fun r => Nat.beq r.idx i))
end Go.Proofs.YtldidldbhngmnaaGreatDoor
namespace Go.Proofs.YtldidldbhngmnaaGreatDoor
open Go
section
variable {P : Program} {E : Env P} {M : Mach} {call : Pos → List V → St → Option (V × St)} {n : Nat} {ops : Array Oper} {L : List AO} {nms : List Pos}
structure Stat (E : Env P) (n : Nat) (ops : Array Oper) (L : List AO) : Prop where
 op : ∀ (p : Nat) (a : AO),L[p]? = some a → ops[a.ro.idx]? = some a.o ∧ MaskOk ops a.m a.o ∧ okRO E n ops a.ro a.o = true ∧ ∀ e ∈ edgesB a.o,∃ (j : Nat) (b : AO),j < p ∧ L[j]? = some b ∧ b.ro.idx = e
 pair : ∀ (p q : Nat) (a b : AO),p < q → L[p]? = some a → L[q]? = some b → Pair L p q a b
 cov : ∀ i,i < ops.size → ∃ (p : Nat) (a : AO),L[p]? = some a ∧ a.ro.idx = i
 cr : ∀ (q : Nat) (b : AO) e j,L[q]? = some b → b.ro.op = .l e j → ∃ p a e',p ≤ q ∧ L[p]? = some a ∧ a.ro.op = .l e' j ∧ isPv e' = false
theorem stat_of_okD {k : Nat} {l : List RO} (h : okD E n k l ops = true) : ∃ L : List AO,L.map (·.ro) = l ∧ Stat E n ops L := by
 unfold okD at h
 split at h
 ·cases h
 ·rename_i L hL
  simp only [Bool.and_eq_true] at h
  obtain ⟨⟨⟨h1,h0⟩,h2⟩,h3⟩ := h
  obtain ⟨k1,k2⟩ := annot_ok l [] L (fun i m hm => by cases hm) hL
  refine ⟨L,k1,⟨fun p a ha => ?_,pairsOK_spec L h1,fun i hi => ?_,fun q b e j hq ho => ?_⟩⟩
  ·obtain ⟨q1,q2,q3⟩ := k2 p a ha
   refine ⟨q1,q2,(List.all_eq_true.1 h2) a (List.mem_of_getElem? ha),fun e he => ?_⟩
   rcases q3 e he with q3 | ⟨m,hm⟩
   ·exact q3
   ·cases hm
  ·have := (List.all_eq_true.1 h3) i (by simpa using hi)
   rw [List.any_eq_true] at this
   obtain ⟨r,hr,hb⟩ := this
   rw [← k1] at hr
   obtain ⟨a,ha,rfl⟩ := List.mem_map.1 hr
   obtain ⟨p,hp⟩ := List.getElem?_of_mem ha
   exact ⟨p,a,hp,nbeq hb⟩
  ·cases hp : isPv e with
   | false => exact ⟨q,b,e,Nat.le_refl _,hq,ho,hp⟩
   | true =>
    rcases crOK_spec L [] h0 q b e j hq ho hp with h | ⟨p,a,e',i1,i2,i3,i4⟩
    ·cases h
    ·exact ⟨p,a,e',Nat.le_of_lt i1,i2,i3,i4⟩
structure Tr (M : Mach) (call : Pos → List V → St → Option (V × St)) (nms : List Pos) (L : List AO) (A : Nat → T V) (σ : Nat → St) : Prop where
 step : ∀ (p : Nat) (a : AO),L[p]? = some a → xstep M call nms a.ro (A p) (σ p) = some (A (p + 1),σ (p + 1))
theorem tr_of_run : ∀ (L : List AO) (A0 A' : T V) (σ0 σ' : St),runR M call nms (L.map (·.ro)) A0 σ0 = some (A',σ') → ∃ A σ,A 0 = A0 ∧ σ 0 = σ0 ∧ Tr M call nms L A σ ∧ A L.length = A' ∧ σ L.length = σ'
 | [],A0,A',σ0,σ',h => by
  have h : some (A0,σ0) = some (A',σ') := h
  cases h
  exact ⟨fun _ => A0,fun _ => σ0,rfl,rfl,⟨fun p a h => by simp at h⟩,rfl,rfl⟩
 | x :: L,A0,A',σ0,σ',h => by
  have h : (match xstep M call nms x.ro A0 σ0 with | none => none | some (A',σ') => runR M call nms (L.map (·.ro)) A' σ') = some (A',σ') := h
  split at h
  ·cases h
  ·rename_i A1 σ1 hs
   obtain ⟨A,σ,h1,h2,h3,h4,h5⟩ := tr_of_run L A1 A' σ1 σ' h
   refine ⟨fun k => match k with | 0 => A0 | k + 1 => A k,fun k => match k with | 0 => σ0 | k + 1 => σ k,rfl,rfl,⟨fun p a ha => ?_⟩,h4,h5⟩
   cases p with
   | zero =>
    simp at ha; subst ha
    show xstep M call nms x.ro A0 σ0 = some (A 0,σ 0)
    rw [h1,h2]; exact hs
   | succ p =>
    rw [List.getElem?_cons_succ] at ha
    exact h3.step p a ha
theorem xstep_inv {r : RO} {A A' : T V} {σ σ' : St} (h : xstep M call nms r A σ = some (A',σ')) : (wantG A r.gd = some false ∧ A' = putD A r.dst (.tup []) ∧ σ' = σ) ∨
  (wantG A r.gd = some true ∧ ∃ v,xop M call nms r.op A σ = some (v,σ') ∧ A' = putD A r.dst v ∧ rechk M.pt A' σ' r.re = true) := by
 unfold xstep at h
 split at h
 ·cases h
 ·rename_i hw; cases h; exact .inl ⟨hw,rfl,rfl⟩
 ·rename_i hw
  unfold xfin at h
  split at h
  ·cases h
  ·rename_i v σ2 hx
   split at h
   ·rename_i hr
    cases h
    exact .inr ⟨hw,v,hx,rfl,hr⟩
   ·cases h
theorem rechk_inv {pt : List Nat} {A : T V} {σ : St} : ∀ {l : List (Pos × QOp × Option (Pos × Bool))},rechk pt A σ l = true → ∀ x ∈ l,wantG A x.2.2 = some true → qev pt x.2.1 A σ = some (ev A (.s x.1))
 | [],_,x,hx,_ => by cases hx
 | r :: l,h,x,hx,hw => by
  have h : (match wantG A r.2.2 with
   | none => false
   | some false => rechk pt A σ l
   | some true => (match qevF pt r.2.1 A σ with | some v => (match veq v (ev A (.s r.1)) with | true => rechk pt A σ l | false => false) | none => false)) = true := h
  rw [qevF_eq] at h
  rcases List.mem_cons.1 hx with rfl | hx
  ·rw [hw] at h
   simp only at h
   split at h
   ·rename_i v hv
    split at h
    ·rename_i he
     rw [hv,veq_eq he]
    ·cases h
   ·cases h
  ·split at h
   ·cases h
   ·exact rechk_inv h x hx hw
   ·split at h
    ·split at h
     ·exact rechk_inv h x hx hw
     ·cases h
    ·cases h
def Actv (A : Nat → T V) (p : Nat) (a : AO) : Prop := wantG (A p) a.ro.gd = some true ∧ 2 ≤ kindN a.ro.op
variable {A : Nat → T V} {σ : Nat → St}
theorem kindN_lt {x : XOp} (h : ¬ 2 ≤ kindN x) : ∃ q,x = .q q := by
 cases x <;> first | exact ⟨_,rfl⟩ | (exfalso; apply h; simp only [kindN]; first | omega | (split <;> omega))
theorem Tr.noact (T1 : Tr M call nms L A σ) {p : Nat} {a : AO} (ha : L[p]? = some a) (h : ¬ Actv A p a) : σ (p + 1) = σ p := by
 rcases xstep_inv (T1.step p a ha) with ⟨_,_,h3⟩ | ⟨h1,v,h2,_⟩
 ·exact h3
 ·have : ¬ 2 ≤ kindN a.ro.op := fun hk => h ⟨h1,hk⟩
  obtain ⟨q,hq⟩ := kindN_lt this
  rw [hq] at h2
  simp only [xop,xQ,xL,xCallv,xInv,qevF_eq,eevF_eq] at h2
  split at h2
  ·simp only [Option.some.injEq,Prod.mk.injEq] at h2; exact h2.2.symm
  ·cases h2
theorem putD_ne {A : T V} {d : Option Pos} {v : V} {s : Pos} (h : d ≠ some s) : T.get s (putD A d v) = T.get s A := by
 cases d with
 | none => rfl
 | some p =>
  simp only [putD,T.get_set]
  rw [if_neg]
  intro e; subst e; exact h rfl
theorem putD_self {A : T V} {v : V} {s : Pos} : T.get s (putD A (some s) v) = some v := by
 simp only [putD,T.get_set,if_pos]
theorem Tr.put (T1 : Tr M call nms L A σ) {p : Nat} {a : AO} (ha : L[p]? = some a) : ∃ v,A (p + 1) = putD (A p) a.ro.dst v := by
 rcases xstep_inv (T1.step p a ha) with ⟨_,h,_⟩ | ⟨_,v,_,h,_⟩
 ·exact ⟨_,h⟩
 ·exact ⟨v,h⟩
theorem Tr.slot (T1 : Tr M call nms L A σ) {s : Pos} {i : Nat} : ∀ (j : Nat),i ≤ j → j ≤ L.length → (∀ q a,i ≤ q → q < j → L[q]? = some a → a.ro.dst ≠ some s) → T.get s (A j) = T.get s (A i) := by
 intro j
 induction j with
 | zero =>
      intro h1 h2 h3; have : i = 0 := by omega
      rw [this]
 | succ j ih =>
  intro h1 h2 h3
  by_cases hi : i = j + 1
  ·rw [hi]
  ·have hj : j < L.length := by omega
   have hget : L[j]? = some L[j] := List.getElem?_eq_getElem hj
   obtain ⟨v,hv⟩ := T1.put hget
   rw [hv,putD_ne (h3 j _ (by omega) (by omega) hget)]
   exact ih (by omega) (by omega) (fun q a x1 x2 x3 => h3 q a x1 (by omega) x3)
theorem gslot_slots {r : RO} {p : Pos} {c : Bool} (h : r.gd = some (p,c)) : p ∈ r.slots := by
 unfold RO.slots RO.gslot; rw [h]; simp
theorem arg_slots {r : RO} {x : Arg} (hx : x ∈ r.op.args) {p : Pos} (hp : p ∈ x.slot) : p ∈ r.slots := by
 unfold RO.slots
 exact List.mem_append_right _ (List.mem_flatMap.2 ⟨x,hx,hp⟩)
theorem keeps_inv {a b : RO} (h : keeps a b = true) {s : Pos} (hs : a.dst = some s ∨ s ∈ a.slots) : b.dst ≠ some s := by
 unfold keeps at h
 simp only [Bool.not_eq_true'] at h
 intro hd
 refine dstIn_false h hd ?_
 rcases hs with hs | hs
 ·rw [hs]; simp
 ·exact List.mem_append_right _ hs
theorem read_stable (S : Stat E n ops L) (T1 : Tr M call nms L A σ) {p : Nat} {a : AO} {q : QOp} {v : V} (ha : L[p]? = some a) (hq : a.ro.op = .q q) (hk : isPure q = false) (hw : wantG (A p) a.ro.gd = some true) (hv : qev M.pt q (A p) (σ p) = some v) :
  ∀ (j : Nat),p ≤ j → j ≤ L.length → (∀ e b,p < e → e < j → L[e]? = some b → Actv A e b → b.m.testBit a.ro.idx = false) → qev M.pt q (A p) (σ j) = some v := by
 intro j
 induction j with
 | zero =>
      intro h1 h2 h3; have : p = 0 := by omega
      subst this; exact hv
 | succ j ih =>
  intro h1 h2 h3
  by_cases hpj : p = j + 1
  ·subst hpj; exact hv
  ·have hj : j < L.length := by omega
   have hget : L[j]? = some L[j] := List.getElem?_eq_getElem hj
   have ih := ih (by omega) (by omega) (fun e b x1 x2 => h3 e b x1 (by omega))
   by_cases hact : Actv A j L[j]
   ·by_cases hpj2 : p = j
    ·exfalso
     subst hpj2
     rw [hget] at ha; cases ha
     have := hact.2
     rw [hq] at this
     simp [kindN,hk] at this
    ·have hbit := h3 j _ (by omega) (by omega) hget hact
     obtain ⟨_,_,h5⟩ := S.pair p j a _ (by omega) ha hget
     rcases h5 with h5 | ⟨h5,c,h6,h7⟩
     ·rw [hbit] at h5; cases h5
     ·have hka : kindN a.ro.op = 1 := by rw [hq]; simp [kindN,hk]
      have h6 : hasRe a.ro L[j].ro = true ∧ c = false := by
       unfold pairK at h6
       rw [hka] at h6
       simp only at h6
       have := hact.2
       split at h6
       ·omega
       ·omega
       ·simpa using h6
      obtain ⟨h6,hc⟩ := h6
      obtain ⟨h9,h8⟩ := h7 hc
      obtain ⟨d,q',e1,e2,e3⟩ := hasRe_inv h6
      rw [hq] at e2; cases e2
      have hst : ∀ s ∈ a.ro.slots,T.get s (A (j + 1)) = T.get s (A p) := fun s hs => T1.slot (j + 1) (by omega) (by omega) (fun x b x1 x2 x3 => by
       by_cases hx : x = p
       ·subst hx
        rw [ha] at x3; cases x3
        intro hd; exact dstIn_false h9 hd hs
       ·exact keeps_inv (h8 x b (by omega) (by omega) x3) (.inr hs))
      have hdst : T.get d (A (j + 1)) = some v := by
       rw [T1.slot (i := p + 1) (j + 1) (by omega) (by omega) (fun x b x1 x2 x3 => keeps_inv (h8 x b (by omega) (by omega) x3) (.inl e1))]
       rcases xstep_inv (T1.step p a ha) with ⟨k1,_,_⟩ | ⟨_,v1,k1,k2,_⟩
       ·rw [hw] at k1; cases k1
       ·rw [k2,e1,putD_self]
        rw [hq] at k1
        simp only [xop,xQ,xL,xCallv,xInv,qevF_eq,eevF_eq,hv,Option.some.injEq,Prod.mk.injEq] at k1
        rw [k1.1]
      rcases xstep_inv (T1.step j _ hget) with ⟨k1,_,_⟩ | ⟨_,v1,_,_,k2⟩
      ·rw [hact.1] at k1; cases k1
      ·have hw2 : wantG (A (j + 1)) a.ro.gd = some true := by
        rw [← hw]
        exact wantG_congr (fun p c h => hst p (gslot_slots h))
       have := rechk_inv k2 _ e3 hw2
       simp only at this
       have hev : ev (A (j + 1)) (.s d) = v := by
        have e : ev (A (j + 1)) (.s d) = match T.get d (A (j + 1)) with | some v => v | none => .u := rfl
        rw [e,hdst]
       rw [hev] at this
       rw [← this]
       exact qev_congr (fun x hx => (ev_slots (fun s hs => hst s (arg_slots (by rw [hq]; exact hx) hs))).symm)
   ·rw [T1.noact hget hact]; exact ih
theorem Stat.same (S : Stat E n ops L) {p q : Nat} {a b : AO} {x y : EOp} {j : Nat} (hpq : p < q) (ha : L[p]? = some a) (hb : L[q]? = some b) (h1 : a.ro.op = .l x j) (h2 : b.ro.op = .l y j) : Same L p q a b :=
 (S.pair p q a b hpq ha hb).2.1 j (by rw [h1]; rfl) (by rw [h2]; rfl)
theorem kind_l {e : EOp} {j : Nat} : 3 ≤ kindN (.l e j) := by simp only [kindN]; split <;> omega
theorem isN_l {x : XOp} {e : EOp} {j : Nat} (h : x = .l e j) : isN x = false := by subst h; simp only [isN,kindN]; cases isPv e <;> rfl
theorem isN_kind {x : XOp} (h : isN x = false) : kindN x ≠ 1 ∧ kindN x ≠ 2 := by
 unfold isN at h
 split at h
 ·cases h
 ·cases h
 ·rename_i h1 h2; exact ⟨h1,h2⟩
theorem kind_pv {e : EOp} {j : Nat} (h : kindN (.l e j) = 4) : isPv e = true := by
 simp only [kindN] at h
 split at h
 ·assumption
 ·cases h
theorem act_l {p : Nat} {a : AO} {e : EOp} {j : Nat} (h : a.ro.op = .l e j) : Actv A p a ↔ wantG (A p) a.ro.gd = some true :=
 ⟨fun h => h.1,fun h1 => ⟨h1,by rw [h]; exact Nat.le_trans (by omega) kind_l⟩⟩
theorem Tr.same (T1 : Tr M call nms L A σ) {p q : Nat} {a b : AO} {x y : EOp} {j : Nat} (hpq : p < q) (ha : L[p]? = some a) (hb : L[q]? = some b) (h1 : a.ro.op = .l x j) (h2 : b.ro.op = .l y j) (h : Same L p q a b) : Actv A p a ↔ Actv A q b := by
 have hq : q < L.length := (List.getElem?_eq_some_iff.1 hb).1
 rw [act_l h1,act_l h2,← h.1]
 have : wantG (A q) a.ro.gd = wantG (A p) a.ro.gd := wantG_congr (fun s c hg => T1.slot q (by omega) (by omega) (fun r d i1 i2 i3 => by
  by_cases e : r = p
  ·subst e
   rw [ha] at i3; cases i3
   intro hd; exact dstIn_false h.2.2.2.1 hd (gslot_slots hg)
  ·exact keeps_inv (h.2.2.2.2 r d (by omega) i2 i3).1 (.inr (gslot_slots hg))))
 rw [this]
theorem Tr.priv (T1 : Tr M call nms L A σ) (S : Stat E n ops L) {p : Nat} {b : AO} {x : EOp} {j : Nat} (hb : L[p]? = some b) (ho : b.ro.op = .l x j) (hw : Actv A p b) :
  ∃ nm,nms[j]? = some nm ∧ (isPv x = false → T.get nm (σ p).h = none) ∧ (σ (p + 1)).nx = (σ p).nx ∧ ∃ ob,(∀ q,T.get q (σ (p + 1)).h = if q = nm then some ob else T.get q (σ p).h) := by
 rcases xstep_inv (T1.step p b hb) with ⟨h1,_,_⟩ | ⟨_,v,h1,_,_⟩
 ·rw [hw.1] at h1; cases h1
 ·rw [ho] at h1
  simp only [xop,xQ,xL,xCallv,xInv,qevF_eq,eevF_eq] at h1
  split at h1
  ·rename_i nm hn
   rw [lget_eq] at hn
   refine ⟨nm,hn,?_⟩
   have hok := (S.op p b hb).2.2.1
   simp only [okRO,Bool.and_eq_true] at hok
   have hok := hok.1.1
   rw [ho] at hok
   simp only [okX,Bool.or_eq_true,Bool.and_eq_true] at hok
   split at h1
   ·rename_i hfree
    rcases hok with ⟨_,hl⟩ | hl
    ·obtain ⟨ob,_,h2,_⟩ := late_inv hl h1
     refine ⟨fun _ => hfree,by rw [h2]; rfl,ob,fun q => ?_⟩
     rw [h2]; exact T.get_set ..
    ·have hpv : isPv x = true := by cases x <;> first | rfl | (simp only [okP,Bool.false_eq_true] at hl)
     obtain ⟨ob,ob',h2,_,_,_,_⟩ := priv_inv hpv h1
     rw [hfree] at h2; cases h2
   ·split at h1
    ·rename_i hpv
     obtain ⟨ob,ob',h2,_,h3,h4,_⟩ := priv_inv hpv h1
     refine ⟨fun h => ?_,h3,ob',h4⟩
     rw [hpv] at h; cases h
    ·cases h1
  ·cases h1
theorem act_kind {p : Nat} {a : AO} (h : Actv A p a) (hn : isN a.ro.op = false) : ∃ x j,a.ro.op = .l x j := by
 have h1 := (isN_kind hn)
 have h2 := h.2
 generalize a.ro.op = o at *
 cases o <;> first | exact ⟨_,_,rfl⟩ | (exfalso; exact h1.2 rfl) | skip
 rename_i q
 exfalso
 simp only [kindN] at h2
 split at h2 <;> omega
theorem Tr.calm (T1 : Tr M call nms L A σ) (S : Stat E n ops L) {p : Nat} : ∀ (q : Nat),p ≤ q → q ≤ L.length → (∀ i c,p ≤ i → i < q → L[i]? = some c → isN c.ro.op = false) → (σ q).nx = (σ p).nx ∧
  ∀ r,(∀ i c x j,p ≤ i → i < q → L[i]? = some c → c.ro.op = .l x j → Actv A i c → nms[j]? ≠ some r) → T.get r (σ q).h = T.get r (σ p).h := by
 intro q
 induction q with
 | zero =>
      intro h1 _ _; have : p = 0 := by omega
      subst this; exact ⟨rfl,fun _ _ => rfl⟩
 | succ q ih =>
  intro h1 h2 h3
  by_cases hp : p = q + 1
  ·subst hp; exact ⟨rfl,fun _ _ => rfl⟩
  ·have hq : q < L.length := by omega
   have hget : L[q]? = some L[q] := List.getElem?_eq_getElem hq
   obtain ⟨k1,k2⟩ := ih (by omega) (by omega) (fun i c x1 x2 => h3 i c x1 (by omega))
   by_cases hact : Actv A q L[q]
   ·obtain ⟨x,j,ho⟩ := act_kind hact (h3 q _ (by omega) (by omega) hget)
    obtain ⟨nm,m1,m2,m3,ob,m4⟩ := T1.priv S hget ho hact
    refine ⟨m3.trans k1,fun r hr => ?_⟩
    rw [m4,if_neg]
    ·exact k2 r (fun i c x j x1 x2 => hr i c x j x1 (by omega))
    ·intro e; subst e
     exact hr q _ x j (by omega) (by omega) hget ho hact m1
   ·rw [T1.noact hget hact]
    exact ⟨k1,fun r hr => k2 r (fun i c x j x1 x2 => hr i c x j x1 (by omega))⟩
theorem Rep.adopts {ι : Nm} {s s' : St} {w : World} (R : Rep ι s w) (hnx : s'.nx = s.nx) (h1 : ∀ q o,T.get q s.h = some o → T.get q s'.h = some o)
  (h2 : ∀ q o,T.get q s'.h = some o → T.get q s.h = some o ∨ (T.get q s.h = none ∧ ∃ pl,ι q = some pl ∧ ObR ι w q o ∧ o.kin = [] ∧ ∀ r pr,ι r = some pr → pr.blk = pl.blk → r = q)) : Rep ι s' w where
 ob q o hq := by
  rcases h2 q o hq with h | ⟨_,pl,_,h,_,_⟩
  ·exact R.ob q o h
  ·exact h
 pl := R.pl
 dom q pl hq := by rw [hnx]; exact R.dom q pl hq
 hdom q o hq := by
  rw [hnx]
  rcases h2 q o hq with h | ⟨_,pl,h,_⟩
  ·exact R.hdom q o h
  ·exact R.dom q pl h
 sep2 q o q' o' a b hq hw hq' hl ha hb hab hqq := by
  rcases h2 q o hq with h | ⟨_,pl,h,_,_,halone⟩
  ·rcases h2 q' o' hq' with h' | ⟨_,pl,h',_,_,halone⟩
   ·exact R.sep2 q o q' o' a b h hw h' hl ha hb hab hqq
   ·rw [h'] at hb; cases hb
    exact absurd (halone q a ha hab).symm hqq
  ·rw [h] at ha; cases ha
   exact absurd (halone q' b hb hab.symm) hqq
 kin q o q' o' hq hk hq' := by
  rcases h2 q o hq with h | ⟨_,pl,_,_,h,_⟩
  ·obtain ⟨o2,h3⟩ := R.kpres q o q' h hk
   have := h1 q' o2 h3
   rw [hq'] at this; cases this
   exact R.kin q o q' o' h hk h3
  ·rw [h] at hk; cases hk
 kpres q o q' hq hk := by
  rcases h2 q o hq with h | ⟨_,pl,_,_,h,_⟩
  ·obtain ⟨o2,h3⟩ := R.kpres q o q' h hk
   exact ⟨o2,h1 q' o2 h3⟩
  ·rw [h] at hk; cases hk
 fin q o q' o' a b hq hw hk hq' hl ha hb hab := by
  rcases h2 q o hq with h | ⟨_,pl,_,_,h,_⟩
  ·obtain ⟨o2,h3⟩ := R.kpres q o q' h hk
   have := h1 q' o2 h3
   rw [hq'] at this; cases this
   exact R.fin q o q' o' a b h hw hk h3 hl ha hb hab
  ·rw [h] at hk; cases hk
theorem Rep.drop {ι : Nm} {s s' : St} {w : World} (R : Rep ι s' w) (hnx : s'.nx = s.nx) (h1 : ∀ q o,T.get q s.h = some o → T.get q s'.h = some o) (hk : ∀ q o r,T.get q s.h = some o → r ∈ o.kin → ∃ o',T.get r s.h = some o') : Rep ι s w where
 ob q o hq := R.ob q o (h1 q o hq)
 pl := R.pl
 dom q pl hq := by rw [← hnx]; exact R.dom q pl hq
 hdom q o hq := by rw [← hnx]; exact R.hdom q o (h1 q o hq)
 sep2 q o q' o' a b hq hw hq' hl ha hb hab hqq := R.sep2 q o q' o' a b (h1 _ _ hq) hw (h1 _ _ hq') hl ha hb hab hqq
 kin q o q' o' hq hkk hq' := R.kin q o q' o' (h1 _ _ hq) hkk (h1 _ _ hq')
 kpres q o q' hq hkk := hk q o q' hq hkk
 fin q o q' o' a b hq hw hkk hq' hl ha hb hab := R.fin q o q' o' a b (h1 _ _ hq) hw hkk (h1 _ _ hq') hl ha hb hab
def Dn (listed : Array Bool) (i : Nat) : Prop := listed.getD i false = true
def Pend (ι : Nm) (w : World) (s : St) (nm : Pos) (ob : Ob) : Prop := ∃ pl,ι nm = some pl ∧ ObR ι w nm ob ∧ ob.kin = [] ∧ (∀ q pq,ι q = some pq → pq.blk = pl.blk → q = nm) ∧ ¬ Img ι s pl.blk
structure Inv (P : Program) (n : Nat) (ds : List Deferred) (N : Nat) (ops : Array Oper) (L : List AO) (nms : List Pos) (A : Nat → T V) (σ : Nat → St) (ι0 : Nm) (w0 : World) (ι : Nm) (k : Nat) (listed : Array Bool) (a : Act) (w : World) : Prop where
 size : listed.size = ops.size
 closed : Closed ops (Dn listed)
 fsize : a.tmps.size = n
 defers : a.defers = ds
 rep : Rep ι (σ k) w
 kle : k ≤ L.length
 before : ∀ (e : Nat) (b : AO),e < k → L[e]? = some b → Actv A e b → Dn listed b.ro.idx
 pend : ∀ (e : Nat) (b : AO),k ≤ e → L[e]? = some b → Actv A e b → Dn listed b.ro.idx → ∃ x j,b.ro.op = .l x j
 cont : ∀ (e : Nat) (b : AO) x j nm p,k ≤ e → L[e]? = some b → b.ro.op = .l x j → nms[j]? = some nm → Actv A e b → Dn listed b.ro.idx → e < p → p ≤ L.length → (∀ q c,e < q → q < p → L[q]? = some c → isN c.ro.op = false) →
  (∀ q c y,L[q]? = some c → c.ro.op = .l y j → (Dn listed c.ro.idx ↔ q < p)) → ∃ ob,T.get nm (σ p).h = some ob ∧ Pend ι w (σ k) nm ob
 clean : ∀ (e : Nat) (b : AO) x j,e < k → L[e]? = some b → b.ro.op = .l x j → Actv A e b → ∃ m,e < m ∧ m ≤ k ∧ (m = L.length ∨ ∃ c,L[m]? = some c ∧ isN c.ro.op = true)
 free : ∀ (e : Nat) (b : AO) x j nm,L[e]? = some b → b.ro.op = .l x j → isPv x = false → nms[j]? = some nm → ¬ Dn listed b.ro.idx → ι nm = none
 slots : ∀ (s : Pos) t j v,s.nat = t + 1 → j ≤ L.length → (∀ (q : Nat) (b : AO),L[q]? = some b → b.ro.dst = some s → (Dn listed b.ro.idx ↔ q < j)) → T.get s (A j) = some v → VR ι v (a.tmps.getD t undef)
 g : G N ι0 (σ 0) w0 ι (σ k) w
structure Names (N : Nat) (nms : List Pos) (s0 : St) (ι0 : Nm) : Prop where
 lo : ∀ (j : Nat) nm,nms[j]? = some nm → N ≤ nm.nat
 hi : ∀ (j : Nat) nm,nms[j]? = some nm → nm.nat < s0.nx.nat
 inj : ∀ (i j : Nat) nm,nms[i]? = some nm → nms[j]? = some nm → i = j
 none : ∀ (j : Nat) nm,nms[j]? = some nm → ι0 nm = none
end
end Go.Proofs.YtldidldbhngmnaaGreatDoor
namespace Go.Proofs.YtldidldbhngmnaaGreatDoor
open Go
section
variable {P : Program} {E : Env P} {M : Mach} {call : Pos → List V → St → Option (V × St)} {n N : Nat} {ds : List Deferred} {ops : Array Oper} {L : List AO} {nms : List Pos} {A : Nat → T V} {σ : Nat → St} {ι0 ι : Nm} {w0 w : World} {k : Nat} {listed : Array Bool} {a : Act}
theorem get_newB {s : St} {nm q : Pos} {ob : Ob} : T.get q (newB s (some nm) ob).h = if q = nm then some ob else T.get q s.h := by
 show T.get q (T.set ob nm s.h) = _
 rw [T.get_set]
theorem Stat.idx_inj (S : Stat E n ops L) {p q : Nat} {b c : AO} (hb : L[p]? = some b) (hc : L[q]? = some c) (h : b.ro.idx = c.ro.idx) : p = q := by
 rcases Nat.lt_trichotomy p q with h1 | h1 | h1
 ·exact absurd h (S.pair p q b c h1 hb hc).1
 ·exact h1
 ·exact absurd h.symm (S.pair q p c b h1 hc hb).1
theorem Inv.skip (T1 : Tr M call nms L A σ) (I : Inv P n ds N ops L nms A σ ι0 w0 ι k listed a w) {b : AO} (hget : L[k]? = some b) (hact : ¬ Actv A k b) : Inv P n ds N ops L nms A σ ι0 w0 ι (k + 1) listed a w := by
 have hk : k < L.length := (List.getElem?_eq_some_iff.1 hget).1
 have e := T1.noact hget hact
 refine { I with rep := by rw [e]; exact I.rep,kle := hk,before := ?_,pend := ?_,cont := ?_,clean := ?_,g := by rw [e]; exact I.g }
 ·intro e b' he hb ha
  by_cases hek : e = k
  ·subst hek; rw [hget] at hb; cases hb; exact absurd ha hact
  ·exact I.before e b' (by omega) hb ha
 ·intro e' b' he hb ha hdn
  exact I.pend e' b' (by omega) hb ha hdn
 ·intro e' b' x j nm p he hb h1 h2 h3 h4 h5 h6 h7 h8
  rw [e]
  exact I.cont e' b' x j nm p (by omega) hb h1 h2 h3 h4 h5 h6 h7 h8
 ·intro e' b' x j he hb h1 h2
  by_cases hek : e' = k
  ·subst hek; rw [hget] at hb; cases hb; exact absurd h2 hact
  ·obtain ⟨m,h3,h4,h5⟩ := I.clean e' b' x j (by omega) hb h1 h2
   exact ⟨m,h3,by omega,h5⟩
theorem Inv.own (S : Stat E n ops L) (T1 : Tr M call nms L A σ) (U : Names N nms (σ 0) ι0) (I : Inv P n ds N ops L nms A σ ι0 w0 ι k listed a w) {h : Nat} (hh : h ≤ L.length)
  (hN : ∀ q c,k ≤ q → q < h → L[q]? = some c → isN c.ro.op = false) (hend : h = L.length ∨ ∃ c,L[h]? = some c ∧ isN c.ro.op = true) (hall : ∀ q c,k ≤ q → q < h → L[q]? = some c → Actv A q c → Dn listed c.ro.idx)
  {q : Nat} {c : AO} {x : EOp} {j : Nat} {nm : Pos} (hkq : k ≤ q) (hqh : q < h) (hc : L[q]? = some c) (ho : c.ro.op = .l x j) (hw : Actv A q c) (hn : nms[j]? = some nm) :
  T.get nm (σ k).h = none ∧ ∃ ob,T.get nm (σ h).h = some ob ∧ Pend ι w (σ k) nm ob := by
 obtain ⟨p,a0,e0,h1,h2,h3,h4⟩ := S.cr q c x j hc ho
 have hq : q < L.length := (List.getElem?_eq_some_iff.1 hc).1
 have hact : Actv A p a0 := by
  by_cases e : p = q
  ·subst e; rw [hc] at h2; cases h2; exact hw
  ·exact (T1.same (by omega) h2 hc h3 ho (S.same (by omega) h2 hc h3 ho)).2 hw
 have hkp : k ≤ p := Nat.le_of_not_lt fun hlt => by
  obtain ⟨m,m1,m2,m3⟩ := I.clean p a0 e0 j hlt h2 h3 hact
  rcases m3 with m3 | ⟨d,m3,m4⟩
  ·omega
  ·by_cases e : m = q
   ·subst e; rw [hc] at m3; cases m3
    rw [isN_l ho] at m4; cases m4
   ·have := ((S.same (by omega) h2 hc h3 ho).2.2.2.2 m d m1 (by omega) m3).2
    rw [this] at m4; cases m4
 have hfirst : ∀ i d y,L[i]? = some d → d.ro.op = .l y j → p ≤ i := fun i d y i1 i2 => Nat.le_of_not_lt fun hlt => by
  have := (S.same hlt i1 h2 i2 h3).2.2.1
  rw [h3] at this
  rw [kind_pv this] at h4; cases h4
 obtain ⟨nm',n1,n2,_⟩ := T1.priv S h2 h3 hact
 rw [hn] at n1; cases n1
 have hnone : T.get nm (σ k).h = none := by
  rw [← n2 h4]
  refine ((T1.calm S p hkp (by omega) (fun i d i1 i2 i3 => hN i d i1 (by omega) i3)).2 nm (fun i d y j' i1 i2 i3 i4 i5 i6 => ?_)).symm
  have := U.inj _ _ _ i6 hn
  subst this
  have := hfirst i d y i3 i4
  omega
 refine ⟨hnone,I.cont p a0 e0 j nm h hkp h2 h3 hn hact (hall p a0 hkp (by omega) h2 hact) (by omega) hh (fun i d i1 i2 i3 => hN i d (by omega) i2 i3) (fun i d y i1 i2 => ⟨fun hd => Nat.lt_of_not_le fun hle => ?_,fun hlt => ?_⟩)⟩
 ·have hi : i < L.length := (List.getElem?_eq_some_iff.1 i1).1
  rcases hend with e | ⟨d',e1,e2⟩
  ·omega
  ·by_cases e : h = i
   ·subst e; rw [i1] at e1; cases e1
    rw [isN_l i2] at e2; cases e2
   ·have := ((S.same (by omega) h2 i1 h3 i2).2.2.2.2 h d' (by omega) (by omega) e1).2
    rw [this] at e2; cases e2
 ·have hpi := hfirst i d y i1 i2
  by_cases e : p = i
  ·subst e; rw [i1] at h2; cases h2
   exact hall p _ hkp (by omega) i1 hact
  ·exact hall i d (by omega) hlt i1 ((T1.same (by omega) h2 i1 h3 i2 (S.same (by omega) h2 i1 h3 i2)).1 hact)
theorem Inv.jump (S : Stat E n ops L) (T1 : Tr M call nms L A σ) (U : Names N nms (σ 0) ι0) (I : Inv P n ds N ops L nms A σ ι0 w0 ι k listed a w) {h : Nat} (hkh : k < h) (hh : h ≤ L.length)
  (hN : ∀ q c,k ≤ q → q < h → L[q]? = some c → isN c.ro.op = false) (hend : h = L.length ∨ ∃ c,L[h]? = some c ∧ isN c.ro.op = true) (hall : ∀ q c,k ≤ q → q < h → L[q]? = some c → Actv A q c → Dn listed c.ro.idx) :
  Inv P n ds N ops L nms A σ ι0 w0 ι h listed a w := by
 have hown : ∀ r,(∃ q c x j,k ≤ q ∧ q < h ∧ L[q]? = some c ∧ c.ro.op = .l x j ∧ Actv A q c ∧ nms[j]? = some r) → T.get r (σ k).h = none ∧ ∃ ob,T.get r (σ h).h = some ob ∧ Pend ι w (σ k) r ob := by
  rintro r ⟨q,c,x,j,h1,h2,h3,h4,h5,h6⟩
  exact I.own S T1 U hh hN hend hall h1 h2 h3 h4 h5 h6
 obtain ⟨hnx,hcalm⟩ := T1.calm S h (by omega) hh hN
 have hsame : ∀ r,¬ (∃ q c x j,k ≤ q ∧ q < h ∧ L[q]? = some c ∧ c.ro.op = .l x j ∧ Actv A q c ∧ nms[j]? = some r) → T.get r (σ h).h = T.get r (σ k).h := fun r hr => by
  refine hcalm r fun i c x j i1 i2 i3 i4 i5 i6 => hr ⟨i,c,x,j,i1,i2,i3,i4,i5,i6⟩
 refine { I with rep := ?_,kle := hh,before := ?_,pend := ?_,cont := ?_,clean := ?_,g := ?_ }
 ·refine I.rep.adopts hnx (fun r o hr => ?_) (fun r o hr => ?_)
  ·by_cases hex : (∃ q c x j,k ≤ q ∧ q < h ∧ L[q]? = some c ∧ c.ro.op = .l x j ∧ Actv A q c ∧ nms[j]? = some r)
   ·rw [(hown r hex).1] at hr; cases hr
   ·rw [hsame r hex]; exact hr
  ·by_cases hex : (∃ q c x j,k ≤ q ∧ q < h ∧ L[q]? = some c ∧ c.ro.op = .l x j ∧ Actv A q c ∧ nms[j]? = some r)
   ·obtain ⟨h1,ob,h2,pl,h3,h4,h5,h6,_⟩ := hown r hex
    rw [hr] at h2; cases h2
    exact .inr ⟨h1,pl,h3,h4,h5,h6⟩
   ·rw [hsame r hex] at hr; exact .inl hr
 ·intro e b he hb ha
  by_cases hek : e < k
  ·exact I.before e b hek hb ha
  ·exact hall e b (by omega) he hb ha
 ·intro e b he hb ha hd
  exact I.pend e b (by omega) hb ha hd
 ·intro e b x j nm p he hb h1 h2 h3 h4 h5 h6 h7 h8
  obtain ⟨ob,k1,pl,k2,k3,k4,k5,k6⟩ := I.cont e b x j nm p (by omega) hb h1 h2 h3 h4 h5 h6 h7 h8
  refine ⟨ob,k1,pl,k2,k3,k4,k5,?_⟩
  rintro ⟨r,o,plr,i1,i2,i3,i4⟩
  have hr := k5 r plr i3 i4
  subst hr
  have hno : ¬ (∃ q c x j,k ≤ q ∧ q < h ∧ L[q]? = some c ∧ c.ro.op = .l x j ∧ Actv A q c ∧ nms[j]? = some r) := by
   rintro ⟨q,c,y,j',m1,m2,m3,m4,m5,m6⟩
   have := U.inj _ _ _ m6 h2
   subst this
   have he2 : e < L.length := (List.getElem?_eq_some_iff.1 hb).1
   rcases hend with e' | ⟨d',e1,e2⟩
   ·omega
   ·by_cases e' : h = e
    ·subst e'; rw [hb] at e1; cases e1
     rw [isN_l h1] at e2; cases e2
    ·have := ((S.same (by omega) m3 hb m4 h1).2.2.2.2 h d' (by omega) (by omega) e1).2
     rw [this] at e2; cases e2
  rw [hsame r hno] at i1
  exact k6 ⟨r,o,plr,i1,i2,i3,i4⟩
 ·intro e b x j he hb h1 h2
  by_cases hek : e < k
  ·obtain ⟨m,m1,m2,m3⟩ := I.clean e b x j hek hb h1 h2
   exact ⟨m,m1,by omega,m3⟩
  ·exact ⟨h,he,Nat.le_refl _,hend⟩
 ·refine { I.g with nx := by rw [hnx]; exact I.g.nx,img := ?_ }
  rintro r hr ⟨q,o,plq,i1,i2,i3,i4⟩
  by_cases hex : (∃ q' c x j,k ≤ q' ∧ q' < h ∧ L[q']? = some c ∧ c.ro.op = .l x j ∧ Actv A q' c ∧ nms[j]? = some q)
  ·obtain ⟨_,_,_,_,_,_,_,_,_,hn⟩ := hex
   have := I.g.new q plq i3 (U.none _ _ hn) (by rw [i4]; exact hr)
   rw [i4] at this
   exact this
  ·rw [hsame q hex] at i1
   exact I.g.img r hr ⟨q,o,plq,i1,i2,i3,i4⟩
theorem grp_end (L : List AO) : ∀ (d k : Nat),L.length - k = d → k < L.length → (∀ c,L[k]? = some c → isN c.ro.op = false) → ∃ h,k < h ∧ h ≤ L.length ∧ (∀ q c,k ≤ q → q < h → L[q]? = some c → isN c.ro.op = false) ∧ (h = L.length ∨ ∃ c,L[h]? = some c ∧ isN c.ro.op = true) := by
 intro d
 induction d with
 | zero => intro k hd hk; omega
 | succ d ih =>
  intro k hd hk hc
  have one : ∀ (q : Nat) (c : AO),k ≤ q → q < k + 1 → L[q]? = some c → isN c.ro.op = false := fun q c h1 h2 h3 => by
   have : q = k := by omega
   subst this
   exact hc c h3
  by_cases he : k + 1 = L.length
  ·exact ⟨k + 1,by omega,by omega,one,.inl he⟩
  ·have hk1 : k + 1 < L.length := by omega
   have hget : L[k + 1]? = some L[k + 1] := List.getElem?_eq_getElem hk1
   cases hN : isN L[k + 1].ro.op with
   | true =>
    exact ⟨k + 1,by omega,by omega,one,.inr ⟨_,hget,hN⟩⟩
   | false =>
    obtain ⟨h,h1,h2,h3,h4⟩ := ih (k + 1) (by omega) hk1 (fun c hc' => by rw [hget] at hc'; cases hc'; exact hN)
    refine ⟨h,by omega,h2,fun q c i1 i2 i3 => ?_,h4⟩
    by_cases e : q = k
    ·subst e; exact hc c i3
    ·exact h3 q c (by omega) i2 i3
theorem Inv.adv (S : Stat E n ops L) (T1 : Tr M call nms L A σ) (U : Names N nms (σ 0) ι0) : ∀ (d k : Nat),L.length - k ≤ d → Inv P n ds N ops L nms A σ ι0 w0 ι k listed a w →
  ∃ k',Inv P n ds N ops L nms A σ ι0 w0 ι k' listed a w ∧ (k' = L.length ∨ ∃ q b,k' ≤ q ∧ L[q]? = some b ∧ Actv A q b ∧ ¬ Dn listed b.ro.idx ∧ (q = k' ∨ ∀ i c,k' ≤ i → i ≤ q → L[i]? = some c → isN c.ro.op = false)) := by
 intro d
 induction d with
 | zero => intro k hd I; exact ⟨k,I,.inl (by have := I.kle; omega)⟩
 | succ d ih =>
  intro k hd I
  by_cases hkl : k = L.length
  ·exact ⟨k,I,.inl hkl⟩
  have hk : k < L.length := by have := I.kle; omega
  have hget : L[k]? = some L[k] := List.getElem?_eq_getElem hk
  by_cases hact : Actv A k L[k]
  ·by_cases hdn : Dn listed L[k].ro.idx
   ·obtain ⟨x,j,ho⟩ := I.pend k _ (Nat.le_refl _) hget hact hdn
    obtain ⟨h,h1,h2,h3,h4⟩ := grp_end L _ k rfl hk (fun c hc => by rw [hget] at hc; cases hc; exact isN_l ho)
    by_cases hall : ∀ q c,k ≤ q → q < h → L[q]? = some c → Actv A q c → Dn listed c.ro.idx
    ·exact ih h (by omega) (I.jump S T1 U h1 h2 h3 h4 hall)
    ·have : ∃ q c,k ≤ q ∧ q < h ∧ L[q]? = some c ∧ Actv A q c ∧ ¬ Dn listed c.ro.idx := by
      refine Classical.byContradiction fun hno => hall fun q c i1 i2 i3 i4 => Classical.byContradiction fun i5 => hno ⟨q,c,i1,i2,i3,i4,i5⟩
     obtain ⟨q,c,i1,i2,i3,i4,i5⟩ := this
     exact ⟨k,I,.inr ⟨q,c,i1,i3,i4,i5,.inr fun i d m1 m2 m3 => h3 i d m1 (by omega) m3⟩⟩
   ·exact ⟨k,I,.inr ⟨k,_,Nat.le_refl _,hget,hact,hdn,.inl rfl⟩⟩
  ·exact ih (k + 1) (by omega) (I.skip T1 hget hact)
structure Rdy (ops : Array Oper) (L : List AO) (listed : Array Bool) (p : Nat) (b : AO) : Prop where
 at_ : L[p]? = some b
 lt : b.ro.idx < ops.size
 not : ¬ Dn listed b.ro.idx
 edges : ∀ e ∈ edgesB b.o,Dn listed e
theorem Rdy.lower (S : Stat E n ops L) (I : Inv P n ds N ops L nms A σ ι0 w0 ι k listed a w) {p : Nat} {b : AO} (R : Rdy ops L listed p b) {q : Nat} {c : AO} (hq : q < p) (hc : L[q]? = some c) (h : ¬ Dn listed c.ro.idx) :
  apart c.ro b.ro = true ∧ ∃ x,pairK c.ro b.ro x = true := by
 obtain ⟨_,_,h3⟩ := S.pair q p c b hq hc R.at_
 rcases h3 with h3 | ⟨h3,x,h4,_⟩
 ·exact absurd ((S.op p b R.at_).2.1 (Dn listed) I.closed R.edges _ h3) h
 ·exact ⟨h3,x,h4⟩
theorem Rdy.upper (S : Stat E n ops L) (I : Inv P n ds N ops L nms A σ ι0 w0 ι k listed a w) {p : Nat} {b : AO} (R : Rdy ops L listed p b) {q : Nat} {c : AO} (hq : p < q) (hc : L[q]? = some c) (h : Dn listed c.ro.idx) :
  apart b.ro c.ro = true ∧ c.m.testBit b.ro.idx = false := by
 obtain ⟨_,_,h3⟩ := S.pair p q b c hq R.at_ hc
 have hbit : c.m.testBit b.ro.idx = false := by
  cases hb : c.m.testBit b.ro.idx with
  | false => rfl
  | true => exact absurd ((S.op q c hc).2.1 (Dn listed) I.closed (I.closed _ _ (S.op q c hc).1 h) _ hb) R.not
 rcases h3 with h3 | ⟨h3,_⟩
 ·rw [hbit] at h3; cases h3
 ·exact ⟨h3,hbit⟩
theorem apart_inv {x y : RO} (h : apart x y = true) : (∀ s,x.dst = some s → s ∉ y.slots) ∧ (∀ s,y.dst = some s → s ∉ x.slots) ∧ ∀ s,x.dst = some s → y.dst ≠ some s := by
 simp only [apart,Bool.and_eq_true,Bool.not_eq_true'] at h
 exact ⟨fun s hs => dstIn_false h.1.1 hs,fun s hs => dstIn_false h.1.2 hs,fun s hs => dstNe_ne h.2 hs⟩
theorem Rdy.slot (S : Stat E n ops L) (I : Inv P n ds N ops L nms A σ ι0 w0 ι k listed a w) {p : Nat} {b : AO} (R : Rdy ops L listed p b) {s : Pos} {t : Nat} (hs : s ∈ b.ro.slots) (ht : s.nat = t + 1) {v : V} (hv : T.get s (A p) = some v) : VR ι v (a.tmps.getD t undef) := by
 have hp : p < L.length := (List.getElem?_eq_some_iff.1 R.at_).1
 refine I.slots s t p v ht (by omega) (fun q c hc hd => ?_) hv
 rcases Nat.lt_trichotomy q p with h | h | h
 ·refine ⟨fun _ => h,fun _ => ?_⟩
  by_cases hdn : Dn listed c.ro.idx
  ·exact hdn
  ·exact absurd hs ((apart_inv (R.lower S I h hc hdn).1).1 s hd)
 ·subst h
  rw [R.at_] at hc; cases hc
  exact ⟨fun h => absurd h R.not,fun h => absurd h (Nat.lt_irrefl _)⟩
 ·refine ⟨fun hdn => ?_,fun h' => absurd h' (by omega)⟩
  exact absurd hs ((apart_inv (R.upper S I h hc hdn).1).2.1 s hd)
theorem Rdy.frame (S : Stat E n ops L) (I : Inv P n ds N ops L nms A σ ι0 w0 ι k listed a w) {p : Nat} {b : AO} (R : Rdy ops L listed p b) : FR n ds ι (restr b.ro.slots (A p)) a := by
 refine ⟨I.fsize,I.defers,fun s v t h1 h2 => ?_⟩
 rw [restr_get] at h1
 split at h1
 ·rename_i hs; exact R.slot S I hs h2 h1
 ·cases h1
theorem dn_set {i x : Nat} (hs : i < listed.size) : Dn (listed.setIfInBounds i true) x ↔ x = i ∨ Dn listed x := by
 unfold Dn
 rw [Array.getD_eq_getD_getElem?,Array.getElem?_setIfInBounds,Array.getD_eq_getD_getElem?]
 by_cases h : i = x
 ·subst h; simp [hs]
 ·have : ¬ x = i := fun e => h e.symm
  simp [h,this]
theorem Rdy.slots (S : Stat E n ops L) (T1 : Tr M call nms L A σ) (I : Inv P n ds N ops L nms A σ ι0 w0 ι k listed a w) {p : Nat} {b : AO} (R : Rdy ops L listed p b) {ι' : Nm} (hx : Ext ι ι') {v : V} {v' : Value} (hv : VR ι' v v') (hA : A (p + 1) = putD (A p) b.ro.dst v) (hok : okDst n b.ro.dst b.o.dst = true) :
  ∀ (s : Pos) t j uu,s.nat = t + 1 → j ≤ L.length → (∀ (q : Nat) (c : AO),L[q]? = some c → c.ro.dst = some s → (Dn (listed.setIfInBounds b.ro.idx true) c.ro.idx ↔ q < j)) → T.get s (A j) = some uu → VR ι' uu ((a.put b.o.dst v').tmps.getD t undef) := by
 intro s t j uu hst hj hw hu
 have hlt : b.ro.idx < listed.size := by rw [I.size]; exact R.lt
 by_cases hd : b.ro.dst = some s
 ·have hpj : p < j := (hw p b R.at_ hd).1 ((dn_set hlt).2 (.inl rfl))
  have : T.get s (A j) = T.get s (A (p + 1)) := T1.slot j (by omega) hj (fun q c h1 h2 h3 hdc => by
   have hdn := (hw q c h3 hdc).2 h2
   rw [dn_set hlt] at hdn
   rcases hdn with e | hdn
   ·have := S.idx_inj h3 R.at_ e
    omega
   ·exact (apart_inv (R.upper S I (by omega) h3 hdn).1).2.2 s hd hdc)
  rw [this,hA,hd,putD_self] at hu
  cases hu
  rw [hd] at hok
  cases ho : b.o.dst with
  | none => rw [ho] at hok; simp [okDst] at hok
  | some t' =>
   rw [ho] at hok
   simp only [okDst,Bool.and_eq_true,beq_iff_eq,decide_eq_true_eq] at hok
   obtain ⟨k1,k2⟩ := hok
   have k1 : s.nat = t' + 1 := k1
   have k2 : t' < n := k2
   have e : t' = t := by simp only [Tmp] at *; omega
   subst e
   have hsz := I.fsize
   simp only [Act.put,Array.getD_eq_getD_getElem?,Array.getElem?_setIfInBounds]
   rw [if_pos trivial,if_pos (by simp only [Tmp] at *; omega)]
   exact hv
 ·have h1 := I.slots s t j uu hst hj (fun q c h1 h2 => by
   rw [← hw q c h1 h2,dn_set hlt]
   refine ⟨.inr,fun h => h.resolve_left fun e => ?_⟩
   have := S.idx_inj h1 R.at_ e
   subst this
   rw [R.at_] at h1; cases h1
   exact hd h2) hu
  have h2 : (a.put b.o.dst v').tmps.getD t undef = a.tmps.getD t undef := by
   cases ho : b.o.dst with
   | none => rfl
   | some t' =>
    have hne : t' ≠ t := fun e => by
     subst e
     cases hd2 : b.ro.dst with
     | none => rw [hd2,ho] at hok; simp [okDst] at hok
     | some s' =>
      rw [hd2,ho] at hok
      simp only [okDst,Bool.and_eq_true,beq_iff_eq,decide_eq_true_eq] at hok
      obtain ⟨k1,_⟩ := hok
      have k1 : s'.nat = t' + 1 := k1
      have : s' = s := Pos.nat_inj (by simp only [Tmp] at *; omega)
      subst this
      exact hd hd2
    simp only [Act.put,Array.getD_eq_getD_getElem?,Array.getElem?_setIfInBounds_ne hne]
  rw [h2]
  exact h1.mono hx
theorem Rdy.closed (S : Stat E n ops L) (I : Inv P n ds N ops L nms A σ ι0 w0 ι k listed a w) {p : Nat} {b : AO} (R : Rdy ops L listed p b) : Closed ops (Dn (listed.setIfInBounds b.ro.idx true)) := by
 have hlt : b.ro.idx < listed.size := by rw [I.size]; exact R.lt
 intro i o hi hd e he
 rw [dn_set hlt] at hd ⊢
 rcases hd with rfl | hd
 ·rw [(S.op p b R.at_).1] at hi; cases hi
  exact .inr (R.edges e he)
 ·exact .inr (I.closed i o hi hd e he)
theorem put_size {a : Act} {d : Option Tmp} {v : Value} : (a.put d v).tmps.size = a.tmps.size := by cases d <;> simp [Act.put]
theorem put_defers2 {a : Act} {d : Option Tmp} {v : Value} : (a.put d v).defers = a.defers := by cases d <;> simp [Act.put]
theorem Rdy.still (S : Stat E n ops L) (T1 : Tr M call nms L A σ) (I : Inv P n ds N ops L nms A σ ι0 w0 ι k listed a w) {p : Nat} {b : AO} (R : Rdy ops L listed p b) (hact : ¬ Actv A p b) {v : V} {v' : Value} (hv : VR ι v v') (hA : A (p + 1) = putD (A p) b.ro.dst v) (hok : okDst n b.ro.dst b.o.dst = true) :
  Inv P n ds N ops L nms A σ ι0 w0 ι k (listed.setIfInBounds b.ro.idx true) (a.put b.o.dst v') w := by
 have hlt : b.ro.idx < listed.size := by rw [I.size]; exact R.lt
 refine { size := by simp [I.size],closed := R.closed S I,fsize := by rw [put_size]; exact I.fsize,defers := by rw [put_defers2]; exact I.defers,rep := I.rep,kle := I.kle,before := ?_,pend := ?_,cont := ?_,clean := I.clean,free := ?_,slots := R.slots S T1 I (.refl ι) hv hA hok,g := I.g }
 ·intro e c he hc ha
  exact (dn_set hlt).2 (.inr (I.before e c he hc ha))
 ·intro e c he hc ha hd
  rw [dn_set hlt] at hd
  rcases hd with hd | hd
  ·have := S.idx_inj hc R.at_ hd
   subst this
   rw [R.at_] at hc; cases hc
   exact absurd ha hact
  ·exact I.pend e c he hc ha hd
 ·intro e c x j nm p' he hc h1 h2 h3 h4 h5 h6 h7 h8
  have hbj : ∀ y,b.ro.op ≠ .l y j := fun y hy => by
   rcases Nat.lt_trichotomy e p with h | h | h
   ·exact hact ((T1.same h hc R.at_ h1 hy (S.same h hc R.at_ h1 hy)).1 h3)
   ·subst h; rw [R.at_] at hc; cases hc; exact hact h3
   ·exact hact ((T1.same h R.at_ hc hy h1 (S.same h R.at_ hc hy h1)).2 h3)
  have hdn : ∀ (q : Nat) (d : AO) (y : EOp),L[q]? = some d → d.ro.op = .l y j → (Dn (listed.setIfInBounds b.ro.idx true) d.ro.idx ↔ Dn listed d.ro.idx) := fun q d y i1 i2 => by
   rw [dn_set hlt]
   refine ⟨fun h => h.resolve_left fun e' => ?_,.inr⟩
   have := S.idx_inj i1 R.at_ e'
   subst this
   rw [R.at_] at i1; cases i1
   exact hbj y i2
  exact I.cont e c x j nm p' he hc h1 h2 h3 ((hdn e c x hc h1).1 h4) h5 h6 h7 (fun q d y i1 i2 => by rw [← hdn q d y i1 i2]; exact h8 q d y i1 i2)
 ·intro e c x j nm hc h1 h0 h2 h3
  exact I.free e c x j nm hc h1 h0 h2 (fun h => h3 ((dn_set hlt).2 (.inr h)))
end
end Go.Proofs.YtldidldbhngmnaaGreatDoor
namespace Go.Proofs.YtldidldbhngmnaaGreatDoor
open Go
section
variable {P : Program} {E : Env P} {M : Mach} {call : Pos → List V → St → Option (V × St)} {n N : Nat} {ds : List Deferred} {ops : Array Oper} {L : List AO} {nms : List Pos} {A : Nat → T V} {σ : Nat → St} {ι0 ι : Nm} {w0 w : World} {k : Nat} {listed : Array Bool} {a : Act}
theorem Pend.go {ι' : Nm} {w' : World} {s s' : St} {nm : Pos} {ob : Ob} {N' : Nat} (h : Pend ι w s nm ob) (R : Rep ι s w) (g : G N' ι s w ι' s' w') : Pend ι' w' s' nm ob := by
 obtain ⟨pl,h1,h2,h0,h3,h4⟩ := h
 have hlt := (R.pl _ _ h1).lt
 refine ⟨pl,g.ext _ _ h1,h2.keep g.ext (fun pl' h5 _ => ?_),h0,fun q pq h5 h6 => ?_,fun h5 => h4 (g.img _ hlt h5)⟩
 ·rw [h1] at h5; cases h5
  exact g.keep _ hlt h4
 ·cases hq : ι q with
  | none => exact absurd (by have := g.new q pq h5 hq (by rw [h6]; exact hlt); rw [h6] at this; exact this) h4
  | some p1 =>
   have := g.ext q p1 hq
   rw [h5] at this; cases this
   exact h3 q pq hq h6
theorem lsound {e : EOp} (h : isLate e = true) (hm : ∀ ks,e ≠ .mkm ks) : LSound E e := by
 cases e <;> first | (cases h; done) | skip
 ·exact l_alo _
 ·exact l_box _ _
 ·exact l_bsl _ _ _ _
 ·exact absurd rfl (hm _)
theorem late_npv {e : EOp} (h : isLate e = true) : isPv e = false := by cases e <;> first | rfl | cases h
theorem Rep.name2 {ι : Nm} {s : St} {w : World} (R : Rep ι s w) {p : Pos} (hp : ι p = none) (h2 : p.nat < s.nx.nat) {ro : Obj} {pl0 : Pl} (hb : pl0.blk = w.heap.size) (hok : PlOk (w.alloc ro) pl0) {N : Nat} (hN : N ≤ p.nat) :
  Rep (nmSet ι p pl0) s (w.alloc ro) ∧ G N ι s w (nmSet ι p pl0) s (w.alloc ro) := by
 have hx : Ext ι (nmSet ι p pl0) := nmSet_ext hp
 have hold : ∀ r,r < w.heap.size → (w.alloc ro).heap[r]? = w.heap[r]? := fun r hr => by rw [heap_alloc_if,if_neg (by omega)]
 have hι : ∀ q,q ≠ p → nmSet ι p pl0 q = ι q := fun q hq => by simp [nmSet,hq]
 have hlt : ∀ q pl,ι q = some pl → pl.blk < w.heap.size := fun q pl hq => (R.pl q pl hq).lt
 have hlive : ∀ q o,T.get q s.h = some o → o.live = true → q ≠ p := fun q o hq hl e => by
  subst e
  obtain ⟨pl,h⟩ := (R.ob q o hq).place hl
  rw [hp] at h; cases h
 constructor
 ·constructor
  ·intro q o hq
   exact (R.ob q o hq).keep hx fun pl h3 _ => hold _ (hlt q pl h3)
  ·intro q pl hq
   by_cases e1 : q = p
   ·subst e1; rw [nmSet_self] at hq; cases hq
    exact hok
   ·rw [hι q e1] at hq
    exact (R.pl q pl hq).heap fun r hr o k => (hold r hr).trans k
  ·intro q pl hq
   by_cases e1 : q = p
   ·subst e1; exact h2
   ·rw [hι q e1] at hq; exact R.dom q pl hq
  ·exact R.hdom
  ·intro q o q' o' a b hq hw hq' hl ha hb hab hqq
   rw [hι q (hlive q o hq hw)] at ha
   rw [hι q' (hlive q' o' hq' hl)] at hb
   exact R.sep2 q o q' o' a b hq hw hq' hl ha hb hab hqq
  ·exact R.kin
  ·exact R.kpres
  ·intro q o q' o' a b hq hw hk hq' hl ha hb hab
   rw [hι q (hlive q o hq (Ob.wr_live hw))] at ha
   rw [hι q' (hlive q' o' hq' hl)] at hb
   exact R.fin q o q' o' a b hq hw hk hq' hl ha hb hab
 ·refine ⟨hx,fun q hq => hι q (fun e => by subst e; omega),Nat.le_refl _,by rw [World.size_alloc]; omega,rfl,rfl,rfl,fun r hr _ => hold r hr,?_,fun q pl h3 h4 h5 => by
   by_cases e1 : q = p
   ·subst e1; rw [nmSet_self] at h3; cases h3; omega
   ·rw [hι q e1,h4] at h3; cases h3⟩
  rintro r hr ⟨q,o,pl,hq,hw,hpl',rfl⟩
  rw [hι q (hlive q o hq (Ob.wr_live hw))] at hpl'
  exact ⟨q,o,pl,hq,hw,hpl',rfl⟩
theorem lsound2 {e : EOp} (h : isLate e = true) {n : Nat} {ds : List Deferred} {ι : Nm} {B : T V} {a : Act} {s s' : St} {w : World} {o : Oper} {v : V} {nm : Pos} (F : FR n ds ι B a) (L0 : Gl E.ng ι) (R : Rep ι s w) (hok : okE E e o.op = true) (hx : eev e (some nm) B s = some (v,s')) :
  ∃ ob ro pl v',s' = newB s (some nm) ob ∧ ob.kin = [] ∧ (execOp a.eval o).run P w = .ok (.value v') (w.alloc ro) ∧ pl.blk = w.heap.size ∧ PlOk (w.alloc ro) pl ∧
   ∀ ι' : Nm,Ext ι ι' → ι' nm = some pl → ObR ι' (w.alloc ro) nm ob ∧ VR ι' v v' := by
 by_cases hm : ∀ ks,e ≠ .mkm ks
 ·obtain ⟨l,c,ty,v',q1,q2,q3,q4⟩ := lsound h hm (o := o) F.self L0 R hok hx
  refine ⟨.cells l [] false false,.cells c ty,⟨w.heap.size,0,c.size,0⟩,v',q1,rfl,q2,rfl,⟨fun _ => ⟨c,ty,by rw [heap_alloc_if,if_pos rfl],rfl⟩,(fun h => by cases h),(fun h => by cases h),(fun h => by cases h),Nat.zero_le _⟩,fun ι' hx hι => ⟨?_,q4 ι' hι⟩⟩
  have hlen : l.length = c.size := by have := q3.1; simpa using this
  refine ⟨_,c,ty,hι,rfl,by rw [heap_alloc_if,if_pos rfl],rfl,by show 0 + l.length ≤ c.size; omega,fun i x y hx' hy => ?_⟩
  refine (q3.2 i x y hx' ?_).mono hx
  simpa using hy
 ·have : ∃ ks,e = .mkm ks := Classical.byContradiction fun hno => hm fun ks hks => hno ⟨ks,hks⟩
  obtain ⟨ks,rfl⟩ := this
  obtain ⟨d,op,ty,pos,af,g⟩ := o
  cases op <;> simp only [okE,Bool.false_eq_true,Bool.and_eq_true] at hok
  rename_i t r
  obtain ⟨h1,h2⟩ := hok
  simp only [eev,Option.some.injEq,Prod.mk.injEq] at hx
  obtain ⟨rfl,rfl⟩ := hx
  have hk : PlOk (w.alloc (.map #[] 0)) ⟨w.heap.size,0,0,1⟩ := ⟨(fun h => by cases h),fun _ => ⟨#[],0,by rw [heap_alloc_if,if_pos rfl]⟩,(fun h => by cases h),(fun h => by cases h),by simp⟩
  refine ⟨.map [] 0 ks,.map #[] 0,⟨w.heap.size,0,0,1⟩,.map (some w.heap.size),rfl,rfl,exv2 (s := Instr.makeMap t (r.map a.eval)) rfl ?_,rfl,hk,fun ι' _ hι => ⟨⟨_,#[],hι,rfl,by rw [heap_alloc_if,if_pos rfl],rfl,fun i x y h => by simp at h,fun i x h => by simp at h,fun i j x y h => by simp at h⟩,.map _ _ hι rfl⟩⟩
  split at h2
  ·rename_i k e hu
   split at h1
   ·simp only [Option.map_none,Instr.makeMap,newObj,Sem.run_bind,Sem.run,Result.andThen,Sem.run_pure]; rfl
   ·simp only [Option.map_some,Act.eval,Instr.makeMap,Sem.run_bind,run_underlying hu,Result.andThen_ok,asInt,asIntOf,Sem.run_pure,newObj,Sem.run,Result.andThen]; rfl
   ·cases h1
  ·cases h2
theorem Rdy.late (S : Stat E n ops L) (T1 : Tr M call nms L A σ) (U : Names N nms (σ 0) ι0) (L0 : Gl E.ng ι0) (I : Inv P n ds N ops L nms A σ ι0 w0 ι k listed a w) {p : Nat} {b : AO} (R : Rdy ops L listed p b) (hkp : k ≤ p) {e : EOp} {j : Nat} (hop : b.ro.op = .l e j) (hokE : okE E e b.o.op = true) (hlate : isLate e = true) (hok : okDst n b.ro.dst b.o.dst = true)
  (hw : wantG (A p) b.ro.gd = some true) {v : V} (hx : xop M call nms b.ro.op (A p) (σ p) = some (v,σ (p + 1))) (hA : A (p + 1) = putD (A p) b.ro.dst v) {K : Act → World → Prop} {Q : Exit → Act → World → Prop}
  (hK : ∀ a' w',(∃ ι k,Inv P n ds N ops L nms A σ ι0 w0 ι k (listed.setIfInBounds b.ro.idx true) a' w') → K a' w') : b.o.wp P a w K Q := by
 have hlt : b.ro.idx < listed.size := by rw [I.size]; exact R.lt
 have hnpv := late_npv hlate
 rw [hop] at hx
 simp only [xop,xQ,xL,xCallv,xInv,qevF_eq,eevF_eq,hnpv] at hx
 split at hx
 ·rename_i nm hn
  rw [lget_eq] at hn
  split at hx
  ·rename_i hfree
   obtain ⟨ob,hkin,h1,h2⟩ := late_inv hlate hx
   have h3 : eev e (some nm) (restr b.ro.slots (A p)) (σ k) = some (v,newB (σ k) (some nm) ob) := by
    rw [← h2 (σ k)]
    exact eev_congr (fun x hx => (ev_restr (fun s hs => arg_slots (by rw [hop]; exact hx) hs)).symm)
   obtain ⟨ob',ro,pl0,v',q1,q0,q2,q5,q6,q7⟩ := lsound2 hlate (o := b.o) (R.frame S I) (L0.mono I.g.ext) I.rep hokE h3
   have hl : ob = ob' := by
    have := congrArg (fun s => T.get nm s.h) q1
    simp only [get_newB,if_pos] at this
    cases this; rfl
   subst hl
   have hnone : ι nm = none := I.free p b e j nm R.at_ hop hnpv hn R.not
   obtain ⟨r1,r2⟩ := I.rep.name2 hnone (Nat.lt_of_lt_of_le (U.hi _ _ hn) I.g.nx) q5 q6 (U.lo _ _ hn)
   have hself : nmSet ι nm pl0 nm = some pl0 := nmSet_self _ _ _
   obtain ⟨hob,hv⟩ := q7 (nmSet ι nm pl0) r2.ext hself
   have hne : ∀ q,q ≠ nm → nmSet ι nm pl0 q = ι q := fun q hq => by simp [nmSet,hq]
   have halone : ∀ q pq,nmSet ι nm pl0 q = some pq → pq.blk = pl0.blk → q = nm := fun q pq h1 h2 => by
    by_cases hq : q = nm
    ·exact hq
    ·rw [hne q hq] at h1
     have := (I.rep.pl q pq h1).lt
     omega
   have hfst : ∀ (i : Nat) (d : AO) (y : EOp),L[i]? = some d → d.ro.op = .l y j → p ≤ i := fun i d y i1 i2 => Nat.le_of_not_lt fun hlt => by
    have := (S.same hlt i1 R.at_ i2 hop).2.2.1
    rw [hop] at this
    rw [kind_pv this] at hnpv; cases hnpv
   have hnd : ∀ (i : Nat) (d : AO) (y : EOp),L[i]? = some d → d.ro.op = .l y j → ¬ Dn listed d.ro.idx := fun i d y i1 i2 hd => by
    by_cases e' : p = i
    ·subst e'; rw [R.at_] at i1; cases i1; exact R.not hd
    ·have hpi := hfst i d y i1 i2
     have hs := S.same (by omega) R.at_ i1 hop i2
     exact R.not ((S.op i d i1).2.1 (Dn listed) I.closed (I.closed _ _ (S.op i d i1).1 hd) _ hs.2.1)
   unfold Oper.wp
   rw [q2]
   simp only [Oper.upon]
   refine hK _ _ ⟨nmSet ι nm pl0,k,{ size := by simp [I.size],closed := R.closed S I,fsize := by rw [put_size]; exact I.fsize,defers := by rw [put_defers2]; exact I.defers,rep := r1,kle := I.kle,before := ?_,pend := ?_,cont := ?_,clean := I.clean,free := ?_,slots := R.slots S T1 I r2.ext hv hA hok,g := I.g.trans (Nat.le_refl _) r2 }⟩
   ·intro e' c' he hc ha
    exact (dn_set hlt).2 (.inr (I.before e' c' he hc ha))
   ·intro e' c' he hc ha hd
    rw [dn_set hlt] at hd
    rcases hd with hd | hd
    ·have := S.idx_inj hc R.at_ hd
     subst this
     rw [R.at_] at hc; cases hc
     exact ⟨e,j,hop⟩
    ·exact I.pend e' c' he hc ha hd
   ·intro e' c' x' j' nm' p' he hc f1 f2 f3 f4 f5 f6 f7 f8
    by_cases hj : j' = j
    ·subst hj
     rw [hn] at f2; cases f2
     have hep : e' = p := by
      refine Classical.byContradiction fun hne' => ?_
      rw [dn_set hlt] at f4
      rcases f4 with f4 | f4
      ·exact hne' (S.idx_inj hc R.at_ f4)
      ·exact hnd e' c' x' hc f1 f4
     subst hep
     refine ⟨ob,?_,pl0,hself,hob,hkin,halone,?_⟩
     ·rw [(T1.calm S (p := e' + 1) p' (by omega) f6 (fun i d i1 i2 i3 => f7 i d (by omega) i2 i3)).2 nm (fun i d y j2 i1 i2 i3 i4 i5 i6 => ?_)]
      ·rw [h1,get_newB,if_pos rfl]
      ·have := U.inj _ _ _ i6 hn
       subst this
       have := (f8 i d y i3 i4).2 i2
       rw [dn_set hlt] at this
       rcases this with this | this
       ·have := S.idx_inj i3 R.at_ this
        omega
       ·exact hnd i d y i3 i4 this
     ·rintro ⟨q,o,plq,i1,i2,i3,i4⟩
      have hq := halone q plq i3 i4
      subst hq
      obtain ⟨pl,hpl⟩ := (I.rep.ob q o i1).place (Ob.wr_live i2)
      rw [hnone] at hpl; cases hpl
    ·have hdn : ∀ (q : Nat) (d : AO) (y : EOp),L[q]? = some d → d.ro.op = .l y j' → (Dn (listed.setIfInBounds b.ro.idx true) d.ro.idx ↔ Dn listed d.ro.idx) := fun q d y i1 i2 => by
      rw [dn_set hlt]
      refine ⟨fun h => h.resolve_left fun e' => ?_,.inr⟩
      have := S.idx_inj i1 R.at_ e'
      subst this
      rw [R.at_] at i1; cases i1
      rw [hop] at i2; cases i2
      exact hj rfl
     obtain ⟨ob2,t1,t2⟩ := I.cont e' c' x' j' nm' p' he hc f1 f2 f3 ((hdn e' c' x' hc f1).1 f4) f5 f6 f7 (fun q d y i1 i2 => by rw [← hdn q d y i1 i2]; exact f8 q d y i1 i2)
     exact ⟨ob2,t1,t2.go I.rep r2⟩
   ·intro e' c' x j' nm' hc e1 e0 e2 hd
    have hd' : ¬ Dn listed c'.ro.idx := fun h => hd ((dn_set hlt).2 (.inr h))
    have hnm : nm' ≠ nm := fun e0' => by
     subst e0'
     have hj := U.inj _ _ _ e2 hn
     subst hj
     have h5 := hfst e' c' x hc e1
     by_cases e' : p = e'
     ·subst e'; rw [R.at_] at hc; cases hc
      exact hd ((dn_set hlt).2 (.inl rfl))
     ·have := (S.same (by omega) R.at_ hc hop e1).2.2.1
      rw [e1] at this
      rw [kind_pv this] at e0; cases e0
    rw [hne nm' hnm]
    exact I.free e' c' x j' nm' hc e1 e0 e2 hd'
  ·cases hx
 ·cases hx
theorem Pend.tiny {s : St} {nm : Pos} {ob : Ob} (R : Rep ι s w) (h : Pend ι w s nm ob) : Rep ι ⟨T.set ob nm .nil,s.nx⟩ w := by
 obtain ⟨pl,h1,h2,h0,h3,h4⟩ := h
 have R0 : Rep ι ⟨.nil,s.nx⟩ w := R.drop rfl (fun q o hq => by rw [T.get_nil] at hq; cases hq) (fun q o r hq => by rw [T.get_nil] at hq; cases hq)
 refine R0.adopts rfl (fun q o hq => by rw [T.get_nil] at hq; cases hq) (fun q o hq => ?_)
 rw [T.get_set] at hq
 split at hq
 ·rename_i e; subst e; cases hq
  exact .inr ⟨T.get_nil _,pl,h1,h2,h0,h3⟩
 ·rw [T.get_nil] at hq; cases hq
theorem pv_read {a : Arg} {n : Nat} {ds : List Deferred} {B : T V} {ac : Act} {s s' : St} {o : Oper} {v : V} {nm : Pos} (F : FR n ds ι B ac) (L0 : Gl E.ng ι) (R : Rep ι s w) (hok : okP E (.prd a) o.op = true) (hx : eev (.prd a) (some nm) B s = some (v,s')) :
  ∃ v',(execOp ac.eval o).run P w = .ok (.value v') w ∧ VR ι v v' := by
 have hq : qev E.pt (.ld1 a) B s = some v := by
  simp only [eev] at hx
  split at hx
  ·rename_i q o' hq
   split at hx
   ·rename_i hb
    have := pbeq hb
    subst this
    split at hx
    ·rename_i l kin fz ro hg
     split at hx
     ·rename_i x hx'
      simp only [Option.some.injEq,Prod.mk.injEq] at hx
      obtain ⟨rfl,rfl⟩ := hx
      simp only [qev,hq,hg,hx']
     ·cases hx
    ·cases hx
   ·cases hx
  ·cases hx
 exact q_sound (.ld1 a) F.self L0 R hok hq
theorem pv_put {m k u : Arg} {ks : KSh} {n : Nat} {ds : List Deferred} {B : T V} {ac : Act} {s s' : St} {o : Oper} {v : V} {nm : Pos} (F : FR n ds ι B ac) (L0 : Gl E.ng ι) (R : Rep ι s w) (hok : okP E (.pin m k u ks) o.op = true) (hx : eev (.pin m k u ks) (some nm) B s = some (v,s')) :
  ∃ w',(execOp ac.eval o).run P w = .ok .skip w' ∧ v = .u ∧ Rep ι s' w' ∧ G s.nx.nat ι s w ι s' w' ∧ ∃ es ck,T.get nm s.h = some (.map es ck ks) := by
 obtain ⟨d,op,ty,pos,af,g⟩ := o
 have hok' : okE E (.mup m k u ks) op = true := hok
 clear hok
 cases op <;> simp only [okE,Bool.false_eq_true,Bool.and_eq_true] at hok'
 all_goals
  rename_i t m' k' v'
  obtain ⟨⟨⟨h1,h2⟩,h3⟩,h4⟩ := hok'
  split at h4
  ·rename_i kt et hu
   have K := E.mgood _ (by simpa using h4)
   simp only [eev] at hx
   split at hx
   ·rename_i q' hm
    split at hx
    ·rename_i hb
     have := pbeq hb
     subst this
     split at hx
     ·rename_i hsh
      split at hx
      ·rename_i q hm2
       cases hm2
       split at hx
       ·rename_i es ck ks' hg
        split at hx
        ·rename_i hks
         have hks : ks' = ks := of_decide_eq_true hks
         subst hks
         have hv : v = .u := by split at hx <;> cases hx <;> rfl
         subst hv
         obtain ⟨w',r1,r2,r3⟩ := upd_map (t := t) R hu K hg hsh (ev_sound F L0 h2) (ev_sound F L0 h3) (ev_as F L0 h1 hm) hx
         exact ⟨w',exu (s := Instr.mapUpdate t (ac.eval m') (ac.eval k') (ac.eval v')) rfl r1,rfl,r2,r3,es,ck,hg⟩
        ·cases hx
       ·cases hx
      ·rename_i hx'
       exact absurd rfl (hx' _)
     ·cases hx
    ·cases hx
   ·cases hx
  ·cases h4
theorem Rdy.priv (S : Stat E n ops L) (T1 : Tr M call nms L A σ) (U : Names N nms (σ 0) ι0) (L0 : Gl E.ng ι0) (I : Inv P n ds N ops L nms A σ ι0 w0 ι k listed a w) {p : Nat} {b : AO} (R : Rdy ops L listed p b) (hkp : k ≤ p) {e : EOp} {j : Nat} (hop : b.ro.op = .l e j) (hokE : okP E e b.o.op = true) (hpv : isPv e = true) (hok : okDst n b.ro.dst b.o.dst = true)
  (hw : wantG (A p) b.ro.gd = some true) {v : V} (hx : xop M call nms b.ro.op (A p) (σ p) = some (v,σ (p + 1))) (hA : A (p + 1) = putD (A p) b.ro.dst v) {K : Act → World → Prop} {Q : Exit → Act → World → Prop}
  (hK : ∀ a' w',(∃ ι k,Inv P n ds N ops L nms A σ ι0 w0 ι k (listed.setIfInBounds b.ro.idx true) a' w') → K a' w') : b.o.wp P a w K Q := by
 have hlt : b.ro.idx < listed.size := by rw [I.size]; exact R.lt
 have hpl : p < L.length := (List.getElem?_eq_some_iff.1 R.at_).1
 have hactp : Actv A p b := (act_l hop).2 hw
 rw [hop] at hx
 simp only [xop,xQ,xL,xCallv,xInv,qevF_eq,eevF_eq,hpv] at hx
 split at hx
 ·rename_i nm hn
  rw [lget_eq] at hn
  replace hx : eev e (some nm) (A p) (σ p) = some (v,σ (p + 1)) := by split at hx <;> exact hx
  obtain ⟨ob,ob',g1,g2,g3,g4,g5⟩ := priv_inv hpv hx
  obtain ⟨p0,a0,e0,c1,c2,c3,c4⟩ := S.cr p b e j R.at_ hop
  have hp0 : p0 < p := by
   refine Nat.lt_of_le_of_ne c1 fun e' => ?_
   subst e'
   rw [R.at_] at c2; cases c2
   rw [hop] at c3; cases c3
   rw [hpv] at c4; cases c4
  have sm := S.same hp0 c2 R.at_ c3 hop
  have hact0 : Actv A p0 a0 := (T1.same hp0 c2 R.at_ c3 hop sm).2 hactp
  have hdn0 : Dn listed a0.ro.idx := (S.op p b R.at_).2.1 (Dn listed) I.closed R.edges _ sm.2.1
  have hk0 : k ≤ p0 := Nat.le_of_not_lt fun hlt' => by
   obtain ⟨m,m1,m2,m3⟩ := I.clean p0 a0 e0 j hlt' c2 c3 hact0
   rcases m3 with m3 | ⟨d,m3,m4⟩
   ·omega
   ·by_cases e' : m = p
    ·subst e'; rw [R.at_] at m3; cases m3
     rw [isN_l hop] at m4; cases m4
    ·have := (sm.2.2.2.2 m d m1 (by omega) m3).2
     rw [this] at m4; cases m4
  have hpre : ∀ (q : Nat) (c : AO) (y : EOp),L[q]? = some c → c.ro.op = .l y j → (Dn listed c.ro.idx ↔ q < p) := fun q c y i1 i2 => by
   rcases Nat.lt_trichotomy q p with h | h | h
   ·exact ⟨fun _ => h,fun _ => (S.op p b R.at_).2.1 (Dn listed) I.closed R.edges _ (S.same h i1 R.at_ i2 hop).2.1⟩
   ·subst h; rw [R.at_] at i1; cases i1
    exact ⟨fun h => absurd h R.not,fun h => absurd h (Nat.lt_irrefl _)⟩
   ·refine ⟨fun hd => absurd ?_ R.not,fun h' => absurd h' (by omega)⟩
    exact (S.op q c i1).2.1 (Dn listed) I.closed (I.closed _ _ (S.op q c i1).1 hd) _ (S.same h R.at_ i1 hop i2).2.1
  obtain ⟨obx,t1,t2⟩ := I.cont p0 a0 e0 j nm p hk0 c2 c3 hn hact0 hdn0 hp0 (by omega) (fun q c i1 i2 i3 => (sm.2.2.2.2 q c i1 i2 i3).2) hpre
  rw [g1] at t1; cases t1
  have RT := t2.tiny I.rep
  obtain ⟨σ2,y1,y2,y3⟩ := g5 ⟨T.set ob nm .nil,(σ k).nx⟩ (by rw [T.get_set,if_pos rfl])
  replace y1 : eev e (some nm) (restr b.ro.slots (A p)) ⟨T.set ob nm .nil,(σ k).nx⟩ = some (v,σ2) := by
   rw [← y1]
   exact eev_congr (fun x hx => (ev_restr (fun s hs => arg_slots (by rw [hop]; exact hx) hs)).symm)
  have hupd : ∀ (q : Nat) (d : AO) (y : EOp) (j' : Nat),L[q]? = some d → d.ro.op = .l y j' → j' ≠ j → (Dn (listed.setIfInBounds b.ro.idx true) d.ro.idx ↔ Dn listed d.ro.idx) := fun q d y j' i1 i2 hne => by
   rw [dn_set hlt]
   refine ⟨fun h => h.resolve_left fun e' => ?_,.inr⟩
   have := S.idx_inj i1 R.at_ e'
   subst this
   rw [R.at_] at i1; cases i1
   rw [hop] at i2; cases i2
   exact hne rfl
  have main : ∀ (w' : World) (v' : Value),VR ι v v' → Rep ι (σ k) w' → G N ι0 (σ 0) w0 ι (σ k) w' → Pend ι w' (σ k) nm ob' → (∀ nm2 ob2,nm2 ≠ nm → Pend ι w (σ k) nm2 ob2 → Pend ι w' (σ k) nm2 ob2) → K (a.put b.o.dst v') w' := fun w' v' hv hR hG hP hO => by
   refine hK _ _ ⟨ι,k,{ size := by simp [I.size],closed := R.closed S I,fsize := by rw [put_size]; exact I.fsize,defers := by rw [put_defers2]; exact I.defers,rep := hR,kle := I.kle,before := ?_,pend := ?_,cont := ?_,clean := I.clean,free := ?_,slots := R.slots S T1 I (.refl ι) hv hA hok,g := hG }⟩
   ·intro e' c' he hc ha
    exact (dn_set hlt).2 (.inr (I.before e' c' he hc ha))
   ·intro e' c' he hc ha hd
    rw [dn_set hlt] at hd
    rcases hd with hd | hd
    ·have := S.idx_inj hc R.at_ hd
     subst this
     rw [R.at_] at hc; cases hc
     exact ⟨e,j,hop⟩
    ·exact I.pend e' c' he hc ha hd
   ·intro e' c' x' j' nm' p' he hc f1 f2 f3 f4 f5 f6 f7 f8
    by_cases hj : j' = j
    ·subst hj
     rw [hn] at f2; cases f2
     have hpp : p < p' := (f8 p b e R.at_ hop).1 ((dn_set hlt).2 (.inl rfl))
     have he'p : e' ≤ p := Nat.le_of_not_lt fun h => by
      rw [dn_set hlt] at f4
      rcases f4 with f4 | f4
      ·have := S.idx_inj hc R.at_ f4
       omega
      ·have := (hpre e' c' x' hc f1).1 f4
       omega
     refine ⟨ob',?_,hP⟩
     rw [(T1.calm S (p := p + 1) p' (by omega) f6 (fun i d i1 i2 i3 => f7 i d (by omega) i2 i3)).2 nm (fun i d y j2 i1 i2 i3 i4 i5 i6 => ?_)]
     ·rw [g4,if_pos rfl]
     ·have := U.inj _ _ _ i6 hn
      subst this
      have := (f8 i d y i3 i4).2 i2
      rw [dn_set hlt] at this
      rcases this with this | this
      ·have := S.idx_inj i3 R.at_ this
       omega
      ·have := (hpre i d y i3 i4).1 this
       omega
    ·have hne : nm' ≠ nm := fun e' => by subst e'; exact hj (U.inj _ _ _ f2 hn)
     obtain ⟨ob2,z1,z2⟩ := I.cont e' c' x' j' nm' p' he hc f1 f2 f3 ((hupd e' c' x' j' hc f1 hj).1 f4) f5 f6 f7 (fun q d y i1 i2 => by rw [← hupd q d y j' i1 i2 hj]; exact f8 q d y i1 i2)
     exact ⟨ob2,z1,hO nm' ob2 hne z2⟩
   ·intro e' c' x j' nm' hc e1 e0 e2 hd
    exact I.free e' c' x j' nm' hc e1 e0 e2 (fun h => hd ((dn_set hlt).2 (.inr h)))
  cases e <;> first | (cases hpv; done) | skip
  case prd x =>
   obtain ⟨v',r1,r2⟩ := pv_read (o := b.o) (R.frame S I) (L0.mono I.g.ext) RT hokE y1
   have hob : ob' = ob := by
    have hs : σ (p + 1) = σ p := by
     simp only [eev] at hx
     split at hx
     ·split at hx
      ·split at hx
       ·split at hx
        ·simp only [Option.some.injEq,Prod.mk.injEq] at hx; exact hx.2.symm
        ·cases hx
       ·cases hx
      ·cases hx
     ·cases hx
    have := g4 nm
    rw [hs,g1,if_pos rfl] at this
    exact (Option.some.inj this).symm
   unfold Oper.wp
   rw [r1]
   refine main w v' r2 I.rep I.g ?_ (fun _ _ _ h => h)
   rw [hob]; exact t2
  case pin m' k' u' ks =>
   obtain ⟨w',r1,rfl,r2,r3,es,ck,r4⟩ := pv_put (o := b.o) (R.frame S I) (L0.mono I.g.ext) RT hokE y1
   rw [T.get_set,if_pos rfl] at r4
   cases r4
   obtain ⟨pl,h1,h2,h0,h3,h4⟩ := t2
   have hkd : pl.kd = 1 := by
    obtain ⟨pl',_,k1,k2,_⟩ := h2
    rw [h1] at k1; cases k1; exact k2
   have himg : ∀ r,Img ι ⟨T.set (Ob.map es ck ks) nm .nil,(σ k).nx⟩ r → r = pl.blk := by
    rintro r ⟨q,o,plq,i1,i2,i3,i4⟩
    rw [T.get_set] at i1
    split at i1
    ·rename_i e'; subst e'
     rw [h1] at i3; cases i3; exact i4.symm
    ·rw [T.get_nil] at i1; cases i1
   have hlt' := (I.rep.pl _ _ h1).lt
   have hkeep : ∀ r,r < w.heap.size → r ≠ pl.blk → w'.heap[r]? = w.heap[r]? := fun r hr hne => r3.keep r hr (fun h => hne (himg r h))
   have hfar : ∀ q o pq,T.get q (σ k).h = some o → o.live = true → ι q = some pq → pq.blk ≠ pl.blk := fun q o pq i1 i2 i3 i4 => by
    have := h3 q pq i3 i4
    subst this
    rw [h1] at i3; cases i3
    cases o with
    | cells l kin fz ro =>
     obtain ⟨pl',_,_,k1,k2,_⟩ := I.rep.ob _ _ i1
     rw [h1] at k1; cases k1
     rw [hkd] at k2; cases k2
    | map es2 ck2 ks2 => exact h4 ⟨_,_,pl,i1,rfl,h1,rfl⟩
    | mit m s n st => exact h4 ⟨_,_,pl,i1,rfl,h1,rfl⟩
    | sit l n => exact h4 ⟨_,_,pl,i1,rfl,h1,rfl⟩
    | dead => cases i2
   have hR : Rep ι (σ k) w' := { I.rep with
    ob := fun q o hq => (I.rep.ob q o hq).keep (.refl ι) fun pq hpq hlv => hkeep _ (I.rep.pl q pq hpq).lt (hfar q o pq hq hlv hpq)
    pl := r2.pl }
   have hG : G N ι0 (σ 0) w0 ι (σ k) w' := { I.g with
    size := Nat.le_trans I.g.size r3.size
    os := r3.os.trans I.g.os
    tape := r3.tape.trans I.g.tape
    out := r3.out.trans I.g.out
    keep := fun r hr hi => (hkeep r (Nat.lt_of_lt_of_le hr I.g.size) (fun e' => hi (by
     subst e'
     exact I.g.new nm pl h1 (U.none _ _ hn) hr))).trans (I.g.keep r hr hi) }
   unfold Oper.wp
   rw [r1]
   refine main w' undef (.u _) hR hG ⟨pl,h1,?_,g2 h0,h3,h4⟩ ?_
   ·exact r2.ob nm ob' (by rw [y3,if_pos rfl])
   ·rintro nm2 ob2 hne ⟨pl2,j1,j2,j3,j4,j5⟩
    refine ⟨pl2,j1,j2.keep (.refl ι) (fun pq hpq hlv => ?_),j3,j4,j5⟩
    rw [j1] at hpq; cases hpq
    refine hkeep _ (I.rep.pl _ _ j1).lt (fun e' => hne ?_)
    exact (j4 nm pl h1 e'.symm).symm
 ·cases hx
theorem pairK_eff {x y : RO} {c : Bool} (h : pairK x y c = true) (hx : 2 ≤ kindN x.op) : kindN y.op = 0 ∨ kindN y.op = 3 ∨ kindN y.op = 4 := by
 unfold pairK at h
 split at h
 ·omega
 ·omega
 ·split at h
  ·left; assumption
  ·right; left; assumption
  ·right; right; assumption
  ·cases h
theorem rdy_step (hpt : M.pt = E.pt) (hmt : MtOk P M.mt) (hc : CallOK P E.ng call) (S : Stat E n ops L) (T1 : Tr M call nms L A σ) (U : Names N nms (σ 0) ι0) (hN : N ≤ (σ 0).nx.nat) (L0 : Gl E.ng ι0) (I : Inv P n ds N ops L nms A σ ι0 w0 ι k listed a w) {p : Nat} {b : AO} (R : Rdy ops L listed p b)
  {K : Act → World → Prop} {Q : Exit → Act → World → Prop} (hK : ∀ a' w',(∃ ι k,Inv P n ds N ops L nms A σ ι0 w0 ι k (listed.setIfInBounds b.ro.idx true) a' w') → K a' w') : wpOp P ops Q b.ro.idx K a w := by
 obtain ⟨k,I,hmax⟩ := I.adv S T1 U _ _ (Nat.le_refl _)
 have hlt : b.ro.idx < listed.size := by rw [I.size]; exact R.lt
 have hp : p < L.length := (List.getElem?_eq_some_iff.1 R.at_).1
 obtain ⟨hop,hmask,hok,hedge⟩ := S.op p b R.at_
 simp only [okRO,Bool.and_eq_true] at hok
 obtain ⟨⟨hokX,hokD⟩,hokG⟩ := hok
 have hguard : ∀ q c,b.ro.gd = some (q,c) → ∀ v t,T.get q (A p) = some v → q.nat = t + 1 → VR ι v (a.tmps.getD t undef) := fun q c hg v t h1 h2 => R.slot S I (gslot_slots hg) h2 h1
 have hlow : k < p → Actv A p b ∨ isN b.ro.op = true → kindN b.ro.op = 0 ∨ kindN b.ro.op = 3 ∨ kindN b.ro.op = 4 := fun h hb => by
  rcases hmax with hm | ⟨q,c,hq,hc1,hc2,hc3,hc4⟩
  ·omega
  ·rcases Nat.lt_or_ge q p with h' | h'
   ·obtain ⟨_,x,h5⟩ := R.lower S I h' hc1 hc3
    exact pairK_eff h5 hc2.2
   ·rcases hc4 with hc4 | hc4
    ·omega
    ·have hN := hc4 p b (by omega) h' R.at_
     rcases hb with hb | hb
     ·obtain ⟨x,j,ho⟩ := act_kind hb hN
      rw [ho]
      simp only [kindN]
      cases isPv x <;> simp
     ·rw [hN] at hb; cases hb
 unfold Go.wpOp
 rw [hop]
 simp only
 rcases xstep_inv (T1.step p b R.at_) with ⟨h1,h2,h3⟩ | ⟨h1,v,h2,h3,h4⟩
 ·have hw := want_sound (n := n) (a := a) hguard hokG h1
  rw [hw]
  simp only [Bool.false_eq_true,if_false]
  refine hK _ _ ⟨ι,k,R.still S T1 I (fun h => ?_) (.mk_tup .nil) h2 hokD⟩
  have := h.1; rw [h1] at this; cases this
 ·have hw := want_sound (n := n) (a := a) hguard hokG h1
  rw [hw]
  simp only [if_true]
  left
  by_cases hkind : 2 ≤ kindN b.ro.op
  ·have hact : Actv A p b := ⟨h1,hkind⟩
   have hkp : k ≤ p := Nat.le_of_not_lt fun h => R.not (I.before p b h R.at_ hact)
   cases hl : isL b.ro.op with
   | true =>
    obtain ⟨e,j,he⟩ : ∃ e j,b.ro.op = .l e j := by
     generalize b.ro.op = x at hl
     cases x <;> first | (cases hl; done) | exact ⟨_,_,rfl⟩
    rw [he] at hokX
    simp only [okX,Bool.or_eq_true,Bool.and_eq_true] at hokX
    rcases hokX with hokX | hokX
    ·exact R.late S T1 U L0 I hkp he hokX.1 hokX.2 hokD h1 h2 h3 hK
    ·have hpv : isPv e = true := by cases e <;> first | rfl | (simp only [okP,Bool.false_eq_true] at hokX)
     exact R.priv S T1 U L0 I hkp he hokX hpv hokD h1 h2 h3 hK
   | false =>
    have hk2 : kindN b.ro.op = 2 := by
     generalize b.ro.op = x at hl hkind
     cases x <;> first | rfl | (cases hl; done) | skip
     rename_i q
     exfalso
     simp only [kindN] at hkind
     split at hkind <;> omega
    have hkp : k = p := by
     rcases Nat.lt_or_ge k p with h | h
     ·have := hlow h (.inl hact); omega
     ·omega
    subst hkp
    have h5 : xop M call nms b.ro.op (restr b.ro.slots (A k)) (σ k) = some (v,σ (k + 1)) := by
     rw [← h2]
     exact xop_congr (fun x hx => (ev_restr (fun s hs => arg_slots hx hs)).symm)
    refine xop_sound hpt hmt hc (R.frame S I) (L0.mono I.g.ext) I.rep hokX hl h5 ?_
    intro ι' v' w' q1 q2 q3
    refine hK _ _ ⟨ι',k + 1,{ size := by simp [I.size],closed := R.closed S I,fsize := by rw [put_size]; exact I.fsize,defers := by rw [put_defers2]; exact I.defers,rep := q2,kle := hp,before := ?_,pend := ?_,cont := ?_,clean := ?_,free := ?_,slots := R.slots S T1 I q3.ext q1 h3 hokD,g := I.g.trans (Nat.le_trans hN I.g.nx) q3 }⟩
    ·intro e c he hc1 ha
     rw [dn_set hlt]
     by_cases hek : e = k
     ·subst hek
      rw [R.at_] at hc1; cases hc1
      exact .inl rfl
     ·exact .inr (I.before e c (by omega) hc1 ha)
    ·intro e c he hc1 ha hd
     rw [dn_set hlt] at hd
     rcases hd with hd | hd
     ·have := S.idx_inj hc1 R.at_ hd
      omega
     ·exact I.pend e c (by omega) hc1 ha hd
    ·intro e c x j nm p' he hc1 f1 f2 f3 f4 f5 f6 f7 f8
     have hdn : ∀ (q : Nat) (d : AO) (y : EOp) (j' : Nat),L[q]? = some d → d.ro.op = .l y j' → (Dn (listed.setIfInBounds b.ro.idx true) d.ro.idx ↔ Dn listed d.ro.idx) := fun q d y j' i1 i2 => by
      rw [dn_set hlt]
      refine ⟨fun h => h.resolve_left fun e' => ?_,.inr⟩
      have := S.idx_inj i1 R.at_ e'
      subst this
      rw [R.at_] at i1; cases i1
      rw [i2] at hl; cases hl
     obtain ⟨ob2,z1,z2⟩ := I.cont e c x j nm p' (by omega) hc1 f1 f2 f3 ((hdn e c x j hc1 f1).1 f4) f5 f6 f7 (fun q d y i1 i2 => by rw [← hdn q d y j i1 i2]; exact f8 q d y i1 i2)
     exact ⟨ob2,z1,z2.go I.rep q3⟩
    ·intro e c x j he hc1 f1 f2
     by_cases hek : e = k
     ·subst hek; rw [R.at_] at hc1; cases hc1
      rw [f1] at hl; cases hl
     ·obtain ⟨m,m1,m2,m3⟩ := I.clean e c x j (by omega) hc1 f1 f2
      exact ⟨m,m1,by omega,m3⟩
    ·intro e c x j nm hc1 e1 e0 e2 hd
     have hd' : ¬ Dn listed c.ro.idx := fun h => hd ((dn_set hlt).2 (.inr h))
     rw [q3.old nm (Nat.lt_of_lt_of_le (U.hi _ _ e2) I.g.nx)]
     exact I.free e c x j nm hc1 e1 e0 e2 hd'
  ·obtain ⟨q,hq⟩ := kindN_lt hkind
   have hnact : ¬ Actv A p b := fun h => hkind h.2
   have hv : qev M.pt q (A p) (σ p) = some v := by
    rw [hq] at h2
    simp only [xop,xQ,xL,xCallv,xInv,qevF_eq,eevF_eq] at h2
    split at h2
    ·rename_i v' hv
     simp only [Option.some.injEq,Prod.mk.injEq] at h2
     rw [hv,h2.1]
    ·cases h2
   have hvk : qev M.pt q (A p) (σ k) = some v := by
    cases hpure : isPure q with
    | true => rw [qev_pure hpure M.pt (A p) (σ k) (σ p)]; exact hv
    | false =>
     have hkp : p ≤ k := Nat.le_of_not_lt fun h => by
      have := hlow h (.inr (by rw [hq]; simp [isN,kindN,hpure]))
      rw [hq] at this
      simp [kindN,hpure] at this
     refine read_stable S T1 R.at_ hq hpure h1 hv k hkp I.kle (fun e c he1 he2 hc1 ha => ?_)
     exact (R.upper S I he1 hc1 (I.before e c he2 hc1 ha)).2
   rw [hq] at hokX
   have hvk : qev E.pt q (restr b.ro.slots (A p)) (σ k) = some v := by
    rw [← hvk,hpt]
    exact qev_congr (fun x hx => (ev_restr (fun s hs => arg_slots (by rw [hq]; exact hx) hs)).symm)
   obtain ⟨v',r1,r2⟩ := q_sound q (o := b.o) (R.frame S I).self (L0.mono I.g.ext) I.rep hokX hvk
   unfold Oper.wp
   rw [r1]
   exact hK _ _ ⟨ι,k,R.still S T1 I hnact r2 h3 hokD⟩
theorem ready_rdy (S : Stat E n ops L) (hsz : listed.size = ops.size) {i : Nat} (h : i ∈ Region.ready .any ops listed) : ∃ (p : Nat) (b : AO),b.ro.idx = i ∧ Rdy ops L listed p b := by
 unfold Region.ready at h
 rw [List.mem_filter] at h
 obtain ⟨h1,h2⟩ := h
 have hi : i < ops.size := by simpa using h1
 obtain ⟨p,b,hp,hb⟩ := S.cov i hi
 have hop := (S.op p b hp).1
 rw [hb] at hop
 simp only [hop,Bool.and_eq_true,Bool.not_eq_true',Option.map_some,Option.getD_some] at h2
 refine ⟨p,b,hb,⟨hp,by rw [hb]; exact hi,?_,fun e he => ?_⟩⟩
 ·intro hd
  rw [hb] at hd
  unfold Dn at hd
  have hil : i < listed.size := by omega
  have h3 := h2.1
  simp [Array.getD,hil] at h3 hd
  rw [h3] at hd; cases hd
 ·obtain ⟨x,hx,rfl⟩ := List.mem_map.1 he
  rw [List.mem_filter] at hx
  have h4 := h2.2
  rw [Array.all_eq_true'] at h4
  have := h4 x (by simpa using hx.1)
  rw [hx.2] at this
  unfold Dn
  simpa using this
theorem not_ready_all (S : Stat E n ops L) (hsz : listed.size = ops.size) (h : Region.ready .any ops listed = []) : ∀ (p : Nat) (b : AO),L[p]? = some b → Dn listed b.ro.idx := by
 intro p
 induction p using Nat.strongRecOn with
 | _ p ih =>
  intro b hb
  obtain ⟨hop,_,_,hedge⟩ := S.op p b hb
  by_cases hd : Dn listed b.ro.idx
  ·exact hd
  ·exfalso
   have hlt : b.ro.idx < ops.size := (Array.getElem?_eq_some_iff.1 hop).1
   have hmem : b.ro.idx ∈ Region.ready .any ops listed := by
    unfold Region.ready
    rw [List.mem_filter]
    refine ⟨by simpa using hlt,?_⟩
    simp only [hop,Bool.and_eq_true,Bool.not_eq_true',Option.map_some,Option.getD_some]
    constructor
    ·have hil : b.ro.idx < listed.size := by omega
     unfold Dn at hd
     simp [Array.getD,hil] at hd ⊢
     exact hd
    ·rw [Array.all_eq_true']
     intro x hx
     cases hbind : Region.binds .any x with
     | false => rfl
     | true =>
      have : x.on ∈ edgesB b.o := List.mem_map.2 ⟨x,List.mem_filter.2 ⟨by simpa using hx,hbind⟩,rfl⟩
      obtain ⟨j,c,hj,hc,he⟩ := hedge _ this
      have := ih j hj c hc
      rw [he] at this
      unfold Dn at this
      simpa using this
   rw [h] at hmem
   cases hmem
def cnt (listed : Array Bool) (m : Nat) : Nat := (List.range m).countP (fun i => !listed.getD i false)
theorem countP_lt {α : Type} {f g : α → Bool} : ∀ (l : List α),(∀ x ∈ l,g x = true → f x = true) → (∃ x ∈ l,f x = true ∧ g x = false) → l.countP g < l.countP f
 | [],_,h => by obtain ⟨x,h,_⟩ := h; cases h
 | y :: l,h1,h2 => by
  have hle : l.countP g ≤ l.countP f := List.countP_mono_left (fun x hx hg => h1 x (List.mem_cons_of_mem _ hx) hg)
  rw [List.countP_cons,List.countP_cons]
  obtain ⟨x,hx,hf,hg⟩ := h2
  rcases List.mem_cons.1 hx with rfl | hx
  ·rw [hf,hg]; simp; omega
  ·have := countP_lt l (fun x hx hg => h1 x (List.mem_cons_of_mem _ hx) hg) ⟨x,hx,hf,hg⟩
   cases hgy : g y with
   | true => rw [h1 y (by simp) hgy]; simp; omega
   | false => cases f y <;> simp <;> omega
theorem any_sound (hpt : M.pt = E.pt) (hmt : MtOk P M.mt) (hc : CallOK P E.ng call) (S : Stat E n ops L) (T1 : Tr M call nms L A σ) (U : Names N nms (σ 0) ι0) (hN : N ≤ (σ 0).nx.nat) (L0 : Gl E.ng ι0) {Q : Exit → Act → World → Prop}
  (hQ : ∀ ι' a' w',FR n ds ι' (A L.length) a' → Rep ι' (σ L.length) w' → G N ι0 (σ 0) w0 ι' (σ L.length) w' → Q .normal a' w') :
  ∀ (fuel : Nat) (listed : Array Bool) (a : Act) (w : World),cnt listed ops.size ≤ fuel → (∃ ι k,Inv P n ds N ops L nms A σ ι0 w0 ι k listed a w) → wpAny P .any ops Q fuel listed a w := by
 have fin : ∀ (listed : Array Bool) (a : Act) (w : World),(∃ ι k,Inv P n ds N ops L nms A σ ι0 w0 ι k listed a w) → Region.ready .any ops listed = [] → Q .normal a w := by
  rintro listed a w ⟨ι,k,I⟩ hr
  have hall := not_ready_all S I.size hr
  obtain ⟨k',I,hk⟩ := I.adv S T1 U _ _ (Nat.le_refl _)
  have hk : k' = L.length := by
   rcases hk with hk | ⟨q,b,_,hb,_,hd,_⟩
   ·exact hk
   ·exact absurd (hall _ b hb) hd
  subst hk
  refine hQ ι a w ⟨I.fsize,I.defers,fun s v t h1 h2 => ?_⟩ I.rep I.g
  refine I.slots s t _ v h2 (Nat.le_refl _) (fun q b hb _ => ⟨fun _ => (List.getElem?_eq_some_iff.1 hb).1,fun _ => hall q b hb⟩) h1
 intro fuel
 induction fuel with
 | zero =>
  rintro listed a w hcnt ⟨ι,k,I⟩
  have hr : Region.ready .any ops listed = [] := by
   cases hr : Region.ready .any ops listed with
   | nil => rfl
   | cons i l =>
    obtain ⟨p,b,rfl,R⟩ := ready_rdy S I.size (listed := listed) (i := i) (by rw [hr]; simp)
    exfalso
    have hz : cnt listed ops.size = 0 := by omega
    unfold cnt at hz
    rw [List.countP_eq_zero] at hz
    have := hz b.ro.idx (by simpa using R.lt)
    have hn := R.not
    unfold Dn at hn
    simp at this hn
    rw [hn] at this
    cases this
  exact ⟨hr,fin listed a w ⟨ι,k,I⟩ hr⟩
 | succ fuel ih =>
  rintro listed a w hcnt ⟨ι,k,I⟩
  refine ⟨fun hr => fin listed a w ⟨ι,k,I⟩ hr,fun i hi => ?_⟩
  obtain ⟨p,b,rfl,R⟩ := ready_rdy S I.size hi
  refine rdy_step hpt hmt hc S T1 U hN L0 I R ?_
  intro a' w' hI
  refine ih _ a' w' ?_ hI
  have hlt : b.ro.idx < listed.size := by rw [I.size]; exact R.lt
  have : cnt (listed.setIfInBounds b.ro.idx true) ops.size < cnt listed ops.size := by
   refine countP_lt _ (fun x _ hx => ?_) ⟨b.ro.idx,by simpa using R.lt,?_,?_⟩
   ·have h2 := mt (fun h => (dn_set (x := x) hlt).2 (.inr h))
    unfold Dn at h2
    simp only [Bool.not_eq_true'] at hx ⊢
    cases h3 : listed.getD x false with
    | false => rfl
    | true => exact absurd h3 (h2 (by rw [hx]; simp))
   ·have hn := R.not
    unfold Dn at hn
    cases h3 : listed.getD b.ro.idx false with
    | false => rfl
    | true => exact absurd h3 hn
   ·have := (dn_set (x := b.ro.idx) hlt).2 (.inl rfl)
    unfold Dn at this
    rw [this]; rfl
  omega
def RgdAny (P : Program) (E : Env P) (M : Mach) (n : Nat) (okD : Nat → List RO → Array Oper → Bool) : Prop := ∀ (call : Pos → List V → St → Option (V × St)),CallOK P E.ng call → ∀ (id k : Nat) (l : List RO) (ops : Array Oper),okD k l ops = true →
 ∀ {ds : List Deferred} {ι : Nm} {A A' : T V} {a : Act} {σ σ' : St} {w : World} {Q : Exit → Act → World → Prop},runR M call (namesOf k σ.nx).1 l A ⟨σ.h,(namesOf k σ.nx).2⟩ = some (A',σ') → FR n ds ι A a → Gl E.ng ι → Rep ι σ w →
 (∀ ι' a' w',FR n ds ι' A' a' → Rep ι' σ' w' → G σ.nx.nat ι σ w ι' σ' w' → Q .normal a' w') → wpAny P .any ops Q ops.size (Array.replicate ops.size false) a { w with drawn := w.drawn + 1 }
theorem rgd_any (hpt : M.pt = E.pt) (hmt : MtOk P M.mt) (n : Nat) : RgdAny P E M n (okD E n) := by
 intro call hc id k l ops hok ds ι A0 A' a σ0 σ' w Q hr F L0 R hQ
 obtain ⟨L,hL,S⟩ := stat_of_okD hok
 rw [← hL] at hr
 obtain ⟨A,σ,e1,e2,T1,e3,e4⟩ := tr_of_run L _ _ _ _ hr
 have hnx : (namesOf k σ0.nx).2.nat = σ0.nx.nat + k := namesOf_nx k σ0.nx
 have h0 : σ 0 = ⟨σ0.h,(namesOf k σ0.nx).2⟩ := e2
 have U : Names σ0.nx.nat (namesOf k σ0.nx).1 (σ 0) ι := by
  constructor
  ·intro j nm h; have := namesOf_get _ _ _ _ h; omega
  ·intro j nm h
   have := namesOf_get _ _ _ _ h
   rw [h0]; show nm.nat < (namesOf k σ0.nx).2.nat
   omega
  ·intro i j nm h1 h2
   have h1 := namesOf_get _ _ _ _ h1
   have h2 := namesOf_get _ _ _ _ h2
   omega
  ·intro j nm h
   have := namesOf_get _ _ _ _ h
   cases hn : ι nm with
   | none => rfl
   | some pl => have := R.dom nm pl hn; omega
 refine any_sound (ds := ds) (w0 := w) hpt hmt hc S T1 U (by rw [h0]; show _ ≤ (namesOf k σ0.nx).2.nat; omega) L0 ?_ _ _ _ _ ?_ ⟨ι,0,?_⟩
 ·intro ι' a' w' F' R' G'
  rw [e3] at F'
  rw [e4] at R' G'
  refine hQ ι' a' w' F' R' { G' with nx := ?_,keep := ?_,img := ?_,new := ?_ }
  ·have := G'.nx
   rw [h0] at this
   have : (namesOf k σ0.nx).2.nat ≤ σ'.nx.nat := this
   omega
  ·intro r hr hi
   exact G'.keep r hr (fun x => hi (by rw [h0] at x; exact x))
  ·intro r hr hi
   have := G'.img r hr hi
   rw [h0] at this; exact this
  ·intro q pl h1 h2 h3
   have := G'.new q pl h1 h2 h3
   rw [h0] at this; exact this
 ·refine Nat.le_trans List.countP_le_length ?_
  simp
 ·have hno : ∀ i,¬ Dn (Array.replicate ops.size false) i := fun i h => by
   unfold Dn at h
   rw [Array.getD_eq_getD_getElem?,Array.getElem?_replicate] at h
   split at h <;> simp at h
  refine { size := by simp,closed := fun i o _ h => absurd h (hno i),fsize := F.size,defers := F.defers,rep := ?_,kle := Nat.zero_le _,before := fun e b h => absurd h (Nat.not_lt_zero _),pend := fun e b _ _ _ h => absurd h (hno _),cont := fun e b x j nm p _ _ _ _ _ h => absurd h (hno _),clean := fun e b x j h => absurd h (Nat.not_lt_zero _),free := fun e b x j nm _ _ _ h _ => U.none j nm h,slots := ?_,g := ?_ }
  ·rw [h0]
   exact (R.nx (by rw [hnx]; omega)).drew
  ·intro s t j v hs hj hw hv
   have hA : T.get s (A j) = T.get s (A 0) := T1.slot j (Nat.zero_le _) hj (fun q b _ hq hb hd => hno _ ((hw q b hb hd).2 hq))
   rw [hA,e1] at hv
   exact F.at_ s v t hv hs
  ·exact G.drew _ _ _ _
theorem rgd_sound (hpt : M.pt = E.pt) (hmt : MtOk P M.mt) (hm : P.follows .mixedOrders = true) (n : Nat) : RgdSound P E M n (okD E n) := by
 intro call hc id k l ops hok ds ι A0 A' a σ0 σ' w Q hr F L0 R hQ
 exact wp_region_any hm (rgd_any hpt hmt n call hc id k l ops hok hr F L0 R hQ)
end
end Go.Proofs.YtldidldbhngmnaaGreatDoor
namespace Go.Proofs.YtldidldbhngmnaaGreatDoor
open Go
section
variable {α : Type}
noncomputable def getQ (p : Pos) : T α → Option α := Pos.rec (motive := fun _ => T α → Option α)
 (T.rec (motive := fun _ => Option α) none (fun _ v _ _ _ => v))
 (fun _ ih => T.rec (motive := fun _ => Option α) none (fun l _ _ _ _ => ih l))
 (fun _ ih => T.rec (motive := fun _ => Option α) none (fun _ _ r _ _ => ih r)) p
noncomputable def strQ (l : T α) (k : T α → T α) : T α := T.rec (motive := fun _ => T α) (k .nil) (fun a b c _ _ => k (.node a b c)) l
noncomputable def setQ (x : α) (p : Pos) : T α → T α := Pos.rec (motive := fun _ => T α → T α)
 (T.rec (motive := fun _ => T α) (.node .nil (some x) .nil) (fun l _ r _ _ => .node l (some x) r))
 (fun _ ih => T.rec (motive := fun _ => T α) (strQ (ih .nil) fun l => .node l none .nil) (fun l v r _ _ => strQ (ih l) fun l => .node l v r))
 (fun _ ih => T.rec (motive := fun _ => T α) (strQ (ih .nil) fun r => .node .nil none r) (fun l v r _ _ => strQ (ih r) fun r => .node l v r)) p
theorem strQ_eq (l : T α) (k : T α → T α) : strQ l k = k l := by cases l <;> rfl
theorem getQ_eq : ∀ (p : Pos) (t : T α),getQ p t = T.get p t := by
 intro p
 induction p with
 | H => intro t; cases t <;> rfl
 | O p ih => intro t; cases t with | nil => rfl | node l v r => exact ih l
 | I p ih => intro t; cases t with | nil => rfl | node l v r => exact ih r
theorem setQ_eq (x : α) : ∀ (p : Pos) (t : T α),setQ x p t = T.set x p t := by
 intro p
 induction p with
 | H => intro t; cases t <;> rfl
 | O p ih =>
  intro t
  cases t with
  | nil =>
   have e : setQ x p.O .nil = .node (setQ x p .nil) none .nil := strQ_eq (setQ x p .nil) (fun l => .node l none .nil)
   have e2 : T.set x p.O .nil = .node (T.set x p .nil) none .nil := T.str_eq (T.set x p .nil) (fun l => .node l none .nil)
   rw [e,e2,ih]
  | node l v r =>
   have e : setQ x p.O (.node l v r) = .node (setQ x p l) v r := strQ_eq (setQ x p l) (fun l => .node l v r)
   have e2 : T.set x p.O (.node l v r) = .node (T.set x p l) v r := T.str_eq (T.set x p l) (fun l => .node l v r)
   rw [e,e2,ih]
 | I p ih =>
  intro t
  cases t with
  | nil =>
   have e : setQ x p.I .nil = .node .nil none (setQ x p .nil) := strQ_eq _ _
   have e2 : T.set x p.I .nil = .node .nil none (T.set x p .nil) := T.str_eq _ _
   rw [e,e2,ih]
  | node l v r =>
   have e : setQ x p.I (.node l v r) = .node l v (setQ x p r) := strQ_eq _ _
   have e2 : T.set x p.I (.node l v r) = .node l v (T.set x p r) := T.str_eq _ _
   rw [e,e2,ih]
end
noncomputable def evS (A : T V) (p : Pos) : V := Option.rec (motive := fun _ => V) .u (fun v => v) (getQ p A)
noncomputable def evQ (A : T V) (a : Arg) : V := Arg.rec (motive := fun _ => V) (evS A) (fun x => x) (fun p => .ptr p 0) (fun n => .fn n [] []) a
theorem evQ_eq (A : T V) (a : Arg) : evQ A a = ev A a := by
 cases a with
 | s p =>
  show evS A p = match T.get p A with | some v => v | none => .u
  unfold evS
  rw [getQ_eq]
  cases T.get p A <;> rfl
 | v x => rfl
 | g p => rfl
 | f n => rfl
noncomputable def onPtr {R : Type} (f : Pos → Nat → R) (d : R) (v : V) : R := V.rec (motive_1 := fun _ => R) (motive_2 := fun _ => PUnit) d (fun _ => d) (fun _ _ => d) (fun _ => d) d f d (fun _ _ _ _ _ => d) d (fun _ => d) d (fun _ _ _ _ _ => d) d (fun _ _ _ => d) (fun _ _ => d) (fun _ _ => d) (fun _ => d) ⟨⟩ (fun _ _ _ _ => ⟨⟩) v
noncomputable def onB {R : Type} (t f : R) (b : Bool) : R := Bool.rec (motive := fun _ => R) f t b
noncomputable def onO {α R : Type} (n : R) (f : α → R) (x : Option α) : R := Option.rec (motive := fun _ => R) n f x
noncomputable def onCells {R : Type} (f : List V → List Pos → Bool → Bool → R) (d : R) (x : Option Ob) : R := Option.rec (motive := fun _ => R) d (Ob.rec (motive := fun _ => R) f (fun _ _ _ => d) (fun _ _ _ _ => d) (fun _ _ => d) d) x
theorem onCells_eq {R : Type} (f : List V → List Pos → Bool → Bool → R) (d : R) (x : Option Ob) : onCells f d x = match x with | some (.cells l kin fz ro) => f l kin fz ro | _ => d := by
 cases x with
 | none => rfl
 | some o => cases o <;> rfl
noncomputable def uMod (M : Nat) (n : Int) : Int := Int.rec (motive := fun _ => Int) (fun m => .ofNat (Nat.mod m M)) (fun m => .ofNat (Nat.sub (Nat.sub M 1) (Nat.mod m M))) n
noncomputable def wrapQ (k : IntKind) : Int → Int := IntKind.rec (motive := fun _ => Int → Int) (ws 256 128) (ws 65536 32768) (ws 4294967296 2147483648) (ws 18446744073709551616 9223372036854775808) (uMod 256) (uMod 65536) (uMod 4294967296) (uMod 18446744073709551616) k
theorem wrapQ_eq (k : IntKind) (n : Int) : wrapQ k n = wrapK k n := by cases k <;> cases n <;> rfl
noncomputable def iaddQ (x y : Int) : Int := Int.rec (motive := fun _ => Int) (fun a => Int.rec (motive := fun _ => Int) (fun b => .ofNat (Nat.add a b)) (fun b => Int.add (.ofNat a) (.negSucc b)) y) (fun a => Int.add (.negSucc a) y) x
theorem iaddQ_eq (x y : Int) : iaddQ x y = Int.add x y := by cases x <;> cases y <;> rfl
noncomputable def toUQ (M : Nat) (n : Int) : Nat := Int.rec (motive := fun _ => Nat) (fun m => Nat.mod m M) (fun m => Nat.sub (Nat.sub M 1) (Nat.mod m M)) n
theorem toUQ_eq (M : Nat) (n : Int) : toUQ M n = toU M n := by cases n <;> rfl
noncomputable def modQ (k : IntKind) : Nat := IntKind.rec (motive := fun _ => Nat) 256 65536 4294967296 18446744073709551616 256 65536 4294967296 18446744073709551616 k
theorem modQ_eq (k : IntKind) : modQ k = modK k := by cases k <;> rfl
noncomputable def iltQ (x y : Int) : Bool := Int.rec (motive := fun _ => Bool) (fun a => Int.rec (motive := fun _ => Bool) (fun b => Nat.blt a b) (fun _ => false) y) (fun a => Int.rec (motive := fun _ => Bool) (fun _ => true) (fun b => Nat.blt b a) y) x
theorem iltQ_eq (x y : Int) : iltQ x y = ilt x y := by cases x <;> cases y <;> rfl
noncomputable def ieqQ (x y : Int) : Bool := Int.rec (motive := fun _ => Bool) (fun a => Int.rec (motive := fun _ => Bool) (fun b => Nat.beq a b) (fun _ => false) y) (fun a => Int.rec (motive := fun _ => Bool) (fun _ => false) (fun b => Nat.beq a b) y) x
theorem ieqQ_eq (x y : Int) : ieqQ x y = ieq x y := by cases x <;> cases y <;> rfl
noncomputable def bAdd (k : IntKind) (x y : Int) : Option V := some (.int k (wrapQ k (iaddQ x y)))
noncomputable def bSub (k : IntKind) (x y : Int) : Option V := some (.int k (wrapQ k (Int.sub x y)))
noncomputable def bMul (k : IntKind) (x y : Int) : Option V := some (.int k (wrapQ k (Int.mul x y)))
noncomputable def bQuo (k : IntKind) (x y : Int) : Option V := onB none (some (.int k (wrapQ k (Int.tdiv x y)))) (ieqQ y (.ofNat 0))
noncomputable def bRem (k : IntKind) (x y : Int) : Option V := onB none (some (.int k (wrapQ k (Int.tmod x y)))) (ieqQ y (.ofNat 0))
noncomputable def bAnd (k : IntKind) (x y : Int) : Option V := some (.int k (wrapQ k (.ofNat (Nat.land (toUQ (modQ k) x) (toUQ (modQ k) y)))))
noncomputable def bOr (k : IntKind) (x y : Int) : Option V := some (.int k (wrapQ k (.ofNat (Nat.lor (toUQ (modQ k) x) (toUQ (modQ k) y)))))
noncomputable def bXor (k : IntKind) (x y : Int) : Option V := some (.int k (wrapQ k (.ofNat (Nat.xor (toUQ (modQ k) x) (toUQ (modQ k) y)))))
noncomputable def bAnn (k : IntKind) (x y : Int) : Option V := some (.int k (wrapQ k (.ofNat (Nat.land (toUQ (modQ k) x) (Nat.sub (Nat.sub (modQ k) 1) (toUQ (modQ k) y))))))
noncomputable def bNo (k : IntKind) (x y : Int) : Option V := none
noncomputable def bEq (k : IntKind) (x y : Int) : Option V := some (.bool (ieqQ x y))
noncomputable def bNe (k : IntKind) (x y : Int) : Option V := some (.bool (!(ieqQ x y)))
noncomputable def bLt (k : IntKind) (x y : Int) : Option V := some (.bool (iltQ x y))
noncomputable def bLe (k : IntKind) (x y : Int) : Option V := some (.bool (!(iltQ y x)))
noncomputable def bGt (k : IntKind) (x y : Int) : Option V := some (.bool (iltQ y x))
noncomputable def bGe (k : IntKind) (x y : Int) : Option V := some (.bool (!(iltQ x y)))
noncomputable def ibinQ (op : BinOp) : IntKind → Int → Int → Option V := BinOp.rec (motive := fun _ => IntKind → Int → Int → Option V) bAdd bSub bMul bQuo bRem bAnd bOr bXor bNo bNo bAnn bEq bNe bLt bLe bGt bGe op
theorem ibinQ_eq (op : BinOp) (k : IntKind) (x y : Int) : ibinQ op k x y = ibin op k x y := by
 cases op <;> simp only [ibinQ,ibin,bAdd,bSub,bMul,bQuo,bRem,bAnd,bOr,bXor,bNo,bAnn,bEq,bNe,bLt,bLe,bGt,bGe,wrapQ_eq,iaddQ_eq,toUQ_eq,modQ_eq,iltQ_eq,ieqQ_eq,onB]
 all_goals cases ieq y (.ofNat 0) <;> rfl
theorem onB_eq {R : Type} (t f : R) (b : Bool) : onB t f b = match b with | true => t | false => f := by cases b <;> rfl
abbrev RT := Option (V × St)
abbrev CF := Pos → List V → St → RT
noncomputable def stQ (a x : Arg) (n : Nat) (nm : Option Pos) (A : T V) (σ : St) : RT := onPtr (fun p o => onO none (fun vs => onB (onCells (fun l kin fz ro => onB (some (.u,⟨setQ (.cells (lput l o vs) [] false false) p (kill kin σ.h),σ.nx⟩)) none (!fz && !ro && Nat.ble (Nat.add o n) (llen l))) none (getQ p σ.h)) none (lall plainV vs && Nat.beq (llen vs) n)) (flat (evQ A x))) none (evQ A a)
theorem stQ_eq (a x : Arg) (n : Nat) (nm : Option Pos) (A : T V) (σ : St) : stQ a x n nm A σ = eevF_st a x n nm A σ := by
 simp only [stQ,evQ_eq,getQ_eq,setQ_eq,eevF_st]
 generalize ev A a = y
 cases y <;> try rfl
 rename_i p o
 show onO none _ (flat (ev A x)) = _
 cases flat (ev A x) with
 | none => rfl
 | some vs =>
  show onB _ none (lall plainV vs && Nat.beq (llen vs) n) = _
  simp only
  cases (lall plainV vs && Nat.beq (llen vs) n) with
  | false => rfl
  | true =>
   show onCells _ none (T.get p σ.h) = _
   rw [onCells_eq]
   simp only
   cases T.get p σ.h with
   | none => rfl
   | some ob =>
    cases ob <;> try rfl
    rename_i l kin fz ro
    simp only
    rw [onB_eq]
    all_goals rfl
abbrev RS := Option (T V × St)
abbrev RE := Option (XE × T V × St)
end Go.Proofs.YtldidldbhngmnaaGreatDoor
namespace Go.Proofs.YtldidldbhngmnaaGreatDoor
open Go
section
variable {P : Program}
noncomputable def fnOk (E : Env P) (f : Nat) (e : FnE) : Bool := match P.funcs[f]? with
 | none => false
 | some fn => (match fn.body with
  | none => false
  | some c => (match fn.name == "runtime.NumGoroutine" with
   | true => false
   | false => (match e with
    | .code n b res => Nat.beq fn.ntmps n && okC E n (okD E n) b c && okRVs E res fn.results.toList
    | .spec _ => true)))
noncomputable def ndOk (E : Env P) (k : Nat) (v : Option FnE) : Bool := match v with | none => true | some e => fnOk E k e
noncomputable def tabOk (E : Env P) (t : T FnE) : (Pos → Pos) → Bool := T.rec (motive := fun _ => (Pos → Pos) → Bool) (fun _ => true)
 (fun _ v _ ihl ihr k => ndOk E ((k .H).nat - 1) v && ihl (fun p => k (.O p)) && ihr (fun p => k (.I p))) t
theorem tabOk_spec (E : Env P) : ∀ (t : T FnE) (k : Pos → Pos),tabOk E t k = true → ∀ p e,T.get p t = some e → fnOk E ((k p).nat - 1) e = true := by
 intro t
 induction t with
 | nil => intro k _ p e h; rw [T.get_nil] at h; cases h
 | node l v r ihl ihr =>
  intro k h p e hp
  have h : (ndOk E ((k .H).nat - 1) v && tabOk E l (fun p => k (.O p)) && tabOk E r (fun p => k (.I p))) = true := h
  simp only [Bool.and_eq_true] at h
  obtain ⟨⟨h1,h2⟩,h3⟩ := h
  cases p with
  | H =>
   have hp : v = some e := hp
   subst hp
   exact h1
  | O p => exact ihl _ h2 p e hp
  | I p => exact ihr _ h3 p e hp
theorem fnOk_is {E : Env P} {f : Nat} {e : FnE} (h : fnOk E f e = true) : ∃ fn c,P.funcs[f]? = some fn ∧ fn.body = some c ∧ (fn.name == "runtime.NumGoroutine") = false ∧
  ∀ n b res,e = .code n b res → fn.ntmps = n ∧ okC E n (okD E n) b c = true ∧ okRVs E res fn.results.toList = true := by
 unfold fnOk at h
 split at h
 ·cases h
 ·rename_i fn hf
  split at h
  ·cases h
  ·rename_i c hc
   split at h
   ·cases h
   ·rename_i hn
    refine ⟨fn,c,hf,hc,hn,?_⟩
    rintro n b res rfl
    simp only [Bool.and_eq_true] at h
    exact ⟨nbeq h.1.1,h.1.2,h.2⟩
theorem mok_of {E : Env P} {M : Mach} (hpt : M.pt = E.pt) (hmt : MtOk P M.mt) (hm : P.follows .mixedOrders = true) (ht : tabOk E M.tab id = true)
  (hs : ∀ f s,T.get f M.tab = some (.spec s) → ∀ vs σ v σ',M.spec s vs σ = some (v,σ') → ∀ (ι : Nm) (w : World) (args : Array Value),Gl E.ng ι → Rep ι σ w → VRs ι vs args.toList → Calls P (f.nat - 1) args w (Post ι σ w v σ')) :
  MOk P E M (okD E) where
 pt := hpt
 mt := hmt
 rgd n := rgd_sound hpt hmt hm n
 code f n b res hf := by
  obtain ⟨fn,c,h1,h2,h3,h4⟩ := fnOk_is (tabOk_spec E _ _ ht f _ hf)
  obtain ⟨h5,h6,h7⟩ := h4 n b res rfl
  exact ⟨fn,c,h1,h2,h5,h3,h6,h7⟩
 spec f s hf := by
  obtain ⟨fn,c,h1,h2,h3,h4⟩ := fnOk_is (tabOk_spec E _ _ ht f _ hf)
  exact ⟨⟨fn,h1,by rw [h2]; rfl,h3⟩,hs f s hf⟩
theorem Rep.stays {ι : Nm} {σ : St} {w w' : World} (R : Rep ι σ w) (h : ∀ r,r < w.heap.size → w'.heap[r]? = w.heap[r]?) : Rep ι σ w' where
 ob p o hp := (R.ob p o hp).keep (.refl ι) (fun pl hpl _ => h _ (R.pl p pl hpl).lt)
 pl p pl hp := (R.pl p pl hp).heap (fun r hr o k => by rw [h r hr]; exact k)
 dom := R.dom
 hdom := R.hdom
 sep2 := R.sep2
 kin := R.kin
 kpres := R.kpres
 fin := R.fin
def Bare (v : V) : Prop := ∀ ι ι' v',VR ι v v' → VR ι' v v'
theorem bare_int (k : IntKind) (n : Int) : Bare (.int k n) := fun ι ι' v' h => by cases h; exact .int _ _ (by assumption)
theorem bare_bool (b : Bool) : Bare (.bool b) := fun ι ι' v' h => by cases h; exact .bool _
theorem bare_agg {l : List V} (h : ∀ x ∈ l,Bare x) : Bare (.agg l) := fun ι ι' v' hv => by
 obtain ⟨c,rfl,h1,h2⟩ := hv.of_agg
 exact .mk_agg ⟨h1,fun i a b ha hb => h a (List.mem_of_getElem? ha) ι ι' b (h2 i a b ha hb)⟩
theorem call_bytes {ng : GS} {call : Pos → List V → St → Option (V × St)} (hc : CallOK P ng call) {f : Pos} {l : List V} {out : V} {q : Pos} {n : Nat} {σ2 : St} (hq : ∀ g ∈ ng,g + 1 < q.nat) (h0 : 0 < n) (hn : l.length = n) (hl : ∀ x ∈ l,Bare x)
  (hrun : call f [.slice q 0 n none 1] ⟨T.set (Ob.cells l [] false true) q .nil,q.succ⟩ = some (out,σ2)) (hout : Bare out)
  {ι : Nm} {w : World} {args : Array Value} {σ : St} {p : Pos} {o : Nat} {cap : Option Nat} {L : List V} {kin : List Pos} {fz ro : Bool} (hG : Gl ng ι) (R : Rep ι σ w) (hp : T.get p σ.h = some (.cells L kin fz ro)) (hL : (L.drop o).take n = l)
  (hv : VRs ι [.slice p o n cap 1] args.toList) : Calls P (f.nat - 1) args w (Post ι σ w out σ) := by
 obtain ⟨pl,a,c,s1,s2,s3,s4,s5,s6,s7⟩ := (hv.2 0 (.slice p o n cap 1) (args.toList[0]'(by have := hv.1; simp at this; simp; omega)) rfl (by simp)).slice_inv
 obtain ⟨pl',cc,e,j1,j2,j3,j4,j5,j6⟩ := R.ob p _ hp
 rw [s1] at j1; cases j1
 have hon : o + n ≤ L.length := by
  have : ((L.drop o).take n).length = n := by rw [hL,hn]
  simp at this
  omega
 let ι2 : Nm := fun x => if x = q then some ⟨pl.blk,pl.st + o,pl.sz,0⟩ else if x.nat < q.nat then ι x else none
 have hι2q : ι2 q = some ⟨pl.blk,pl.st + o,pl.sz,0⟩ := by simp [ι2]
 have hι2 : ∀ x y,ι2 x = some y → x = q ∧ y = ⟨pl.blk,pl.st + o,pl.sz,0⟩ ∨ x ≠ q ∧ x.nat < q.nat ∧ ι x = some y := fun x y h => by
  simp only [ι2] at h
  split at h
  ·rename_i hx; cases h; exact .inl ⟨hx,rfl⟩
  ·rename_i hx
   split at h
   ·rename_i hle; exact .inr ⟨hx,hle,h⟩
   ·cases h
 have hget : ∀ x ob,T.get x (T.set (Ob.cells l [] false true) q .nil) = some ob → x = q ∧ ob = Ob.cells l [] false true := fun x ob h => by
  rw [T.get_set] at h
  split at h
  ·rename_i hx; cases h; exact ⟨hx,rfl⟩
  ·rw [T.get_nil] at h; cases h
 have R2 : Rep ι2 ⟨T.set (Ob.cells l [] false true) q .nil,q.succ⟩ w := by
  constructor
  ·intro x ob h
   obtain ⟨rfl,rfl⟩ := hget x ob h
   refine ⟨_,cc,e,hι2q,rfl,j3,j4,by show pl.st + o + l.length ≤ cc.size; omega,fun i y z hy hz => ?_⟩
   have hy' : L[o + i]? = some y := by
    rw [← hL,List.getElem?_take] at hy
    split at hy
    ·rw [List.getElem?_drop] at hy; exact hy
    ·cases hy
   exact hl y (List.mem_of_getElem? hy) ι _ z (j6 (o + i) y z hy' (by rw [← Nat.add_assoc]; exact hz))
  ·intro x y h
   rcases hι2 x y h with ⟨rfl,rfl⟩ | ⟨_,_,h⟩
   ·exact ⟨fun _ => ⟨cc,e,j3,j4⟩,(fun h => by cases h),(fun h => by cases h),(fun h => by cases h),Nat.zero_le _⟩
   ·exact R.pl x y h
  ·intro x y h
   show x.nat < q.succ.nat
   rw [Pos.succ_nat]
   rcases hι2 x y h with ⟨rfl,_⟩ | ⟨_,h,_⟩ <;> omega
  ·intro x ob h
   obtain ⟨rfl,_⟩ := hget x ob h
   show x.nat < x.succ.nat
   rw [Pos.succ_nat]; omega
  ·intro x ob y ob' a1 b1 h1 _ h2 _ _ _ _ hne
   obtain ⟨rfl,_⟩ := hget x ob h1
   obtain ⟨rfl,_⟩ := hget y ob' h2
   exact absurd rfl hne
  ·intro x ob y ob' h1 h2
   obtain ⟨rfl,rfl⟩ := hget x ob h1
   cases h2
  ·intro x ob y h1 h2
   obtain ⟨rfl,rfl⟩ := hget x ob h1
   cases h2
  ·intro x ob y ob' a1 b1 h1 h2
   obtain ⟨rfl,rfl⟩ := hget x ob h1
   cases h2
 have G2 : Gl ng ι2 := fun g x hg hx => by
  have hgq := hq g hg
  have hne : x ≠ q := fun h => by subst h; omega
  have : ι2 x = ι x := by simp only [ι2,if_neg hne]; rw [if_pos (by omega)]
  rw [this]; exact hG g x hg hx
 have hargs : VRs ι2 [.slice q 0 n none 1] args.toList := by
  have hlen := hv.1
  refine ⟨hlen,fun i x y hx hy => ?_⟩
  cases i with
  | zero =>
   simp at hx; subst hx
   have : y = args.toList[0]'(by have := hv.1; simp at this; simp; omega) := by
    have h0 : args.toList[0]? = some (args.toList[0]'(by have := hv.1; simp at this; simp; omega)) := by simp
    rw [h0] at hy; cases hy; rfl
   rw [this,s7]
   exact .slice q 0 n none 1 ⟨pl.blk,pl.st + o,pl.sz,0⟩ a c hι2q rfl (fun _ h => by cases h) s4 (fun h => by rw [s5 h]; rfl) (by show pl.st + o + 0 + c * 1 ≤ pl.sz; omega)
  | succ i => simp at hx
 obtain ⟨hfn,h4⟩ := hc f _ _ _ _ hrun
 refine (h4 ι2 w args G2 R2 hargs).mono ?_
 rintro e' w' ⟨ι',v',rfl,q1,q2,q3⟩
 have hkeep : ∀ r,r < w.heap.size → w'.heap[r]? = w.heap[r]? := fun r hr => q3.keep r hr (by
  rintro ⟨x,ob,y,i1,i2,i3,i4⟩
  obtain ⟨rfl,rfl⟩ := hget x ob i1
  cases i2)
 refine ⟨ι,v',rfl,hout _ _ _ q1,R.stays hkeep,⟨.refl ι,fun _ _ => rfl,Nat.le_refl _,q3.size,q3.os,q3.tape,q3.out,fun r hr _ => hkeep r hr,fun _ _ h => h,fun x y h1 h2 => by rw [h2] at h1; cases h1⟩⟩
theorem call_forget {ng : GS} {call : Pos → List V → St → Option (V × St)} (hc : CallOK P ng call) {f : Pos} {vs : List V} {out : V} {s2 σ2 : St} (hng : ∀ g ∈ ng,g + 1 < s2.nx.nat)
  (hwr : ∀ p o,T.get p s2.h = some o → o.wr = false ∧ o.kin = [] ∧ p.nat < s2.nx.nat) (hrun : call f vs s2 = some (out,σ2)) (hout : Bare out)
  {ι : Nm} {w : World} {args : Array Value} {σ : St} (hG : Gl ng ι) (R : Rep ι σ w) (hsub : ∀ p o,T.get p s2.h = some o → T.get p σ.h = some o ∧ ObR (fun x => if x.nat < s2.nx.nat then ι x else none) w p o)
  (hv : VRs (fun x => if x.nat < s2.nx.nat then ι x else none) vs args.toList) : Calls P (f.nat - 1) args w (Post ι σ w out σ) := by
 have hι2 : ∀ x y,(if x.nat < s2.nx.nat then ι x else none) = some y → x.nat < s2.nx.nat ∧ ι x = some y := fun x y h => by
  split at h
  ·rename_i hx; exact ⟨hx,h⟩
  ·cases h
 have R2 : Rep (fun x => if x.nat < s2.nx.nat then ι x else none) s2 w := by
  constructor
  ·intro p o h; exact (hsub p o h).2
  ·intro x y h; exact R.pl x y (hι2 x y h).2
  ·intro x y h; exact (hι2 x y h).1
  ·intro x o h; exact (hwr x o h).2.2
  ·intro p o q o' a b h1 l1 h2 l2 h3 h4 h5 h6
   exact R.sep2 p o q o' a b (hsub p o h1).1 l1 (hsub q o' h2).1 l2 (hι2 p a h3).2 (hι2 q b h4).2 h5 h6
  ·intro p o q o' h1 h2 h3; exact (hwr q o' h3).1
  ·intro p o q h1 h2
   rw [(hwr p o h1).2.1] at h2; cases h2
  ·intro p o q o' a b h1 h2
   rw [(hwr p o h1).1] at h2; cases h2
 have G2 : Gl ng (fun x => if x.nat < s2.nx.nat then ι x else none) := fun g x hg hx => by
  have hgq := hng g hg
  have : x.nat < s2.nx.nat := by omega
  simp only [if_pos this]
  exact hG g x hg hx
 obtain ⟨hfn,h4⟩ := hc f _ _ _ _ hrun
 refine (h4 _ w args G2 R2 hv).mono ?_
 rintro e' w' ⟨ι',v',rfl,q1,q2,q3⟩
 have hkeep : ∀ r,r < w.heap.size → w'.heap[r]? = w.heap[r]? := fun r hr => q3.keep r hr (by
  rintro ⟨x,ob,y,i1,i2,i3,i4⟩
  rw [(hwr x ob i1).1] at i2; cases i2)
 exact ⟨ι,v',rfl,hout _ _ _ q1,R.stays hkeep,⟨.refl ι,fun _ _ => rfl,Nat.le_refl _,q3.size,q3.os,q3.tape,q3.out,fun r hr _ => hkeep r hr,fun _ _ h => h,fun x y h1 h2 => by rw [h2] at h1; cases h1⟩⟩
end
end Go.Proofs.YtldidldbhngmnaaGreatDoor
namespace Go.Proofs.YtldidldbhngmnaaGreatDoor
open Go
section
variable {P : Program}
noncomputable def shapeB (P : Program) : Nat → Nat → List IntKind → Bool
 | 0,_,_ => false
 | m + 1,t,sh => match P.underlying t with
  | some (.int q) => (match sh with | [q'] => beqK q' q | _ => false)
  | some (.array n e) => Nat.beq sh.length (P.cellsOf t) && (List.range n).all fun i => shapeB P m e ((sh.drop (i * P.cellsOf e)).take (P.cellsOf e))
  | some (.struct fs) => Nat.beq sh.length (P.cellsOf t) && fs.all (·.name != "_") && fs.toList.all fun f => shapeB P m f.type ((sh.drop f.offset).take (P.cellsOf f.type))
  | _ => false
def Sh (sh : List IntKind) (cs : List Value) : Prop := cs.length = sh.length ∧ ∀ (i : Nat) k x,sh[i]? = some k → cs[i]? = some x → ∃ n,x = .int k n ∧ k.has n
theorem Sh.part {sh : List IntKind} {cs : List Value} (h : Sh sh cs) (o c : Nat) : Sh ((sh.drop o).take c) ((cs.drop o).take c) := by
 refine ⟨by simp [h.1],fun i k x h1 h2 => ?_⟩
 rw [List.getElem?_take] at h1 h2
 split at h1
 ·rename_i hi
  rw [if_pos hi] at h2
  rw [List.getElem?_drop] at h1 h2
  exact h.2 _ k x h1 h2
 ·cases h1
theorem mapM_some2 {α β : Type} {f : α → Option β} : ∀ (l : List α),(∀ x ∈ l,∃ y,f x = some y) → ∃ ys,l.mapM f = some ys
 | [],_ => ⟨[],rfl⟩
 | x :: l,h => by
  obtain ⟨y,hy⟩ := h x (by simp)
  obtain ⟨ys,hys⟩ := mapM_some2 l (fun z hz => h z (by simp [hz]))
  exact ⟨y :: ys,by simp [List.mapM_cons,hy,hys]⟩
theorem lits_of_shape : ∀ (m t : Nat) (sh : List IntKind) (cs : List Value),shapeB P m t sh = true → Sh sh cs → ∃ L,P.keyLits m t cs = some L
 | 0,t,sh,cs,h,_ => by cases h
 | m + 1,t,sh,cs,h,hs => by
  unfold shapeB at h
  split at h
  ·rename_i q hu
   split at h
   ·rename_i q'
    have := beqK_eq h; subst this
    obtain ⟨x,rfl⟩ : ∃ x,cs = [x] := List.length_eq_one_iff.1 (by simpa using hs.1)
    obtain ⟨n,rfl,hn⟩ := hs.2 0 q' x rfl rfl
    refine ⟨[.int q' n],?_⟩
    unfold Program.keyLits
    simp only [hu]
    rw [if_pos]
    refine ⟨trivial,?_⟩
    unfold IntKind.has at hn
    simpa [Lit.wf] using hn
   ·cases h
  ·rename_i n e hu
   simp only [Bool.and_eq_true] at h
   obtain ⟨h1,h2⟩ := h
   have h1 := nbeq h1
   obtain ⟨ys,hys⟩ := mapM_some2 (f := fun i => P.keyLits m e ((cs.drop (i * P.cellsOf e)).take (P.cellsOf e))) (List.range n) (fun i hi =>
    lits_of_shape m e _ _ (List.all_eq_true.1 h2 i hi) (hs.part _ _))
   refine ⟨ys.flatten,?_⟩
   rw [Program.keyLits.eq_def]
   simp only [hu]
   rw [if_pos (by rw [hs.1]; exact h1),hys]
   rfl
  ·rename_i fs hu
   simp only [Bool.and_eq_true] at h
   obtain ⟨⟨h1,h3⟩,h2⟩ := h
   have h1 := nbeq h1
   obtain ⟨ys,hys⟩ := mapM_some2 (f := fun f : Field => P.keyLits m f.type ((cs.drop f.offset).take (P.cellsOf f.type))) fs.toList (fun f hf =>
    lits_of_shape m f.type _ _ (List.all_eq_true.1 h2 f hf) (hs.part _ _))
   refine ⟨ys.flatten,?_⟩
   rw [Program.keyLits.eq_def]
   simp only [hu]
   rw [if_pos ⟨by rw [hs.1]; exact h1,h3⟩,hys]
   rfl
  ·cases h
noncomputable def keyB (P : Program) (t : Nat) (sh : List IntKind) : Bool := shapeB P (P.types.size + 1) t sh && P.keyTypeAt 8 t && P.keyType t && P.tiled 8 t && Nat.beq sh.length (P.cellsOf t) && !(P.eqGuardType P.depth t) &&
 (match P.underlying t with | some (.array _ _) => true | some (.struct _) => true | _ => false)
theorem Shaped.sh {sh : List IntKind} {v : Value} (h : Shaped (.cells sh) v) : ∃ c : Array Value,v = .agg c ∧ Sh sh c.toList := by
 obtain ⟨c,rfl,h1,h2⟩ := h
 exact ⟨c,rfl,by simpa using h1,fun i k x a b => h2 i k x a (by simpa using b)⟩
theorem key_of {t : Nat} {sh : List IntKind} (h : keyB P t sh = true) : KTok P t sh ∧ MapK P t (.cells sh) := by
 simp only [keyB,Bool.and_eq_true,Bool.not_eq_true'] at h
 obtain ⟨⟨⟨⟨⟨⟨h1,h2⟩,h3⟩,h4⟩,h5⟩,h6⟩,h7⟩ := h
 have h5 := nbeq h5
 have hwide : (match P.underlying t with | some (.array _ _) | some (.struct _) => true | _ => false) = true := by
  split at h7 <;> first | (rename_i hu; simp only [hu]; done) | cases h7
 have lits : ∀ v,Shaped (.cells sh) v → v.formed P t = true ∧ ∃ L,P.keyLits (P.types.size + 1) t v.cells.toList = some L := fun v hv => by
  obtain ⟨c,rfl,hs⟩ := hv.sh
  refine ⟨?_,lits_of_shape _ _ _ _ h1 hs⟩
  have hsz : c.size = P.cellsOf t := by have := hs.1; simp at this; omega
  unfold Value.formed
  split at h7
  ·rename_i hu; simp [hu,hsz]
  ·rename_i hu; simp [hu,hsz]
  ·cases h7
 have kof : ∀ v,Shaped (.cells sh) v → ∃ l,keyOf P t v = some l := fun v hv => by
  obtain ⟨hf,L,hL⟩ := lits v hv
  refine ⟨.string (keyBytes L),?_⟩
  unfold keyOf
  split at h7
  ·rename_i hu; simp [hu,h3,hf,hL]
  ·rename_i hu; simp [hu,h3,hf,hL]
  ·cases h7
 have law : WideMaps.KeyLaw P t := deep_law (m := 8) (by decide) h2 h4 hwide
 refine ⟨⟨h6,fun w a b ha hb => ?_⟩,⟨fun w em v hv => ?_,fun w x es hx hes => ?_,fun w v hv => ?_⟩⟩
 ·obtain ⟨fa,la,hla⟩ := lits a ha
  obtain ⟨fb,lb,hlb⟩ := lits b hb
  obtain ⟨r,r1,r2⟩ := run_equalIn_deep 9992 8 t h2 w _ _ a b la lb fa fb hla hlb
  refine ⟨r,r1,r2.trans ?_⟩
  obtain ⟨ca,rfl,_⟩ := ha.sh
  obtain ⟨cb,rfl,_⟩ := hb.sh
  have c1 := cells_of_lits 8 t h4 _ _ _ hla
  have c2 := cells_of_lits 8 t h4 _ _ _ hlb
  simp only [Value.cells] at c1 c2
  constructor
  ·rintro rfl
   congr 1
   apply Array.ext'
   rw [c1,c2]
  ·intro e
   cases e
   rw [hla] at hlb
   exact Option.some.inj hlb
 ·obtain ⟨l,hl⟩ := kof v hv
  exact law.check w em hl
 ·obtain ⟨l,hl⟩ := kof x hx
  exact law.find w hl es (fun e he => kof _ (hes e he))
 ·obtain ⟨l,hl⟩ := kof v hv
  exact law.stays w hl
end
end Go.Proofs.YtldidldbhngmnaaGreatDoor
namespace Go.Proofs.YtldidldbhngmnaaGreatDoor
open Go Go.RowKit Go.ChangeShapes
structure KC where
 nm : Pos
 blk : Nat
 off : Nat
 v : V
noncomputable def hOf : List KC → T Ob | [] => .nil | x :: l => T.set (.cells [x.v] [] false true) x.nm (hOf l)
def szAt (w : World) (b : Nat) : Nat := match w.heap[b]? with | some (.cells c _ _) => c.size | _ => 0
def nmOf (w : World) : List KC → Nm | [],_ => none | x :: l,p => if p = x.nm then some ⟨x.blk,x.off,szAt w x.blk,0⟩ else nmOf w l p
theorem hOf_get (w : World) : ∀ (K : List KC) (p : Pos) (o : Ob),T.get p (hOf K) = some o → ∃ x ∈ K,x.nm = p ∧ o = .cells [x.v] [] false true ∧ nmOf w K p = some ⟨x.blk,x.off,szAt w x.blk,0⟩
 | [],p,o,h => by simp [hOf,T.get_nil] at h
 | x :: l,p,o,h => by
  simp only [hOf,T.get_set] at h
  split at h
  ·rename_i e
   cases h
   exact ⟨x,by simp,e.symm,rfl,by simp [nmOf,e]⟩
  ·rename_i e
   obtain ⟨y,h1,h2,h3,h4⟩ := hOf_get w l p o h
   exact ⟨y,List.mem_cons_of_mem _ h1,h2,h3,by simp only [nmOf,if_neg e]; exact h4⟩
theorem nmOf_get (w : World) : ∀ (K : List KC) (p : Pos) (pl : Pl),nmOf w K p = some pl → ∃ x ∈ K,x.nm = p ∧ pl = ⟨x.blk,x.off,szAt w x.blk,0⟩
 | [],p,pl,h => by cases h
 | x :: l,p,pl,h => by
  simp only [nmOf] at h
  split at h
  ·rename_i e
   cases h
   exact ⟨x,by simp,e.symm,rfl⟩
  ·obtain ⟨y,h1,h2,h3⟩ := nmOf_get w l p pl h
   exact ⟨y,List.mem_cons_of_mem _ h1,h2,h3⟩
theorem Rep.ofCells {w : World} {K : List KC} {nx : Pos} (hpl : ∀ x ∈ K,∃ c e,w.heap[x.blk]? = some (.cells c e) ∧ x.off < c.size ∧ ∀ y,c[x.off]? = some y → VR (nmOf w K) x.v y)
  (hne : ∀ x ∈ K,∀ y ∈ K,x.nm ≠ y.nm → x.blk ≠ y.blk ∨ x.off ≠ y.off) (hnx : ∀ x ∈ K,x.nm.nat < nx.nat) : Rep (nmOf w K) ⟨hOf K,nx⟩ w where
 ob p o h := by
  obtain ⟨x,h1,h2,rfl,h4⟩ := hOf_get w K p o h
  obtain ⟨c,e,k1,k2,k3⟩ := hpl x h1
  have hs : szAt w x.blk = c.size := by unfold szAt; rw [k1]
  refine ⟨_,c,e,h4,rfl,k1,by rw [hs],by show x.off + 1 ≤ c.size; omega,fun i a b ha hb => ?_⟩
  cases i with
  | zero => simp at ha; subst ha; exact k3 b (by simpa using hb)
  | succ i => simp at ha
 pl p pl h := by
  obtain ⟨x,h1,h2,rfl⟩ := nmOf_get w K p pl h
  obtain ⟨c,e,k1,k2,k3⟩ := hpl x h1
  have hs : szAt w x.blk = c.size := by unfold szAt; rw [k1]
  exact ⟨fun _ => ⟨c,e,k1,by rw [hs]⟩,(fun h => by cases h),(fun h => by cases h),(fun h => by cases h),Nat.zero_le _⟩
 dom p pl h := by
  obtain ⟨x,h1,rfl,_⟩ := nmOf_get w K p pl h
  exact hnx x h1
 hdom p o h := by
  obtain ⟨x,h1,rfl,_⟩ := hOf_get w K p o h
  exact hnx x h1
 sep2 p o q o' a b h1 _ h2 _ ha hb hab hqp := by
  obtain ⟨x,m1,m2,rfl,m4⟩ := hOf_get w K p o h1
  obtain ⟨y,n1,n2,rfl,n4⟩ := hOf_get w K q o' h2
  have ha : some a = some _ := ha.symm.trans m4
  have hb : some b = some _ := hb.symm.trans n4
  cases ha; cases hb
  refine .inr (.inr ⟨rfl,rfl,?_⟩)
  rcases hne x m1 y n1 (by rw [m2,n2]; exact fun e => hqp e.symm) with h | h
  ·exact absurd hab h
  ·show x.off + 1 ≤ y.off ∨ y.off + 1 ≤ x.off
   omega
 kin p o q o' h1 h2 := by
  obtain ⟨x,_,_,rfl,_⟩ := hOf_get w K p o h1
  cases h2
 kpres p o q h1 h2 := by
  obtain ⟨x,_,_,rfl,_⟩ := hOf_get w K p o h1
  cases h2
 fin p o q o' a b h1 h2 := by
  obtain ⟨x,_,_,rfl,_⟩ := hOf_get w K p o h1
  cases h2
def sentRow (nm : String) (x : String × List UInt8) : String × DataW Unit := (x.1,.iface nm (.ptr (.agg [.lit (.string x.2)])))
structure SentIs (P : Program) (W : World) (tp : Nat) (n : String) (a : Addr) : Prop where
 glob : ∀ g,P.globalNamed n = some g → ∃ e,W.heap[g]? = some (.cells #[.iface tp (.pointer (some a))] e)
 spot : a.spot = none
 heap : ∃ c e,W.heap[a.block]? = some (.cells c e) ∧ a.off < c.size
def sentPs : List Nat → List Addr → List MemPlace | g :: gs,a :: as_ => .cell g 0 :: .cell a.block a.off :: sentPs gs as_ | _,_ => []
theorem sents_of_laid {P : Program} {W : World} {nm : String} {ti tp te ts : TypeId} {ms : Array (String × TypeId)} {f : Field} (hi : P.underlying ti = some (.interface ms)) (hrow : ∀ u,P.typeName? 3 u = some nm → u = tp)
  (hp : P.underlying tp = some (.pointer te)) (he : P.underlying te = some (.struct #[f])) (hft : f.type = ts) (hfo : f.offset = 0) (hs : P.underlying ts = some .string) (hc : P.cellsOf te = 1) (hcs : P.cellsOf ts = 1) :
  ∀ (l : List (String × List UInt8)) (gs : List Nat) (ps : List MemPlace),l.map (fun x => P.globalNamed x.1) = gs.map some → (∀ g ∈ gs,(P.globals[g]?).map (·.type) = some ti) → DataW.LaidVars P W (l.map (sentRow nm)) ps →
   (∀ b off,MemPlace.cell b off ∈ ps → (∃ c t,W.heap[b]? = some (.cells c t (0,0))) ∧ ∀ u v,W.cell? ⟨b,off,none⟩ = some (.iface u v) → Value.okWide P W .any 0 u v) →
   ∃ as_ : List Addr,as_.length = gs.length ∧ ps = sentPs gs as_ ∧ ∀ (i : Nat) x a,l[i]? = some x → as_[i]? = some a → SentIs P W tp x.1 a
 | [],[],ps,_,_,h,_ => ⟨[],rfl,h,fun i x a h => by simp at h⟩
 | [],_ :: _,_,h,_,_,_ => by simp at h
 | _ :: _,[],_,h,_,_,_ => by simp at h
 | (n,text) :: l,g :: gs,ps,hg,ht,h,hrows => by
  simp only [List.map_cons,List.cons.injEq] at hg
  obtain ⟨g0,t0,cs0,f0,p0,q0,hg0,ht0,hv0,hd0,hr,e0⟩ := h
  have hgg : P.globalNamed n = some g := hg.1
  obtain rfl := Option.some.inj (hgg.symm.trans hg0)
  obtain rfl := Option.some.inj ((ht g (by simp)).symm.trans ht0)
  subst e0
  obtain ⟨l0⟩ := cs0
  have ok0 : ∀ u v,l0 = [.iface u v] → Value.okWide P W .any 0 u v := fun u v e => by
   subst e
   exact (hrows g 0 (by simp [MemPlace.row])).2 u v (by simpa using World.var?_cell hgg hv0 0)
  obtain ⟨a,s0,rfl,hc0,hs0,hz0,rfl⟩ := errorString_of_trod hi hrow hp he hft hfo hs hc hcs hd0 ok0
  obtain ⟨as_,k1,k2,k3⟩ := sents_of_laid hi hrow hp he hft hfo hs hc hcs l gs q0 hg.2 (fun g hg => ht g (by simp [hg])) hr (fun b off hm => hrows b off (List.mem_append_right _ hm))
  refine ⟨a :: as_,by simp [k1],by subst k2; simp [sentPs,MemPlace.row],fun i x b hx hb => ?_⟩
  cases i with
  | succ i => exact k3 i x b (by simpa using hx) (by simpa using hb)
  | zero =>
   simp at hx hb
   subst hx; subst hb
   unfold World.cell? at hc0
   split at hc0
   ·rename_i c e fr hb
    split at hc0
    ·cases hc0
    ·rename_i hsp
     have hlt : a.off < c.size := (Array.getElem?_eq_some_iff.1 hc0).1
     obtain ⟨c',t',hb'⟩ := (hrows a.block a.off (by simp [MemPlace.row])).1
     rw [hb] at hb'; cases hb'
     refine ⟨fun g' hg' => ?_,by simpa using hsp,⟨c,e,hb,hlt⟩⟩
     obtain rfl := Option.some.inj (hgg.symm.trans hg')
     obtain ⟨c2,t2,hb2⟩ := (hrows g 0 (by simp [MemPlace.row])).1
     unfold World.var? at hv0
     rw [hgg] at hv0
     simp only [Option.bind_some,hb2,Option.some.injEq] at hv0
     exact ⟨t2,by rw [hb2,hv0]⟩
   ·cases hc0
noncomputable def KOf (tp base : Nat) : Nat → List Nat → List Addr → List KC
 | i,g :: gs,a :: as_ => ⟨natPos g,g,0,.iface tp (.ptr (natPos (base + i)) 0)⟩ :: ⟨natPos (base + i),a.block,a.off,.u⟩ :: KOf tp base (i + 1) gs as_
 | _,_,_ => []
noncomputable def hG (tp base : Nat) : Nat → List Nat → T Ob
 | i,g :: gs => T.set (.cells [.iface tp (.ptr (natPos (base + i)) 0)] [] false true) (natPos g) (T.set (.cells [.u] [] false true) (natPos (base + i)) (hG tp base (i + 1) gs))
 | _,[] => .nil
theorem hOf_KOf (tp base : Nat) : ∀ (i : Nat) (gs : List Nat) (as_ : List Addr),as_.length = gs.length → hOf (KOf tp base i gs as_) = hG tp base i gs
 | i,[],[],_ => rfl
 | i,g :: gs,a :: as_,h => by simp only [KOf,hOf,hG]; rw [hOf_KOf tp base (i + 1) gs as_ (by simpa using h)]
 | i,[],_ :: _,h => by simp at h
 | i,_ :: _,[],h => by simp at h
theorem KOf_place (tp base : Nat) : ∀ (i : Nat) (gs : List Nat) (as_ : List Addr),(KOf tp base i gs as_).map (fun x => MemPlace.cell x.blk x.off) = sentPs gs as_
 | i,[],[] => rfl
 | i,[],_ :: _ => rfl
 | i,_ :: _,[] => rfl
 | i,g :: gs,a :: as_ => by simp only [KOf,sentPs,List.map_cons,KOf_place tp base (i + 1) gs as_]
theorem KOf_mem {tp base : Nat} : ∀ {i : Nat} {gs : List Nat} {as_ : List Addr} {x : KC},x ∈ KOf tp base i gs as_ → ∃ (j : Nat) (g : Nat) (a : Addr),gs[j]? = some g ∧ as_[j]? = some a ∧
  (x = ⟨natPos g,g,0,.iface tp (.ptr (natPos (base + (i + j))) 0)⟩ ∨ x = ⟨natPos (base + (i + j)),a.block,a.off,.u⟩)
 | i,[],[],x,h => by cases h
 | i,[],_ :: _,x,h => by cases h
 | i,_ :: _,[],x,h => by cases h
 | i,g :: gs,a :: as_,x,h => by
  simp only [KOf,List.mem_cons] at h
  rcases h with h | h | h
  ·exact ⟨0,g,a,rfl,rfl,.inl h⟩
  ·exact ⟨0,g,a,rfl,rfl,.inr h⟩
  ·obtain ⟨j,g',a',h1,h2,h3⟩ := KOf_mem h
   have e : i + 1 + j = i + (j + 1) := by omega
   rw [e] at h3
   exact ⟨j + 1,g',a',by simpa using h1,by simpa using h2,h3⟩
theorem KOf_sent {tp base : Nat} : ∀ {i : Nat} {gs : List Nat} {as_ : List Addr} {j : Nat} {g : Nat} {a : Addr},gs[j]? = some g → as_[j]? = some a →
  (⟨natPos (base + (i + j)),a.block,a.off,.u⟩ : KC) ∈ KOf tp base i gs as_ ∧ (⟨natPos g,g,0,.iface tp (.ptr (natPos (base + (i + j))) 0)⟩ : KC) ∈ KOf tp base i gs as_
 | i,[],_,j,g,a,h,_ => by simp at h
 | i,_ :: _,[],j,g,a,_,h => by simp at h
 | i,g :: gs,a :: as_,j,g',a',h1,h2 => by
  cases j with
  | zero => simp at h1 h2; subst h1; subst h2; simp [KOf]
  | succ j =>
   obtain ⟨k1,k2⟩ := KOf_sent (tp := tp) (base := base) (i := i + 1) (gs := gs) (as_ := as_) (j := j) (g := g') (a := a') (by simpa using h1) (by simpa using h2)
   have e : i + 1 + j = i + (j + 1) := by omega
   rw [e] at k1 k2
   exact ⟨by simp only [KOf,List.mem_cons]; exact .inr (.inr k1),by simp only [KOf,List.mem_cons]; exact .inr (.inr k2)⟩
theorem inj_of_nodup {α β : Type} {f : α → β} : ∀ {l : List α},(l.map f).Nodup → ∀ x ∈ l,∀ y ∈ l,f x = f y → x = y
 | [],_,x,hx,_,_,_ => by cases hx
 | z :: l,h,x,hx,y,hy,he => by
  simp only [List.map_cons,List.nodup_cons] at h
  rcases List.mem_cons.1 hx with rfl | hx
  ·rcases List.mem_cons.1 hy with rfl | hy
   ·rfl
   ·exact absurd (by rw [he]; exact List.mem_map.2 ⟨y,hy,rfl⟩) h.1
  ·rcases List.mem_cons.1 hy with hy | hy
   ·exact absurd (by rw [← hy,← he]; exact List.mem_map.2 ⟨x,by assumption,rfl⟩) h.1
   ·exact inj_of_nodup h.2 x (by assumption) y hy he
theorem natPos_inj {m n : Nat} (h : natPos m = natPos n) : m = n := by
 have := congrArg Pos.nat h
 rw [natPos_nat,natPos_nat] at this
 omega
theorem nmOf_mem {w : World} : ∀ {K : List KC},(∀ x ∈ K,∀ y ∈ K,x.nm = y.nm → x = y) → ∀ x ∈ K,nmOf w K x.nm = some ⟨x.blk,x.off,szAt w x.blk,0⟩ := by
 intro K hK x hx
 cases h : nmOf w K x.nm with
 | none =>
  exfalso
  clear hK
  induction K with
  | nil => cases hx
  | cons z l ih =>
   simp only [nmOf] at h
   split at h
   ·cases h
   ·rename_i e
    rcases List.mem_cons.1 hx with rfl | hx
    ·exact e rfl
    ·exact ih hx h
 | some pl =>
  obtain ⟨y,h1,h2,rfl⟩ := nmOf_get w K x.nm pl h
  rw [hK y h1 x hx h2]
theorem begin_of {P : Program} {W : World} {tp base : Nat} {l : List (String × List UInt8)} {gs : List Nat} {as_ : List Addr} {nx : Pos} (hlen : as_.length = gs.length) (hll : l.length = gs.length)
  (hg : l.map (fun x => P.globalNamed x.1) = gs.map some) (hb : ∀ g ∈ gs,g < base) (hnd : (sentPs gs as_).Nodup) (hsent : ∀ (i : Nat) x a,l[i]? = some x → as_[i]? = some a → SentIs P W tp x.1 a) (hnx : base + gs.length < nx.nat) :
  ∃ ι,Rep ι ⟨hG tp base 0 gs,nx⟩ W ∧ Gl gs ι := by
 have hplace : ∀ x ∈ KOf tp base 0 gs as_,∀ y ∈ KOf tp base 0 gs as_,MemPlace.cell x.blk x.off = MemPlace.cell y.blk y.off → x = y := inj_of_nodup (f := fun x : KC => MemPlace.cell x.blk x.off) (by rw [KOf_place]; exact hnd)
 have hname : ∀ x ∈ KOf tp base 0 gs as_,∀ y ∈ KOf tp base 0 gs as_,x.nm = y.nm → x = y := by
  intro x hx y hy he
  obtain ⟨j,g,a,h1,h2,h3⟩ := KOf_mem hx
  obtain ⟨k,g',a',k1,k2,k3⟩ := KOf_mem hy
  have hgb := hb g (List.mem_of_getElem? h1)
  have hgb' := hb g' (List.mem_of_getElem? k1)
  rcases h3 with rfl | rfl <;> rcases k3 with rfl | rfl
  ·have := natPos_inj he
   subst this
   exact hplace _ hx _ hy rfl
  ·have := natPos_inj he; omega
  ·have := natPos_inj he; omega
  ·have := natPos_inj he
   have : j = k := by omega
   subst this
   rw [h2] at k2; cases k2; rfl
 have hvar : ∀ (j : Nat) g a,gs[j]? = some g → as_[j]? = some a → (∃ e,W.heap[g]? = some (.cells #[.iface tp (.pointer (some a))] e)) ∧ a.spot = none ∧ ∃ c e,W.heap[a.block]? = some (.cells c e) ∧ a.off < c.size := by
  intro j g a h1 h2
  have hj : j < l.length := by rw [hll]; exact (List.getElem?_eq_some_iff.1 h1).1
  have hx : l[j]? = some l[j] := List.getElem?_eq_getElem hj
  obtain ⟨v1,v2,v3⟩ := hsent j _ a hx h2
  have hgn : P.globalNamed l[j].1 = some g := by
   have := congrArg (fun z => z[j]?) hg
   simp only [List.getElem?_map,hx,h1,Option.map_some] at this
   exact Option.some.inj this
  exact ⟨v1 g hgn,v2,v3⟩
 refine ⟨nmOf W (KOf tp base 0 gs as_),?_,?_⟩
 ·rw [← hOf_KOf tp base 0 gs as_ hlen]
  refine Rep.ofCells ?_ ?_ ?_
  ·intro x hx
   obtain ⟨j,g,a,h1,h2,h3⟩ := KOf_mem hx
   obtain ⟨⟨e,v1⟩,v2,c,e2,v3,v4⟩ := hvar j g a h1 h2
   rcases h3 with rfl | rfl
   ·refine ⟨_,e,v1,by simp,fun y hy => ?_⟩
    simp at hy
    subst hy
    have hm := nmOf_mem (w := W) hname _ (KOf_sent (tp := tp) (base := base) (i := 0) h1 h2).1
    have := VR.ptr (ι := nmOf W (KOf tp base 0 gs as_)) _ 0 _ hm rfl
    have ha : a = ⟨a.block,a.off + 0,none⟩ := by rw [← v2]; rfl
    rw [ha]
    exact .iface _ _ _ this
   ·exact ⟨c,e2,v3,v4,fun y _ => .u y⟩
  ·intro x hx y hy hne
   by_cases h : x.blk = y.blk
   ·right
    intro ho
    exact hne (congrArg KC.nm (hplace x hx y hy (by rw [h,ho])))
   ·exact .inl h
  ·intro x hx
   obtain ⟨j,g,a,h1,h2,h3⟩ := KOf_mem hx
   have hgb := hb g (List.mem_of_getElem? h1)
   have hj : j < gs.length := (List.getElem?_eq_some_iff.1 h1).1
   rcases h3 with rfl | rfl
   ·show (natPos g).nat < _; rw [natPos_nat]; omega
   ·show (natPos (base + (0 + j))).nat < _; rw [natPos_nat]; omega
 ·intro g p hgm hp
  obtain ⟨j,hj⟩ := List.getElem?_of_mem hgm
  have hja : j < as_.length := by rw [hlen]; exact (List.getElem?_eq_some_iff.1 hj).1
  have hm := nmOf_mem (w := W) hname _ (KOf_sent (tp := tp) (base := base) (i := 0) hj (List.getElem?_eq_getElem hja)).2
  have e : p = natPos g := Pos.nat_inj (by rw [natPos_nat]; exact hp)
  subst e
  exact ⟨_,hm,rfl,rfl,rfl⟩
end Go.Proofs.YtldidldbhngmnaaGreatDoor
