/-
  The operations that write or make memory: the model does the same; stores, appends, copies. (Of no program.)
-/
import Derived.Test.YtknhohgnilamcaaGreatDoorEngF
namespace Go.Proofs.YtknhohgnilamcaaGreatDoor
set_option linter.unusedVariables false
set_option linter.unusedSimpArgs false
set_option linter.unusedSectionVars false
open Go

section
variable {P : Program} {E : Env P}
theorem late_sound {e : EOp} (h : LSound E e) : ESound E e := by
  intro n ι A b σ σ' w o v F L R hok hv
  obtain ⟨l, c, ty, v', h1, h2, h3, h4⟩ := h (nm := none) F L R hok hv
  subst h1
  have hlen : l.length = c.size := by have := h3.1; simpa using this
  obtain ⟨k1, k2⟩ := R.newCells (l := l) (c := c) ty (by rw [hlen, List.take_of_length_le (by simp)]; exact h3) (by omega)
  exact ⟨_, _, Or.inl ⟨v', h2, h4 _ (nmSet_self _ _ _)⟩, k1, k2⟩

theorem lput_eq (l : List V) (o : Nat) (vs : List V) (h : o + vs.length ≤ l.length) : lput l o vs = l.take o ++ vs ++ l.drop (o + vs.length) := by
  cases vs with
  | nil => simp [lput]
  | cons v r =>
    cases r with
    | nil =>
      show lset v l o = _
      rw [lset_eq]
      simp at h
      rw [List.set_eq_take_append_cons_drop, if_pos (by omega)]
      simp
    | cons u1 r =>
      show lsplice l o _ = _
      simp only [lsplice, lapp_eq, ltake_eq, ldrop_eq, llen_eq, List.append_assoc]
      rfl
theorem lput_len (l : List V) (o : Nat) (vs : List V) (h : o + vs.length ≤ l.length) : (lput l o vs).length = l.length := by
  rw [lput_eq l o vs h]; simp; omega
theorem lput_get (l : List V) (o : Nat) (vs : List V) (h : o + vs.length ≤ l.length) (i : Nat) : (lput l o vs)[i]? = if o ≤ i ∧ i < o + vs.length then vs[i - o]? else l[i]? := by
  rw [lput_eq l o vs h]
  by_cases a : i < o
  · rw [if_neg (by omega), List.append_assoc, List.getElem?_append_left (by simp; omega), List.getElem?_take, if_pos a]
  · by_cases b : i < o + vs.length
    · rw [if_pos (by omega), List.append_assoc, List.getElem?_append_right (by simp; omega)]
      rw [List.getElem?_append_left (by simp; omega)]
      congr 1; simp; omega
    · rw [if_neg (by omega), List.getElem?_append_right (by simp; omega), List.getElem?_drop]
      congr 1; simp; omega

theorem plain_flat {ι : Nm} {vs : List V} {cs : List Value} (h : lall plainV vs = true) (hv : VRs ι vs cs) : (∀ v ∈ cs, (∀ x, v ≠ .agg x) ∧ ∀ x, v ≠ .tuple x) ∧ ∀ v ∈ cs, v.oneCell' = true := by
  rw [lall_eq, List.all_eq_true] at h
  have : ∀ v ∈ cs, ∃ x, plainV x = true ∧ VR ι x v := by
    intro v hm
    obtain ⟨i, hi⟩ := List.getElem?_of_mem hm
    have hlt : i < vs.length := by
      have := (List.getElem?_eq_some_iff.1 hi).1
      rw [hv.1]; exact this
    exact ⟨vs[i], h _ (List.getElem_mem hlt), hv.2 i _ _ (by simp) hi⟩
  constructor
  · intro v hm
    obtain ⟨x, hp, hr⟩ := this v hm
    cases hr <;> first | (simp [plainV] at hp; done) | exact ⟨(fun _ e => by cases e), (fun _ e => by cases e)⟩
  · intro v hm
    obtain ⟨x, hp, hr⟩ := this v hm
    cases hr <;> first | (simp [plainV] at hp; done) | rfl

theorem setCells_upd : ∀ (vs : List Value) (w : World) (b o : Nat) (c : Array Value) (e : TypeId), w.heap[b]? = some (.cells c e) → o + vs.length ≤ c.size → w.setCells b o vs = upd w b (fun c => splice c o vs.toArray)
  | [], w, b, o, c, e, h, hn => by
    have : upd w b (fun c => splice c o ([] : List Value).toArray) = upd w b id := upd_congr h (by simp at hn; simp [splice]; omega)
    rw [this, upd_id]
    rfl
  | v :: vs, w, b, o, c, e, h, hn => by
    have hw1 : (w.setCell ⟨b, o, none⟩ v).heap[b]? = some (.cells (c.setIfInBounds o v) e) := by
      rw [setCell_upd]; exact heap_upd_same h _
    show (w.setCell ⟨b, o, none⟩ v).setCells b (o + 1) vs = _
    rw [setCells_upd vs _ b (o + 1) _ e hw1 (by simp at hn ⊢; omega), setCell_upd, upd_comp]
    refine upd_congr h ?_
    have s1 : o + 1 + vs.toArray.size ≤ (c.setIfInBounds o v).size := by simp at hn ⊢; omega
    have s2 : o + (v :: vs).toArray.size ≤ c.size := by simp at hn ⊢; omega
    apply Array.ext_getElem?
    intro k
    rw [splice_get _ _ _ s1, splice_get _ _ _ s2]
    simp only [List.size_toArray, List.length_cons]
    simp only [List.length_cons] at hn
    by_cases a : k = o
    · subst a
      rw [if_neg (by omega), if_pos (by omega)]
      simp [show k < c.size by omega]
    · by_cases b1 : o + 1 ≤ k ∧ k < o + 1 + vs.length
      · rw [if_pos b1, if_pos (by omega)]
        have : k - o = (k - (o + 1)) + 1 := by omega
        rw [this]
        simp
      · rw [if_neg b1, if_neg (by omega), Array.getElem?_setIfInBounds_ne (by omega)]
/-- cells of a block that is known are written -/
theorem Rep.put {ι : Nm} {σ : St} {w : World} (R : Rep ι σ w) {p : Pos} {l : List V} {kin : List Pos} (hp : T.get p σ.h = some (.cells l kin false false)) {pl : Pl} (hpl : ι p = some pl) {o : Nat} {vs : List V} {cs : List Value} (hv : VRs ι vs cs)
    (ho : o + vs.length ≤ l.length) {N : Nat} :
    Rep ι ⟨T.set (.cells (lput l o vs) [] false false) p (kill kin σ.h), σ.nx⟩ (upd w pl.blk fun c => splice c (pl.st + o) cs.toArray) ∧
    G N ι σ w ι ⟨T.set (.cells (lput l o vs) [] false false) p (kill kin σ.h), σ.nx⟩ (upd w pl.blk fun c => splice c (pl.st + o) cs.toArray) := by
  have hlen := hv.1
  obtain ⟨pl0, c0, e0, g1, g2, g3, g4, g5, g6⟩ := R.ob p _ hp
  rw [hpl] at g1; cases g1
  refine R.store hp hpl (by rw [lput_len _ _ _ ho]; exact Nat.le_refl _) (fun c hc => splice_size _ _ _ (by simp; omega)) ?_
  intro c hc hle hc2 i x y hx hy
  rw [lput_get _ _ _ ho] at hx
  rw [splice_get _ _ _ (by simp; omega)] at hy
  simp only [List.size_toArray, ← hlen] at hy
  by_cases hin : o ≤ i ∧ i < o + vs.length
  · rw [if_pos hin] at hx
    rw [if_pos (by omega)] at hy
    have e : pl.st + i - (pl.st + o) = i - o := by omega
    rw [e] at hy
    exact hv.2 _ x y hx (by simpa using hy)
  · rw [if_neg hin] at hx
    rw [if_neg (by omega)] at hy
    exact hc2 i x y hx hy
theorem wr_inv {fz ro b : Bool} (h : (!fz && !ro && b) = true) : fz = false ∧ ro = false ∧ b = true := by
  cases fz <;> cases ro <;> simp_all
theorem e_st (x y : Arg) (m : Nat) : ESound E (.st x y m) := by
  intro n ι A b σ σ' w o v F L R hok h
  obtain ⟨d, op, ty, pos, af, g⟩ := o
  cases op <;> simp only [okE, Bool.false_eq_true, Bool.and_eq_true] at hok
  rename_i t x' y'
  obtain ⟨⟨h1, h2⟩, h3⟩ := hok
  simp only [eev] at h
  split at h
  · rename_i p o hx
    split at h
    · rename_i vs hvs
      split at h
      · rename_i hpl
        simp only [Bool.and_eq_true] at hpl
        have hm : llen vs = m := Nat.eq_of_beq_eq_true hpl.2
        rw [llen_eq] at hm
        split at h
        · rename_i l kin fz ro hg
          split at h
          · rename_i hw
            obtain ⟨rfl, rfl, hle⟩ := wr_inv hw
            have hle := ble_le hle
            rw [llen_eq] at hle
            simp only [Option.some.injEq, Prod.mk.injEq] at h
            obtain ⟨rfl, rfl⟩ := h
            obtain ⟨pl, k1, k2, k3⟩ := (ev_as F L h1 hx).ptr_inv
            have hv := flat_sound hvs (ev_sound F L h2)
            obtain ⟨pl0, c0, e0, g1, g2, g3, g4, g5, g6⟩ := R.ob p _ hg
            rw [k1] at g1; cases g1
            have hle' : o + vs.length ≤ l.length := by rw [hm]; exact hle
            obtain ⟨q1, q2⟩ := R.put (N := σ.nx.nat) hg k1 hv hle'
            refine ⟨ι, _, Or.inr ⟨exu (s := Instr.storeAt t (b.eval x') (b.eval y')) rfl ?_, rfl⟩, q1, q2⟩
            have hcs : (b.eval y').cells.size = m := by have := hv.1; simp at this; omega
            simp only [Instr.storeAt, k3, Instr.sureAddr, storeVar, Sem.run_bind, Sem.run_pure, Result.andThen_ok, run_szB h3]
            rw [if_neg (by simp [hcs])]
            have := run_storeCells (P := P) (b := pl.blk) (e := e0) (b.eval y').cells.toList w c0 (pl.st + o) 0 (plain_flat hpl.1 hv).1 g3 (by have := hv.1; simp at this ⊢; omega)
            simpa using this
          · cases h
        · cases h
      · cases h
    · cases h
  · cases h
end
end Go.Proofs.YtknhohgnilamcaaGreatDoor
