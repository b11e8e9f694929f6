/-
  The operations that change nothing: keys looked up, structs and arrays built; and all of them together. (Of no program.)
-/
import Derived.Test.YtknhohgnilamcaaGreatDoorEngZ
import Derived.Laws.Tables
import Derived.DataReads
namespace Go.Proofs.YtknhohgnilamcaaGreatDoor
set_option linter.unusedVariables false
set_option linter.unusedSimpArgs false
set_option linter.unusedSectionVars false
open Go

theorem mfind_eq (k : V) (es : List ME) : mfind k es = es.find? (fun e => keyEq k e.k) := by
  induction es with
  | nil => rfl
  | cons e es ih =>
    have : mfind k (e :: es) = match keyEq k e.k with | true => some e | false => mfind k es := rfl
    rw [this, List.find?_cons, ih]
    cases keyEq k e.k <;> rfl
/-- a map's entries stand for a map's entries -/
structure MapR (ι : Nm) (ks : KSh) (es : List ME) (es' : Array MapEntry) : Prop where
  len : es.length = es'.size
  rel : ∀ (i : Nat) x y, es[i]? = some x → es'[i]? = some y → MER ι x y
  sh : ∀ (i : Nat) x, es[i]? = some x → keyShaped ks x.k = true
  inj : ∀ (i j : Nat) x y, es[i]? = some x → es[j]? = some y → x.k = y.k → i = j
theorem MapR.shaped {ι : Nm} {ks : KSh} {es : List ME} {es' : Array MapEntry} (M : MapR ι ks es es') : ∀ e ∈ es'.toList, Shaped ks e.key := by
  intro e he
  obtain ⟨i, hi⟩ := List.getElem?_of_mem he
  have hlt : i < es.length := by
    have := (List.getElem?_eq_some_iff.1 hi).1
    rw [M.len]; simpa using this
  have h1 : es[i]? = some es[i] := by simp
  exact keyShaped_sound (M.sh i _ h1) (M.rel i _ e h1 (by simpa using hi)).1
theorem MapR.find {P : Program} {ι : Nm} {ks : KSh} {kt : Nat} {es : List ME} {es' : Array MapEntry} (M : MapR ι ks es es') (K : MapK P kt ks) {k : V} {k' : Value} (hk : keyShaped ks k = true) (vk : VR ι k k') (w : World) :
    (mfind k es = none ∧ (Instr.findKey kt k' es'.toList).run P w = .ok none w ∧ ∀ e ∈ es, e.k ≠ k) ∨
    ∃ i e e', mfind k es = some e ∧ es[i]? = some e ∧ es'[i]? = some e' ∧ e.k = k ∧ e'.key = k' ∧ (Instr.findKey kt k' es'.toList).run P w = .ok (some (i, e'.val)) w := by
  have key : ∀ (i : Nat) e e', es[i]? = some e → es'[i]? = some e' → (keyEq k e.k = true ↔ k = e.k) ∧ (k = e.k ↔ k' = e'.key) := fun i e e' h1 h2 =>
    keyEq_sound hk (M.sh i e h1) vk (M.rel i e e' h1 h2).1
  have other : ∀ (i : Nat) e, es[i]? = some e → ∃ e', es'[i]? = some e' := fun i e h => by
    have : i < es.length := (List.getElem?_eq_some_iff.1 h).1
    exact ⟨es'[i]'(by rw [← M.len]; exact this), by simp [← M.len, this]⟩
  rw [mfind_eq]
  rcases K.find w k' es'.toList (keyShaped_sound hk vk) M.shaped with ⟨h1, h2⟩ | ⟨j, e', h1, h2, h3⟩
  · left
    have hno : ∀ e ∈ es, ¬ k = e.k := by
      intro e he hke
      obtain ⟨i, hi⟩ := List.getElem?_of_mem he
      obtain ⟨e', hi'⟩ := other i e hi
      exact h2 e' (List.mem_of_getElem? (by simpa using hi')) (((key i e e' hi hi').2.1 hke).symm)
    refine ⟨?_, h1, fun e he h => hno e he h.symm⟩
    rw [List.find?_eq_none]
    intro e he
    obtain ⟨i, hi⟩ := List.getElem?_of_mem he
    obtain ⟨e', hi'⟩ := other i e hi
    intro hq
    exact hno e he ((key i e e' hi hi').1.1 hq)
  · right
    have hj' : es'[j]? = some e' := by simpa using h2
    have hlt : j < es.length := by
      have := (Array.getElem?_eq_some_iff.1 hj').1
      rw [M.len]; exact this
    have hj : es[j]? = some es[j] := by simp
    have hke : k = es[j].k := ((key j _ e' hj hj').2).2 h3.symm
    have hq : keyEq k es[j].k = true := ((key j _ e' hj hj').1).2 hke
    cases hf : es.find? (fun e => keyEq k e.k) with
    | none =>
      rw [List.find?_eq_none] at hf
      exact absurd hq (hf _ (List.getElem_mem hlt))
    | some e0 =>
      have h4 := List.find?_some hf
      obtain ⟨i0, hi0⟩ := List.getElem?_of_mem (List.mem_of_find?_eq_some hf)
      obtain ⟨e0', hi0'⟩ := other i0 e0 hi0
      have hk0 : k = e0.k := (key i0 e0 e0' hi0 hi0').1.1 h4
      have := M.inj i0 j e0 _ hi0 hj (hk0.symm.trans hke)
      subst this
      have he0 : e0 = es[i0] := by rw [hj] at hi0; exact (Option.some.inj hi0).symm
      subst he0
      exact ⟨i0, _, e', rfl, hj, hj', hke.symm, h3, h1⟩

section
variable {P : Program} {E : Env P}
theorem isMapB_inv {t : Nat} {kt : List (Nat × KSh)} {ks : KSh} {z : V} (h : isMapB P t kt ks z = true) : ∃ k e, P.underlying t = some (.map k e) ∧ (k, ks) ∈ kt ∧ zeroV P e z = true := by
  unfold isMapB at h
  split at h
  · simp only [Bool.and_eq_true] at h
    exact ⟨_, _, by assumption, by simpa using h.1, h.2⟩
  · cases h
theorem q_lkp (m k : Arg) (ks : KSh) (z : V) (ok : Bool) : QSound E (.lkp m k ks z ok) := by
  intro n ι A b σ w o v F L R hok h
  obtain ⟨d, op, ty, pos, af, g⟩ := o
  cases op <;> simp only [okQ, Bool.false_eq_true, Bool.and_eq_true, beq_iff_eq] at hok
  rename_i t m' k' ok'
  obtain ⟨⟨⟨rfl, h1⟩, h2⟩, h3⟩ := hok
  obtain ⟨kt, et, hu, hm, hz⟩ := isMapB_inv h3
  obtain ⟨zv, hzr, hzv⟩ := zeroV_inv hz
  have K := E.mgood _ hm
  simp only [qev] at h
  split at h
  · rename_i hsh
    have vk := ev_sound F L h2
    have hchk := K.check w
    split at h
    · rename_i hx
      have k2 := (ev_as F L h1 hx).nilm_inv
      cases h
      refine ⟨if ok then .tuple #[zv, .bool false] else zv, exv rfl (s := Instr.lookup t (b.eval m') (b.eval k') ok) ?_, ?_⟩
      · have hf : (Instr.findKey kt (b.eval k') []).run P w = .ok none w := by
          rcases K.find w (b.eval k') [] (keyShaped_sound hsh vk) (fun e he => by cases he) with ⟨h5, _⟩ | ⟨j, e, _, h6, _⟩
          · exact h5
          · simp at h6
        simp [Instr.lookup, run_underlying hu, k2, hchk true _ (keyShaped_sound hsh vk), hf, hzr]
      · cases ok
        · exact hzv ι
        · exact .mk_tup (.cons (hzv ι) (.cons (.bool _) .nil))
    · rename_i p hx
      obtain ⟨pl, k1, k2, k3⟩ := (ev_as F L h1 hx).map_inv
      split at h
      · rename_i es ck ks' hg
        split at h
        · rename_i hks
          have hks : ks' = ks := of_decide_eq_true hks
          subst hks
          cases h
          obtain ⟨pl', es', j1, j2, j3, j4, j5, j6, j7⟩ := R.ob p _ hg
          rw [k1] at j1; cases j1
          have M : MapR ι ks' es es' := ⟨j4, j5, j6, j7⟩
          have hget : (getObj pl.blk).run P w = .ok (.map es' ck) w := by simp [getObj, Sem.run, j3]
          rcases M.find K hsh vk w with ⟨h5, h6, _⟩ | ⟨i, e, e', h5, h6, h7, h8, h9, h10⟩
          · rw [h5]
            refine ⟨if ok then .tuple #[zv, .bool false] else zv, exv rfl (s := Instr.lookup t (b.eval m') (b.eval k') ok) ?_, ?_⟩
            · simp [Instr.lookup, run_underlying hu, k3, hget, hchk _ _ (keyShaped_sound hsh vk), h6, hzr]
            · cases ok
              · exact hzv ι
              · exact .mk_tup (.cons (hzv ι) (.cons (.bool _) .nil))
          · rw [h5]
            have hv := (M.rel i e e' h6 h7).2.1
            refine ⟨if ok then .tuple #[e'.val, .bool true] else e'.val, exv rfl (s := Instr.lookup t (b.eval m') (b.eval k') ok) ?_, ?_⟩
            · simp [Instr.lookup, run_underlying hu, k3, hget, hchk _ _ (keyShaped_sound hsh vk), h10]
            · cases ok
              · exact hv
              · exact .mk_tup (.cons hv (.cons (.bool _) .nil))
        · cases h
      · cases h
    · cases h
  · cases h

/-! what is built -/
theorem fill_one (off : Nat) : ∀ (vs : List Value) (n : Nat) (cells : Array Value) (i : Nat), off + n + vs.length ≤ cells.size →
    ((vs.zipIdx n).foldl (fun (cs : Array Value) (x : Value × Nat) => cs.setIfInBounds (off + x.2) x.1) cells)[i]? = if off + n ≤ i ∧ i < off + n + vs.length then vs[i - (off + n)]? else cells[i]?
  | [], n, cells, i, h => by
    simp; omega
  | v :: vs, n, cells, i, h => by
    simp only [List.zipIdx_cons, List.foldl_cons]
    rw [fill_one off vs (n + 1) _ i (by simp at h ⊢; omega)]
    simp only [List.length_cons] at h ⊢
    by_cases h1 : i = off + n
    · subst h1
      rw [if_neg (by omega), if_pos (by omega)]
      simp [show off + n < cells.size by omega]
    · by_cases h2 : off + (n + 1) ≤ i ∧ i < off + (n + 1) + vs.length
      · rw [if_pos h2, if_pos (by omega)]
        have : i - (off + n) = (i - (off + (n + 1))) + 1 := by omega
        rw [this]
        simp
      · rw [if_neg h2, if_neg (by omega)]
        rw [Array.getElem?_setIfInBounds_ne (by omega)]
theorem VRs.splice {ι : Nm} {z l : List V} {c : List Value} {vs : List Value} {off : Nat} (hz : VRs ι z c) (hl : VRs ι l vs) (ho : off + l.length ≤ z.length) {c' : Array Value}
    (hc : ∀ i : Nat, c'[i]? = if off ≤ i ∧ i < off + vs.length then vs[i - off]? else c[i]?) : VRs ι (lsplice z off l) c'.toList := by
  have e : lsplice z off l = z.take off ++ (l ++ z.drop (off + l.length)) := by
    simp only [lsplice, lapp_eq, ltake_eq, ldrop_eq, llen_eq]; rfl
  rw [e]
  have hc2 : c'.toList = c.take off ++ (vs ++ c.drop (off + vs.length)) := by
    have h1 := hz.1
    have h2 := hl.1
    apply List.ext_getElem?
    intro i
    rw [Array.getElem?_toList, hc]
    by_cases a : i < off
    · rw [if_neg (by omega), List.getElem?_append_left (by simp; omega), List.getElem?_take, if_pos a]
    · rw [List.getElem?_append_right (by simp; omega)]
      have hm : (c.take off).length = off := by simp; omega
      rw [hm]
      by_cases b : i < off + vs.length
      · rw [if_pos (by omega), List.getElem?_append_left (by omega)]
      · rw [if_neg (by omega), List.getElem?_append_right (by omega), List.getElem?_drop]
        congr 1; omega
  rw [hc2]
  have h2 := hl.1
  refine (hz.take off).append (hl.append ?_)
  rw [h2]
  exact hz.drop _
theorem fill_sound {ng : GS} {n : Nat} {ι : Nm} {A : T V} {a : Act} (F : FR n ι A a) (L : Gl ng ι) {t : Nat} (place : Nat → Option (Nat × Nat)) :
    ∀ (ps : List (Nat × Nat × Arg)) (qs : List (Nat × Operand)) (z l : List V) (cells : Array Value), placesB P ng t ps qs = true → (∀ (i off sz : Nat), placeB P t i off sz = true → place i = some (off, sz)) →
      bldF A ps z = some l → VRs ι z cells.toList → ∃ c, Instr.fill place cells (qs.map fun x => (x.1, a.eval x.2)) = some c ∧ VRs ι l c.toList
  | [], [], z, l, cells, _, _, h, hz => by
    have : l = z := by
      have e : bldF A [] z = some z := rfl
      rw [e] at h; exact (Option.some.inj h).symm
    subst this
    exact ⟨cells, rfl, hz⟩
  | [], _ :: _, _, _, _, h, _, _, _ => by simp [placesB] at h
  | _ :: _, [], _, _, _, h, _, _, _ => by simp [placesB] at h
  | (off, sz, x) :: ps, (i, o) :: qs, z, l, cells, hok, hp, h, hz => by
    simp only [placesB, Bool.and_eq_true] at hok
    obtain ⟨⟨h1, h2⟩, h3⟩ := hok
    have e : bldF A ((off, sz, x) :: ps) z = match flat (ev A x) with
      | none => none
      | some l => (match Nat.beq (llen l) sz && Nat.ble (Nat.add off sz) (llen z) with | true => bldF A ps (lsplice z off l) | false => none) := rfl
    rw [e] at h
    split at h
    · cases h
    · rename_i l1 hf
      have hv := flat_sound hf (ev_sound F L h2)
      split at h
      · rename_i hb
        simp only [Bool.and_eq_true] at hb
        have hb1 : llen l1 = sz := Nat.eq_of_beq_eq_true hb.1
        have hb2 := ble_le hb.2
        rw [llen_eq] at hb1 hb2
        have hpl := hp i off sz h1
        have hvs : (a.eval o).cells.size = sz := by
          have := hv.1; simp at this; omega
        have hcs : cells.size = z.length := by have := hz.1; simp at this; omega
        have hle : off + sz ≤ z.length := hb2
        have hfill : ∀ j : Nat, ((a.eval o).cells.zipIdx.foldl (fun (cs : Array Value) (x : Value × Nat) => cs.setIfInBounds (off + x.2) x.1) cells)[j]? = if off ≤ j ∧ j < off + (a.eval o).cells.toList.length then (a.eval o).cells.toList[j - off]? else cells.toList[j]? := by
          intro j
          rw [← Array.foldl_toList, Array.toList_zipIdx]
          have := fill_one off (a.eval o).cells.toList 0 cells j (by simp; omega)
          rw [Nat.add_zero] at this
          rw [this]
          simp
        have hz' := VRs.splice hz hv (by omega) hfill
        obtain ⟨c, k1, k2⟩ := fill_sound F L place ps qs _ l _ h3 hp h hz'
        refine ⟨c, ?_, k2⟩
        simp only [List.map_cons, Instr.fill, hpl]
        rw [if_neg (by simp [hvs]; omega)]
        exact k1
      · cases h
theorem q_bld (z : List V) (ps : List (Nat × Nat × Arg)) : QSound E (.bld z ps) := by
  intro n ι A b σ w o v F L R hok h
  obtain ⟨d, op, ty, pos, af, g⟩ := o
  cases op <;> simp only [okQ, Bool.false_eq_true, Bool.and_eq_true] at hok
  rename_i t parts
  obtain ⟨⟨h1, h0⟩, h2⟩ := hok
  simp only [qev] at h
  split at h
  · rename_i l hl
    cases h
    have hmap : (parts.map fun x => (x.1, b.eval x.2)).toList = parts.toList.map fun x => (x.1, b.eval x.2) := by simp
    unfold zeroB at h1
    split at h1
    · rename_i it hit
      split at h1
      · rename_i zv hz
        have hzv : VRs ι z zv.cells.toList := csts_sound (fun l x hx y hy => cst_sound x y hy) _ _ h1
        unfold builtOk at h0
        split at h0
        · rename_i m e hu
          obtain ⟨ie, hie⟩ := Option.isSome_iff_exists.1 h0
          obtain ⟨c, k1, k2⟩ := fill_sound F L (fun i => some (i * ie.size, ie.size)) ps parts.toList z l zv.cells h2 (fun i off sz hp => by
            simp only [placeB, hu, szB, hie, Bool.and_eq_true, beq_iff_eq] at hp
            obtain ⟨rfl, rfl⟩ := hp
            rfl) hl hzv
          refine ⟨.agg c, exv rfl (s := Instr.build t (parts.map fun (i, x) => (i, b.eval x))) (run_build w t _ c ?_), .mk_agg k2⟩
          unfold Program.built
          simp only [hit, hu, hz, hie, hmap]
          exact k1
        · rename_i fs hu
          obtain ⟨places, hp⟩ := Option.isSome_iff_exists.1 h0
          have hget := mapM_some_get hp
          obtain ⟨c, k1, k2⟩ := fill_sound F L (places.toArray[·]?) ps parts.toList z l zv.cells h2 (fun i off sz hpl => by
            simp only [placeB, hu] at hpl
            split at hpl
            · rename_i f hf
              simp only [Bool.and_eq_true, beq_iff_eq, szB] at hpl
              obtain ⟨h5, h6⟩ := hpl
              split at h6
              · rename_i fi hfi
                have h6 : fi.size = sz := by simpa using h6
                have := hget i f (by simpa using hf)
                rw [hfi] at this
                simp only [Option.map_some] at this
                rw [List.getElem?_toArray, ← this, h5, h6]
              · cases h6
            · cases hpl) hl hzv
          refine ⟨.agg c, exv rfl (s := Instr.build t (parts.map fun (i, x) => (i, b.eval x))) (run_build w t _ c ?_), .mk_agg k2⟩
          unfold Program.built
          simp only [hit, hu, hz, hp, hmap]
          exact k1
        · cases h0
      · cases h1
    · cases h1
  · cases h

/-- all of them -/
theorem q_sound (q : QOp) : QSound E q := by
  cases q with
  | mv a => exact q_mv a
  | pick c a b => exact q_pick c a b
  | bld z ps => exact q_bld z ps
  | fadr a off => exact q_fadr a off
  | fld a off n ag => exact q_fld a off n ag
  | iadr a i esz => exact q_iadr a i esz
  | iada a i esz n => exact q_iada a i esz n
  | idxa a i esz n ag => exact q_idxa a i esz n ag
  | idxs a i => exact q_idxs a i
  | nck a => exact q_nck a
  | bin op a c => exact q_bin op a c
  | shf l a c => exact q_shf l a c
  | cmpb ne a c => exact q_cmpb ne a c
  | cmps op a c => exact q_cmps op a c
  | eqp kd ne a c => exact q_eqp kd ne a c
  | eqa ne sh a c => exact q_eqa ne sh a c
  | not a => exact q_not a
  | neg a => exact q_neg a
  | inv a => exact q_inv a
  | cvi k a => exact q_cvi k a
  | cvid a => exact q_cvid a
  | mki t a => exact q_mki t a
  | mkf f xs ys => exact q_mkf f xs ys
  | tas a t z ok => exact q_tas a t z ok
  | tai a ts ok => exact q_tai a ts ok
  | ext a i => exact q_ext a i
  | lenv a => exact q_lenv a
  | lens a => exact q_lens a
  | lenc n => exact q_lenc n
  | slc a lo hi esz => exact q_slc a lo hi esz
  | slca a lo hi esz n => exact q_slca a lo hi esz n
  | slcs a lo hi => exact q_slcs a lo hi
  | mnx mx a c => exact q_mnx mx a c
  | ld1 a => exact q_ld1 a
  | ldn a n => exact q_ldn a n
  | lkp m k ks z ok => exact q_lkp m k ks z ok
  | lenm m => exact q_lenm m
  | wts g => exact q_wts g
end
end Go.Proofs.YtknhohgnilamcaaGreatDoor
