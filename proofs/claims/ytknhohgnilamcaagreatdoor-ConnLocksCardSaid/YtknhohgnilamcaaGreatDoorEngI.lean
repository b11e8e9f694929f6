/-
  The operations that write or make memory: the model does the same; appends and copies, all ways. (Of no program.)
-/
import Derived.Test.YtknhohgnilamcaaGreatDoorEngH
namespace Go.Proofs.YtknhohgnilamcaaGreatDoor
set_option linter.unusedVariables false
set_option linter.unusedSimpArgs false
set_option linter.unusedSectionVars false
open Go

section
variable {P : Program} {E : Env P}
theorem elB {t esz bts : Nat} (h : elemB P t esz bts = true) : ∃ e i z, El P t e i z esz bts := by
  unfold elemB at h
  split at h
  · rename_i e hu
    simp only [Bool.and_eq_true, decide_eq_true_eq] at h
    obtain ⟨⟨⟨h1, h2⟩, h3⟩, h4⟩ := h
    unfold szB at h1
    unfold bytesB at h2
    unfold zsizeB at h4
    cases hi : P.info? e with
    | none => rw [hi] at h1; cases h1
    | some i =>
      rw [hi] at h1 h2 h4
      cases hz : i.zero with
      | none => simp only [hz] at h4; cases h4
      | some z =>
        simp only [hz] at h4
        exact ⟨e, i, z, hu, hi, hz, by simpa using h1, by simpa using h2, by simpa using h4, h3⟩
  · cases h
/-- appended to a slice of which nobody knows what it may hold: in place, or anew -/
theorem app_unknown {ι : Nm} {σ : St} {w : World} (R : Rep ι σ w) {t tx ty e : TypeId} {i : TypeInfo} {z : Value} {esz bts : Nat} (K : El P t e i z esz bts) {p : Pos} {o len n : Nat} {l : List V} {kin : List Pos}
    (hg : T.get p σ.h = some (.cells l kin false false)) (hle : o + len * esz = l.length) {s' x' : Value} (vs : VR ι (.slice p o len none esz) s') {nw : List V} {news : List Value} (hs : Src P esz tx x' n news w) (hn : VRs ι nw news) (hp : lall plainV nw = true) (hn0 : 0 < n)
    (hb : (len + n) * bts ≤ 1099511627776 ∧ len + n ≤ 1099511627776) :
    ∃ ι' w' v', (Builtin.append_ #[t, tx] ty #[s', x']).run P w = .ok v' w' ∧ VR ι' (.slice σ.nx 0 (len + n) none esz) v' ∧
      Rep ι' ⟨T.set (.cells (l.drop o ++ nw) (p :: kin) false false) σ.nx (T.set (.cells l kin true false) p σ.h), σ.nx.succ⟩ w' ∧
      G σ.nx.nat ι σ w ι' ⟨T.set (.cells (l.drop o ++ nw) (p :: kin) false false) σ.nx (T.set (.cells l kin true false) p σ.h), σ.nx.succ⟩ w' := by
  obtain ⟨pl, a, c, k1, k2, k3, k4, k5, k6, rfl⟩ := vs.slice_inv
  obtain ⟨pl0, c0, e0, g1, g2, g3, g4, g5, g6⟩ := R.ob p _ hg
  rw [k1] at g1; cases g1
  obtain ⟨f1, f2⟩ := R.fresh
  have hsucc := Pos.succ_nat σ.nx
  have hnl := hs.newsLen
  have hnl' := hn.1
  by_cases hroom : len + n ≤ c
  · -- in place
    have k5 := k5 (by omega)
    subst k5
    have hi' := K.hi
    have e1 := K.size
    subst e1
    have hmul : (len + n) * i.size ≤ c * i.size := Nat.mul_le_mul_right _ hroom
    rw [Nat.add_mul] at hmul
    have hrun := run_append_room_src (P := P) w t tx ty e i K.ht K.hi pl.blk (pl.st + o) len c x' n news hs hroom
      (fun j hj => by
        have : pl.st + o + len * i.size + j < c0.size := by omega
        rw [cell?_blk g3]; simp [this])
      (fun j hj => frozen_blk g3 _)
    have hset := setCells_upd news w pl.blk (pl.st + o + len * i.size) c0 e0 g3 (by omega)
    have heq : pl.st + o + len * i.size = pl.st + l.length := by omega
    obtain ⟨q1, q2⟩ := R.appendIn hg k1 (o := o) (by omega) hn (by omega) (p' := σ.nx) f1 f2 (nx := σ.nx.succ) (by omega) (by omega) (N := σ.nx.nat) (Nat.le_refl _)
    refine ⟨nmSet ι σ.nx ⟨pl.blk, pl.st + o, pl.sz, 0⟩, _, _, hrun, ?_, ?_⟩
    · have := VR.slice (ι := nmSet ι σ.nx ⟨pl.blk, pl.st + o, pl.sz, 0⟩) σ.nx 0 (len + n) none i.size _ ⟨pl.blk, pl.st + o, none⟩ c (nmSet_self _ _ _) rfl (fun _ h => by cases h) hroom (fun _ => rfl) (by simpa using k6)
      exact this
    · rw [hset, heq]
      exact ⟨q1, q2⟩
  · -- anew
    have hold : (Builtin.firstCells esz len (.slice (some a) len c)).run P w.drew = .ok ((c0.toList.drop (pl.st + o)).take (len * esz)).toArray w.drew := by
      have hll : ((c0.toList.drop (pl.st + o)).take (len * esz)).length = len * esz := by simp; omega
      refine run_firstCells_some w.drew esz len a len c _ hll ?_
      intro j u hu
      rw [List.getElem?_take] at hu
      split at hu
      · rename_i hj
        have hlen : len ≠ 0 := fun e => by subst e; simp at hj
        have k5 := k5 (by omega)
        subst k5
        rw [List.getElem?_drop] at hu
        rw [addr_add]
        have : (w.drew).cell? ⟨pl.blk, pl.st + o + j, none⟩ = w.cell? ⟨pl.blk, pl.st + o + j, none⟩ := rfl
        rw [this, cell?_blk g3]
        simpa using hu
      · cases hu
    have hol : VRs ι (l.drop o) ((c0.toList.drop (pl.st + o)).take (len * esz)) := by
      refine ⟨by simp; omega, fun i x y hx hy => ?_⟩
      rw [List.getElem?_take] at hy
      split at hy
      · rw [List.getElem?_drop] at hx hy
        exact g6 (o + i) x y hx (by rw [← Nat.add_assoc]; simpa using hy)
      · cases hy
    obtain ⟨cc, cap, h1, h2, h3, h4, h5⟩ := grow_sound R K (ty := ty) hold hol (by simp; omega) hs hn (by omega) hb
    have R1 := (R.weaken (p := p) (ob := .cells l kin true false) hg rfl (fun _ => rfl) rfl (Nat.le_refl _) ⟨pl, c0, e0, k1, g2, g3, g4, g5, g6⟩).drew
    have hp2 : T.get σ.nx (T.set (Ob.cells l kin true false) p σ.h) = none := by
      rw [T.get_set, if_neg (fun e => by rw [← e] at hg; rw [f2] at hg; cases hg)]; exact f2
    have hpl0 : PlOk (w.drew.alloc (.cells cc e)) ⟨w.drew.heap.size, 0, cc.size, 0⟩ :=
      ⟨fun _ => ⟨cc, e, by rw [heap_alloc_if, if_pos rfl], rfl⟩, (fun h => by cases h), (fun h => by cases h), (fun h => by cases h), Nat.zero_le _⟩
    obtain ⟨q1, q2⟩ := R1.push (p := σ.nx) (nx := σ.nx.succ) (ob := .cells (l.drop o ++ nw) (p :: kin) false false) (ro := .cells cc e) (sz := cc.size) (kd := 0) f1 hp2 (by show σ.nx.nat ≤ _; omega) (by omega)
      (fun q hq => by
        simp only [Ob.kin, List.mem_cons] at hq
        rcases hq with rfl | hq
        · exact ⟨_, by rw [T.get_set, if_pos rfl], rfl⟩
        · obtain ⟨o2, h6⟩ := R.kpres p _ q hg hq
          have h7 := R.kin p _ q o2 hg hq h6
          by_cases hqp : q = p
          · subst hqp; exact ⟨_, by rw [T.get_set, if_pos rfl], rfl⟩
          · exact ⟨o2, by rw [T.get_set, if_neg hqp]; exact h6, h7⟩)
      ⟨_, cc, e, nmSet_self _ _ _, rfl, by rw [heap_alloc_if, if_pos rfl], rfl, by simpa using h3, fun i x y hx hy => by
        have hlt : i < (l.drop o ++ nw).length := (List.getElem?_eq_some_iff.1 hx).1
        refine (h2.2 i x y hx ?_).mono (nmSet_ext f1)
        rw [List.getElem?_take, if_pos hlt]
        simpa using hy⟩ hpl0 (N := σ.nx.nat) (Nat.le_refl _)
    refine ⟨nmSet ι σ.nx ⟨w.drew.heap.size, 0, cc.size, 0⟩, _, _, h1, ?_, q1, ?_⟩
    · have := VR.slice (ι := nmSet ι σ.nx ⟨w.drew.heap.size, 0, cc.size, 0⟩) σ.nx 0 (len + n) none esz _ ⟨w.drew.heap.size, 0, none⟩ cap (nmSet_self _ _ _) rfl (fun _ h => by cases h) h5 (fun _ => rfl) (by simpa using h4)
      exact this
    · -- the frame: from σ to where p is frozen nothing has turned
      have himg : ∀ r, Img ι ⟨T.set (.cells l kin true false) p σ.h, σ.nx⟩ r → Img ι σ r := by
        rintro r ⟨q, o', pq, h8, h9, h10, h11⟩
        simp only at h8
        rw [T.get_set] at h8
        split at h8
        · cases h8; cases h9
        · exact ⟨q, o', pq, h8, h9, h10, h11⟩
      exact ⟨q2.ext, q2.old, q2.nx, q2.size, q2.os, q2.tape, q2.out, fun r hr hi => q2.keep r hr (fun hh => hi (himg r hh)), fun r hr hh => himg r (q2.img r hr hh), fun q pq h8 h9 h10 => himg _ (q2.new q pq h8 h9 h10)⟩
set_option maxHeartbeats 1000000 in
theorem e_app (s x : Arg) (esz bts : Nat) (str : Bool) : ESound E (.app s x esz bts str) := by
  intro n ι A b σ σ' w o v F L R hok h
  obtain ⟨d, op, ty, pos, af, g⟩ := o
  cases op <;> simp only [okE, Bool.false_eq_true] at hok
  rename_i cc
  obtain ⟨cal, args, ats⟩ := cc
  split at hok
  · rename_i c' a1 a2 he
    cases he
    split at hok
    · rename_i s' x' t tx ha ht
      simp only [Bool.and_eq_true] at hok
      obtain ⟨⟨⟨h1, h2⟩, h3⟩, h4⟩ := hok
      obtain ⟨e, i, z, K⟩ := elB h3
      obtain rfl : ats = #[t, tx] := Array.toList_inj.1 ht
      have hx := ev_sound F L h2
      have hsv := ev_sound F L h1
      have fin : ∀ {ι' w' v'}, (Builtin.append_ #[t, tx] ty #[b.eval s', b.eval x']).run P w = .ok v' w' → VR ι' v v' → Rep ι' σ' w' → G σ.nx.nat ι σ w ι' σ' w' →
          ∃ ι' w', ((∃ v', (execOp b.eval ⟨d, .call ⟨.builtin .append, args, #[t, tx]⟩, ty, pos, af, g⟩).run P w = .ok (.value v') w' ∧ VR ι' v v') ∨ ((execOp b.eval ⟨d, .call ⟨.builtin .append, args, #[t, tx]⟩, ty, pos, af, g⟩).run P w = .ok .skip w' ∧ v = .u)) ∧ Rep ι' σ' w' ∧ G σ.nx.nat ι σ w ι' σ' w' :=
        fun hr hv q1 q2 => ⟨_, _, Or.inl ⟨_, extwo (f := Builtin.append_) (fun _ _ _ _ => rfl) ha hr, hv⟩, q1, q2⟩
      simp only [eev] at h
      split at h
      · rename_i n' news hsrc
        split at h
        · -- nothing
          obtain ⟨nw', hs, hn⟩ := src_sound R hx hsrc (Or.inl rfl) h4
          have e1 := K.size
          split at h
          · rename_i hnil
            simp only [Option.some.injEq, Prod.mk.injEq] at h
            obtain ⟨rfl, rfl⟩ := h
            rw [hnil] at hsv
            have hz := hsv.nils_inv
            rw [hz] at fin hsv
            exact fin (app_zero K.ht K.hi (by rw [e1]; exact hs) (Nat.le_refl 0)) hsv R (G.refl _ _ _ _)
          · rename_i p o len cap es hsl
            split at h
            · simp only [Option.some.injEq, Prod.mk.injEq] at h
              obtain ⟨rfl, rfl⟩ := h
              rw [hsl] at hsv
              obtain ⟨pl, a, c, k1, k2, k3, k4, k5, k6, k7⟩ := hsv.slice_inv
              rw [k7] at fin hsv
              exact fin (app_zero K.ht K.hi (by rw [e1]; exact hs) k4) hsv R (G.refl _ _ _ _)
            · cases h
          · cases h
        · rename_i n''
          split at h
          · rename_i hpl
            obtain ⟨nw', hs, hn⟩ := src_sound R hx hsrc (Or.inr hpl) h4
            split at h
            · -- onto nothing
              rename_i hnil
              split at h
              · rename_i hb
                have hb := bound_le hb
                simp only [Option.some.injEq, Prod.mk.injEq] at h
                obtain ⟨rfl, rfl⟩ := h
                rw [hnil] at hsv
                have hz := hsv.nils_inv
                rw [hz] at fin
                obtain ⟨cc, cap, j1, j2, j3, j4, j5⟩ := grow_sound R K (ty := ty) (olds := []) (ol := []) (run_firstCells_none w.drew esz 0 0 0) .nil (by simp) hs hn (by omega) (by rw [Nat.zero_add]; exact hb)
                rw [List.nil_append] at j2 j3
                obtain ⟨q1, q2⟩ := R.drew.newCells (l := news) (c := cc) e j2 j3
                refine fin j1 ?_ q1 ((G.drew _ ι σ w).trans (Nat.le_refl _) q2)
                have := VR.slice (ι := nmSet ι σ.nx ⟨w.drew.heap.size, 0, cc.size, 0⟩) σ.nx 0 (n'' + 1) none esz _ ⟨w.drew.heap.size, 0, none⟩ cap (nmSet_self _ _ _) rfl (fun _ h => by cases h) (by omega) (fun _ => rfl) (by simpa using j4)
                rw [Nat.zero_add]
                exact this
              · cases h
            · rename_i p o len cap es hsl
              split at h
              · rename_i hb
                simp only [Bool.and_eq_true] at hb
                have hes : es = esz := Nat.eq_of_beq_eq_true hb.1
                subst hes
                have hb := bound_le hb.2
                have hb : (len + (n'' + 1)) * bts ≤ 1099511627776 ∧ len + (n'' + 1) ≤ 1099511627776 := hb
                rw [hsl] at hsv
                split at h
                · -- it is known how much it may hold
                  rename_i c
                  split at h
                  · rename_i hroom
                    have hroom : len + (n'' + 1) ≤ c := ble_le hroom
                    split at h
                    · rename_i l kin fz ro hg
                      split at h
                      · rename_i hw
                        obtain ⟨rfl, rfl, hle⟩ := wr_inv hw
                        have hle := ble_le hle
                        rw [llen_eq] at hle
                        have hle : o + (len + (n'' + 1)) * es ≤ l.length := hle
                        rw [Nat.add_mul] at hle
                        simp only [Option.some.injEq, Prod.mk.injEq] at h
                        obtain ⟨rfl, rfl⟩ := h
                        obtain ⟨pl, a, c1, k1, k2, k3, k4, k5, k6, k7⟩ := hsv.slice_inv
                        have := k3 c rfl
                        subst this
                        have k5 := k5 (by omega)
                        subst k5
                        rw [k7] at fin
                        obtain ⟨pl0, c0, e0, g1, g2, g3, g4, g5, g6⟩ := R.ob p _ hg
                        rw [k1] at g1; cases g1
                        have e1 := K.size
                        subst e1
                        have hnl : nw'.length = (n'' + 1) * i.size := hs.newsLen
                        have hnl' := hn.1
                        have hrun := run_append_room_src (P := P) w t tx ty e i K.ht K.hi pl.blk (pl.st + o) len c1 (b.eval x') (n'' + 1) nw' hs hroom
                          (fun j hj => by
                            have : pl.st + o + len * i.size + j < c0.size := by omega
                            rw [cell?_blk g3]; simp [this])
                          (fun j hj => frozen_blk g3 _)
                        have hset := setCells_upd nw' w pl.blk (pl.st + o + len * i.size) c0 e0 g3 (by omega)
                        obtain ⟨q1, q2⟩ := R.put (N := σ.nx.nat) hg k1 (o := o + len * i.size) hn (by omega)
                        have heq : pl.st + o + len * i.size = pl.st + (o + len * i.size) := by omega
                        rw [hset, heq] at hrun
                        refine fin hrun ?_ q1 q2
                        exact .slice p o _ (some c1) i.size pl _ c1 k1 k2 (fun m hm => by cases hm; rfl) hroom (fun _ => rfl) k6
                      · cases h
                    · cases h
                  · rename_i hroom
                    have hroom : ¬ len + (n'' + 1) ≤ c := fun hh => by
                      have : Nat.ble (len.add (n'' + 1)) c = true := Nat.ble_eq_true_of_le hh
                      rw [this] at hroom; cases hroom
                    split at h
                    · rename_i olds hold
                      simp only [Option.some.injEq, Prod.mk.injEq] at h
                      obtain ⟨rfl, rfl⟩ := h
                      obtain ⟨a, len2, c2, l', j1, j2, j3, j4, j5, j6⟩ := sliceCells_sound R hsv hold
                      simp only [lenOfV] at j6
                      subst j6
                      obtain ⟨pl, a', c1, k1, k2, k3, k4, k5, k6, k7⟩ := hsv.slice_inv
                      have := k3 c rfl
                      subst this
                      rw [k7] at j1
                      simp only [Value.slice.injEq] at j1
                      obtain ⟨rfl, _, rfl⟩ := j1
                      rw [k7] at fin
                      have hf : (Builtin.firstCells es len2 (.slice (some a') len2 c1)).run P w.drew = .ok l'.toArray w.drew := run_firstCells_some w.drew es len2 a' len2 c1 l' j3 (fun j u hu => j4 a' rfl j u hu)
                      obtain ⟨cc, cap, m1, m2, m3, m4, m5⟩ := grow_sound R K (ty := ty) hf j2 j3 hs hn (by omega) hb
                      obtain ⟨q1, q2⟩ := R.drew.newCells (l := olds ++ news) (c := cc) e m2 m3
                      rw [lapp_eq] at *
                      refine fin m1 ?_ q1 ((G.drew _ ι σ w).trans (Nat.le_refl _) q2)
                      have := VR.slice (ι := nmSet ι σ.nx ⟨w.drew.heap.size, 0, cc.size, 0⟩) σ.nx 0 (len2 + (n'' + 1)) none es _ ⟨w.drew.heap.size, 0, none⟩ cap (nmSet_self _ _ _) rfl (fun _ h => by cases h) m5 (fun _ => rfl) (by simpa using m4)
                      exact this
                    · cases h
                · -- it is not
                  split at h
                  · rename_i l kin fz ro hg
                    split at h
                    · rename_i hw
                      obtain ⟨rfl, rfl, hle⟩ := wr_inv hw
                      have hle := ble_le hle
                      rw [llen_eq] at hle
                      have hle : o + len * es ≤ l.length := hle
                      split at h
                      · rename_i hex
                        have hex : o + len * es = l.length := by have := Nat.eq_of_beq_eq_true hex; rw [llen_eq] at this; exact this
                        simp only [Option.some.injEq, Prod.mk.injEq] at h
                        obtain ⟨rfl, rfl⟩ := h
                        obtain ⟨ι', w', v', m1, m2, m3, m4⟩ := app_unknown R K (ty := ty) hg hex hsv hs hn hpl (by omega) hb
                        rw [lapp_eq, ldrop_eq] at *
                        exact fin m1 m2 m3 m4
                      · simp only [Option.some.injEq, Prod.mk.injEq] at h
                        obtain ⟨rfl, rfl⟩ := h
                        obtain ⟨pl, a', c1, k1, k2, k3, k4, k5, k6, k7⟩ := hsv.slice_inv
                        have hlt : (l.take (o + len * es)).length = o + len * es := by simp; omega
                        obtain ⟨q1, q2⟩ := R.store (N := σ.nx.nat) hg k1 (l' := l.take (o + len * es)) (f := id) (by omega) (fun _ _ => rfl) (fun c hc hl hcc i x y hix hiy => by
                          rw [List.getElem?_take] at hix
                          split at hix
                          · exact hcc i x y hix hiy
                          · cases hix)
                        rw [upd_id] at q1 q2
                        obtain ⟨ι', w', v', m1, m2, m3, m4⟩ := app_unknown q1 K (ty := ty) (p := p) (o := o) (len := len) (l := l.take (o + len * es)) (kin := []) (by rw [T.get_set, if_pos rfl]) hlt.symm hsv hs hn hpl (by omega) hb
                        rw [lapp_eq, ldrop_eq, ltake_eq] at *
                        simp only [T.set_set] at m3 m4
                        exact fin m1 m2 m3 (q2.trans (Nat.le_refl _) m4)
                    · cases h
                  · cases h
              · cases h
            · cases h
          · cases h
      · cases h
    · cases hok
  · cases hok
end
end Go.Proofs.YtknhohgnilamcaaGreatDoor
