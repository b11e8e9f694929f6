/-
  The abstract machine: texts joined. (Of no program.)
-/
import Derived.Test.YtcecdaeceipbnaaGreatDoorEnOne
import Derived.Tactics
import Derived.Orders
/-
  The operations that write or make memory: the model does the same; appends and copies, all ways. (Of no program.)
-/
namespace Go.Proofs.YtcecdaeceipbnaaGreatDoor
set_option linter.unusedVariables false
set_option linter.unusedSimpArgs false
set_option linter.unusedSectionVars false
open Go

section
variable {P : Program} {E : Env P}
theorem elB {t esz bts : Nat} (h : elemB P t esz bts = true) : ∃ e i z, El P t e i z esz bts := by
  unfold elemB at h
  split at h
  · rename_i e hu
    simp only [Bool.and_eq_true, decide_eq_true_eq] at h
    obtain ⟨⟨⟨h1, h2⟩, h3⟩, h4⟩ := h
    unfold szB at h1
    unfold bytesB at h2
    unfold zsizeB at h4
    cases hi : P.info? e with
    | none => rw [hi] at h1; cases h1
    | some i =>
      rw [hi] at h1 h2 h4
      cases hz : i.zero with
      | none => simp only [hz] at h4; cases h4
      | some z =>
        simp only [hz] at h4
        exact ⟨e, i, z, hu, hi, hz, by simpa using h1, by simpa using h2, by simpa using h4, h3⟩
  · cases h
/-- appended to a slice of which nobody knows what it may hold: in place, or anew -/
theorem app_unknown {ι : Nm} {σ : St} {w : World} (R : Rep ι σ w) {t tx ty e : TypeId} {i : TypeInfo} {z : Value} {esz bts : Nat} (K : El P t e i z esz bts) {p : Pos} {o len n : Nat} {l : List V} {kin : List Pos}
    (hg : T.get p σ.h = some (.cells l kin false false)) (hle : o + len * esz = l.length) {s' x' : Value} (vs : VR ι (.slice p o len none esz) s') {nw : List V} {news : List Value} (hs : Src P esz tx x' n news w) (hn : VRs ι nw news) (hp : lall plainV nw = true) (hn0 : 0 < n)
    (hb : (len + n) * bts ≤ 1099511627776 ∧ len + n ≤ 1099511627776) :
    ∃ ι' w' v', (Builtin.append_ #[t, tx] ty #[s', x']).run P w = .ok v' w' ∧ VR ι' (.slice σ.nx 0 (len + n) none esz) v' ∧
      Rep ι' ⟨T.set (.cells (l.drop o ++ nw) (p :: kin) false false) σ.nx (T.set (.cells l kin true false) p σ.h), σ.nx.succ⟩ w' ∧
      G σ.nx.nat ι σ w ι' ⟨T.set (.cells (l.drop o ++ nw) (p :: kin) false false) σ.nx (T.set (.cells l kin true false) p σ.h), σ.nx.succ⟩ w' := by
  obtain ⟨pl, a, c, k1, k2, k3, k4, k5, k6, rfl⟩ := vs.slice_inv
  obtain ⟨pl0, c0, e0, g1, g2, g3, g4, g5, g6⟩ := R.ob p _ hg
  rw [k1] at g1; cases g1
  obtain ⟨f1, f2⟩ := R.fresh
  have hsucc := Pos.succ_nat σ.nx
  have hnl := hs.newsLen
  have hnl' := hn.1
  by_cases hroom : len + n ≤ c
  · -- in place
    have k5 := k5 (by omega)
    subst k5
    have hi' := K.hi
    have e1 := K.size
    subst e1
    have hmul : (len + n) * i.size ≤ c * i.size := Nat.mul_le_mul_right _ hroom
    rw [Nat.add_mul] at hmul
    have hrun := run_append_room_src (P := P) w t tx ty e i K.ht K.hi pl.blk (pl.st + o) len c x' n news hs hroom
      (fun j hj => by
        have : pl.st + o + len * i.size + j < c0.size := by omega
        rw [cell?_blk g3]; simp [this])
      (fun j hj => frozen_blk g3 _)
    have hset := setCells_upd news w pl.blk (pl.st + o + len * i.size) c0 e0 g3 (by omega)
    have heq : pl.st + o + len * i.size = pl.st + l.length := by omega
    obtain ⟨q1, q2⟩ := R.appendIn hg k1 (o := o) (by omega) hn (by omega) (p' := σ.nx) f1 f2 (nx := σ.nx.succ) (by omega) (by omega) (N := σ.nx.nat) (Nat.le_refl _)
    refine ⟨nmSet ι σ.nx ⟨pl.blk, pl.st + o, pl.sz, 0⟩, _, _, hrun, ?_, ?_⟩
    · have := VR.slice (ι := nmSet ι σ.nx ⟨pl.blk, pl.st + o, pl.sz, 0⟩) σ.nx 0 (len + n) none i.size _ ⟨pl.blk, pl.st + o, none⟩ c (nmSet_self _ _ _) rfl (fun _ h => by cases h) hroom (fun _ => rfl) (by simpa using k6)
      exact this
    · rw [hset, heq]
      exact ⟨q1, q2⟩
  · -- anew
    have hold : (Builtin.firstCells esz len (.slice (some a) len c)).run P w.drew = .ok ((c0.toList.drop (pl.st + o)).take (len * esz)).toArray w.drew := by
      have hll : ((c0.toList.drop (pl.st + o)).take (len * esz)).length = len * esz := by simp; omega
      refine run_firstCells_some w.drew esz len a len c _ hll ?_
      intro j u hu
      rw [List.getElem?_take] at hu
      split at hu
      · rename_i hj
        have hlen : len ≠ 0 := fun e => by subst e; simp at hj
        have k5 := k5 (by omega)
        subst k5
        rw [List.getElem?_drop] at hu
        rw [addr_add]
        have : (w.drew).cell? ⟨pl.blk, pl.st + o + j, none⟩ = w.cell? ⟨pl.blk, pl.st + o + j, none⟩ := rfl
        rw [this, cell?_blk g3]
        simpa using hu
      · cases hu
    have hol : VRs ι (l.drop o) ((c0.toList.drop (pl.st + o)).take (len * esz)) := by
      refine ⟨by simp; omega, fun i x y hx hy => ?_⟩
      rw [List.getElem?_take] at hy
      split at hy
      · rw [List.getElem?_drop] at hx hy
        exact g6 (o + i) x y hx (by rw [← Nat.add_assoc]; simpa using hy)
      · cases hy
    obtain ⟨cc, cap, h1, h2, h3, h4, h5⟩ := grow_sound R K (ty := ty) hold hol (by simp; omega) hs hn (by omega) hb
    have R1 := (R.weaken (p := p) (ob := .cells l kin true false) hg rfl (fun _ => rfl) rfl (Nat.le_refl _) ⟨pl, c0, e0, k1, g2, g3, g4, g5, g6⟩).drew
    have hp2 : T.get σ.nx (T.set (Ob.cells l kin true false) p σ.h) = none := by
      rw [T.get_set, if_neg (fun e => by rw [← e] at hg; rw [f2] at hg; cases hg)]; exact f2
    have hpl0 : PlOk (w.drew.alloc (.cells cc e)) ⟨w.drew.heap.size, 0, cc.size, 0⟩ :=
      ⟨fun _ => ⟨cc, e, by rw [heap_alloc_if, if_pos rfl], rfl⟩, (fun h => by cases h), (fun h => by cases h), (fun h => by cases h), Nat.zero_le _⟩
    obtain ⟨q1, q2⟩ := R1.push (p := σ.nx) (nx := σ.nx.succ) (ob := .cells (l.drop o ++ nw) (p :: kin) false false) (ro := .cells cc e) (sz := cc.size) (kd := 0) f1 hp2 (by show σ.nx.nat ≤ _; omega) (by omega)
      (fun q hq => by
        simp only [Ob.kin, List.mem_cons] at hq
        rcases hq with rfl | hq
        · exact ⟨_, by rw [T.get_set, if_pos rfl], rfl⟩
        · obtain ⟨o2, h6⟩ := R.kpres p _ q hg hq
          have h7 := R.kin p _ q o2 hg hq h6
          by_cases hqp : q = p
          · subst hqp; exact ⟨_, by rw [T.get_set, if_pos rfl], rfl⟩
          · exact ⟨o2, by rw [T.get_set, if_neg hqp]; exact h6, h7⟩)
      ⟨_, cc, e, nmSet_self _ _ _, rfl, by rw [heap_alloc_if, if_pos rfl], rfl, by simpa using h3, fun i x y hx hy => by
        have hlt : i < (l.drop o ++ nw).length := (List.getElem?_eq_some_iff.1 hx).1
        refine (h2.2 i x y hx ?_).mono (nmSet_ext f1)
        rw [List.getElem?_take, if_pos hlt]
        simpa using hy⟩ hpl0 (N := σ.nx.nat) (Nat.le_refl _)
    refine ⟨nmSet ι σ.nx ⟨w.drew.heap.size, 0, cc.size, 0⟩, _, _, h1, ?_, q1, ?_⟩
    · have := VR.slice (ι := nmSet ι σ.nx ⟨w.drew.heap.size, 0, cc.size, 0⟩) σ.nx 0 (len + n) none esz _ ⟨w.drew.heap.size, 0, none⟩ cap (nmSet_self _ _ _) rfl (fun _ h => by cases h) h5 (fun _ => rfl) (by simpa using h4)
      exact this
    · -- the frame: from σ to where p is frozen nothing has turned
      have himg : ∀ r, Img ι ⟨T.set (.cells l kin true false) p σ.h, σ.nx⟩ r → Img ι σ r := by
        rintro r ⟨q, o', pq, h8, h9, h10, h11⟩
        simp only at h8
        rw [T.get_set] at h8
        split at h8
        · cases h8; cases h9
        · exact ⟨q, o', pq, h8, h9, h10, h11⟩
      exact ⟨q2.ext, q2.old, q2.nx, q2.size, q2.os, q2.tape, q2.out, fun r hr hi => q2.keep r hr (fun hh => hi (himg r hh)), fun r hr hh => himg r (q2.img r hr hh), fun q pq h8 h9 h10 => himg _ (q2.new q pq h8 h9 h10)⟩
set_option maxHeartbeats 1000000 in
theorem e_app (s x : Arg) (esz bts : Nat) (str : Bool) : ESound E (.app s x esz bts str) := by
  intro n ι A b σ σ' w o v F L R hok h
  obtain ⟨d, op, ty, pos, af, g⟩ := o
  cases op <;> simp only [okE, Bool.false_eq_true] at hok
  rename_i cc
  obtain ⟨cal, args, ats⟩ := cc
  split at hok
  · rename_i c' a1 a2 he
    cases he
    split at hok
    · rename_i s' x' t tx ha ht
      simp only [Bool.and_eq_true] at hok
      obtain ⟨⟨⟨h1, h2⟩, h3⟩, h4⟩ := hok
      obtain ⟨e, i, z, K⟩ := elB h3
      obtain rfl : ats = #[t, tx] := Array.toList_inj.1 ht
      have hx := ev_sound F L h2
      have hsv := ev_sound F L h1
      have fin : ∀ {ι' w' v'}, (Builtin.append_ #[t, tx] ty #[b.eval s', b.eval x']).run P w = .ok v' w' → VR ι' v v' → Rep ι' σ' w' → G σ.nx.nat ι σ w ι' σ' w' →
          ∃ ι' w', ((∃ v', (execOp b.eval ⟨d, .call ⟨.builtin .append, args, #[t, tx]⟩, ty, pos, af, g⟩).run P w = .ok (.value v') w' ∧ VR ι' v v') ∨ ((execOp b.eval ⟨d, .call ⟨.builtin .append, args, #[t, tx]⟩, ty, pos, af, g⟩).run P w = .ok .skip w' ∧ v = .u)) ∧ Rep ι' σ' w' ∧ G σ.nx.nat ι σ w ι' σ' w' :=
        fun hr hv q1 q2 => ⟨_, _, Or.inl ⟨_, extwo (f := Builtin.append_) (fun _ _ _ _ => rfl) ha hr, hv⟩, q1, q2⟩
      simp only [eev] at h
      split at h
      · rename_i n' news hsrc
        split at h
        · -- nothing
          obtain ⟨nw', hs, hn⟩ := src_sound R hx hsrc (Or.inl rfl) h4
          have e1 := K.size
          split at h
          · rename_i hnil
            simp only [Option.some.injEq, Prod.mk.injEq] at h
            obtain ⟨rfl, rfl⟩ := h
            rw [hnil] at hsv
            have hz := hsv.nils_inv
            rw [hz] at fin hsv
            exact fin (app_zero K.ht K.hi (by rw [e1]; exact hs) (Nat.le_refl 0)) hsv R (G.refl _ _ _ _)
          · rename_i p o len cap es hsl
            split at h
            · simp only [Option.some.injEq, Prod.mk.injEq] at h
              obtain ⟨rfl, rfl⟩ := h
              rw [hsl] at hsv
              obtain ⟨pl, a, c, k1, k2, k3, k4, k5, k6, k7⟩ := hsv.slice_inv
              rw [k7] at fin hsv
              exact fin (app_zero K.ht K.hi (by rw [e1]; exact hs) k4) hsv R (G.refl _ _ _ _)
            · cases h
          · cases h
        · rename_i n''
          split at h
          · rename_i hpl
            obtain ⟨nw', hs, hn⟩ := src_sound R hx hsrc (Or.inr hpl) h4
            split at h
            · -- onto nothing
              rename_i hnil
              split at h
              · rename_i hb
                have hb := bound_le hb
                simp only [Option.some.injEq, Prod.mk.injEq] at h
                obtain ⟨rfl, rfl⟩ := h
                rw [hnil] at hsv
                have hz := hsv.nils_inv
                rw [hz] at fin
                obtain ⟨cc, cap, j1, j2, j3, j4, j5⟩ := grow_sound R K (ty := ty) (olds := []) (ol := []) (run_firstCells_none w.drew esz 0 0 0) .nil (by simp) hs hn (by omega) (by rw [Nat.zero_add]; exact hb)
                rw [List.nil_append] at j2 j3
                obtain ⟨q1, q2⟩ := R.drew.newCells (l := news) (c := cc) e j2 j3
                refine fin j1 ?_ q1 ((G.drew _ ι σ w).trans (Nat.le_refl _) q2)
                have := VR.slice (ι := nmSet ι σ.nx ⟨w.drew.heap.size, 0, cc.size, 0⟩) σ.nx 0 (n'' + 1) none esz _ ⟨w.drew.heap.size, 0, none⟩ cap (nmSet_self _ _ _) rfl (fun _ h => by cases h) (by omega) (fun _ => rfl) (by simpa using j4)
                rw [Nat.zero_add]
                exact this
              · cases h
            · rename_i p o len cap es hsl
              split at h
              · rename_i hb
                simp only [Bool.and_eq_true] at hb
                have hes : es = esz := Nat.eq_of_beq_eq_true hb.1
                subst hes
                have hb := bound_le hb.2
                have hb : (len + (n'' + 1)) * bts ≤ 1099511627776 ∧ len + (n'' + 1) ≤ 1099511627776 := hb
                rw [hsl] at hsv
                split at h
                · -- it is known how much it may hold
                  rename_i c
                  split at h
                  · rename_i hroom
                    have hroom : len + (n'' + 1) ≤ c := ble_le hroom
                    split at h
                    · rename_i l kin fz ro hg
                      split at h
                      · rename_i hw
                        obtain ⟨rfl, rfl, hle⟩ := wr_inv hw
                        have hle := ble_le hle
                        rw [llen_eq] at hle
                        have hle : o + (len + (n'' + 1)) * es ≤ l.length := hle
                        rw [Nat.add_mul] at hle
                        simp only [Option.some.injEq, Prod.mk.injEq] at h
                        obtain ⟨rfl, rfl⟩ := h
                        obtain ⟨pl, a, c1, k1, k2, k3, k4, k5, k6, k7⟩ := hsv.slice_inv
                        have := k3 c rfl
                        subst this
                        have k5 := k5 (by omega)
                        subst k5
                        rw [k7] at fin
                        obtain ⟨pl0, c0, e0, g1, g2, g3, g4, g5, g6⟩ := R.ob p _ hg
                        rw [k1] at g1; cases g1
                        have e1 := K.size
                        subst e1
                        have hnl : nw'.length = (n'' + 1) * i.size := hs.newsLen
                        have hnl' := hn.1
                        have hrun := run_append_room_src (P := P) w t tx ty e i K.ht K.hi pl.blk (pl.st + o) len c1 (b.eval x') (n'' + 1) nw' hs hroom
                          (fun j hj => by
                            have : pl.st + o + len * i.size + j < c0.size := by omega
                            rw [cell?_blk g3]; simp [this])
                          (fun j hj => frozen_blk g3 _)
                        have hset := setCells_upd nw' w pl.blk (pl.st + o + len * i.size) c0 e0 g3 (by omega)
                        obtain ⟨q1, q2⟩ := R.put (N := σ.nx.nat) hg k1 (o := o + len * i.size) hn (by omega)
                        have heq : pl.st + o + len * i.size = pl.st + (o + len * i.size) := by omega
                        rw [hset, heq] at hrun
                        refine fin hrun ?_ q1 q2
                        exact .slice p o _ (some c1) i.size pl _ c1 k1 k2 (fun m hm => by cases hm; rfl) hroom (fun _ => rfl) k6
                      · cases h
                    · cases h
                  · rename_i hroom
                    have hroom : ¬ len + (n'' + 1) ≤ c := fun hh => by
                      have : Nat.ble (len.add (n'' + 1)) c = true := Nat.ble_eq_true_of_le hh
                      rw [this] at hroom; cases hroom
                    split at h
                    · rename_i olds hold
                      simp only [Option.some.injEq, Prod.mk.injEq] at h
                      obtain ⟨rfl, rfl⟩ := h
                      obtain ⟨a, len2, c2, l', j1, j2, j3, j4, j5, j6⟩ := sliceCells_sound R hsv hold
                      simp only [lenOfV] at j6
                      subst j6
                      obtain ⟨pl, a', c1, k1, k2, k3, k4, k5, k6, k7⟩ := hsv.slice_inv
                      have := k3 c rfl
                      subst this
                      rw [k7] at j1
                      simp only [Value.slice.injEq] at j1
                      obtain ⟨rfl, _, rfl⟩ := j1
                      rw [k7] at fin
                      have hf : (Builtin.firstCells es len2 (.slice (some a') len2 c1)).run P w.drew = .ok l'.toArray w.drew := run_firstCells_some w.drew es len2 a' len2 c1 l' j3 (fun j u hu => j4 a' rfl j u hu)
                      obtain ⟨cc, cap, m1, m2, m3, m4, m5⟩ := grow_sound R K (ty := ty) hf j2 j3 hs hn (by omega) hb
                      obtain ⟨q1, q2⟩ := R.drew.newCells (l := olds ++ news) (c := cc) e m2 m3
                      rw [lapp_eq] at *
                      refine fin m1 ?_ q1 ((G.drew _ ι σ w).trans (Nat.le_refl _) q2)
                      have := VR.slice (ι := nmSet ι σ.nx ⟨w.drew.heap.size, 0, cc.size, 0⟩) σ.nx 0 (len2 + (n'' + 1)) none es _ ⟨w.drew.heap.size, 0, none⟩ cap (nmSet_self _ _ _) rfl (fun _ h => by cases h) m5 (fun _ => rfl) (by simpa using m4)
                      exact this
                    · cases h
                · -- it is not
                  split at h
                  · rename_i l kin fz ro hg
                    split at h
                    · rename_i hw
                      obtain ⟨rfl, rfl, hle⟩ := wr_inv hw
                      have hle := ble_le hle
                      rw [llen_eq] at hle
                      have hle : o + len * es ≤ l.length := hle
                      split at h
                      · rename_i hex
                        have hex : o + len * es = l.length := by have := Nat.eq_of_beq_eq_true hex; rw [llen_eq] at this; exact this
                        simp only [Option.some.injEq, Prod.mk.injEq] at h
                        obtain ⟨rfl, rfl⟩ := h
                        obtain ⟨ι', w', v', m1, m2, m3, m4⟩ := app_unknown R K (ty := ty) hg hex hsv hs hn hpl (by omega) hb
                        rw [lapp_eq, ldrop_eq] at *
                        exact fin m1 m2 m3 m4
                      · simp only [Option.some.injEq, Prod.mk.injEq] at h
                        obtain ⟨rfl, rfl⟩ := h
                        obtain ⟨pl, a', c1, k1, k2, k3, k4, k5, k6, k7⟩ := hsv.slice_inv
                        have hlt : (l.take (o + len * es)).length = o + len * es := by simp; omega
                        obtain ⟨q1, q2⟩ := R.store (N := σ.nx.nat) hg k1 (l' := l.take (o + len * es)) (f := id) (by omega) (fun _ _ => rfl) (fun c hc hl hcc i x y hix hiy => by
                          rw [List.getElem?_take] at hix
                          split at hix
                          · exact hcc i x y hix hiy
                          · cases hix)
                        rw [upd_id] at q1 q2
                        obtain ⟨ι', w', v', m1, m2, m3, m4⟩ := app_unknown q1 K (ty := ty) (p := p) (o := o) (len := len) (l := l.take (o + len * es)) (kin := []) (by rw [T.get_set, if_pos rfl]) hlt.symm hsv hs hn hpl (by omega) hb
                        rw [lapp_eq, ldrop_eq, ltake_eq] at *
                        simp only [T.set_set] at m3 m4
                        exact fin m1 m2 m3 (q2.trans (Nat.le_refl _) m4)
                    · cases h
                  · cases h
              · cases h
            · cases h
          · cases h
      · cases h
    · cases hok
  · cases hok
end
end Go.Proofs.YtcecdaeceipbnaaGreatDoor

/-
  The operations that write or make memory: the model does the same; maps, new slices, copies. (Of no program.)
-/
namespace Go.Proofs.YtcecdaeceipbnaaGreatDoor
set_option linter.unusedVariables false
set_option linter.unusedSimpArgs false
set_option linter.unusedSectionVars false
open Go

section
variable {P : Program} {E : Env P}
/-- a new map -/
theorem Rep.newMap {ι : Nm} {σ : St} {w : World} (R : Rep ι σ w) (ks : KSh) :
    Rep (nmSet ι σ.nx ⟨w.heap.size, 0, 0, 1⟩) ⟨T.set (.map [] 0 ks) σ.nx σ.h, σ.nx.succ⟩ (w.alloc (.map #[] 0)) ∧
    G σ.nx.nat ι σ w (nmSet ι σ.nx ⟨w.heap.size, 0, 0, 1⟩) ⟨T.set (.map [] 0 ks) σ.nx σ.h, σ.nx.succ⟩ (w.alloc (.map #[] 0)) := by
  obtain ⟨h1, h2⟩ := R.fresh
  have hn := Pos.succ_nat σ.nx
  refine R.push (nx := σ.nx.succ) h1 h2 (by omega) (by omega) (fun q hq => by cases hq) ?_ ?_ (Nat.le_refl _)
  · exact ⟨_, #[], nmSet_self _ _ _, rfl, by rw [heap_alloc_if, if_pos rfl], rfl, (fun i x y h => by simp at h), (fun i x h => by simp at h), (fun i j x y h => by simp at h)⟩
  · exact ⟨(fun h => by cases h), (fun _ => ⟨#[], 0, by rw [heap_alloc_if, if_pos rfl]⟩), (fun h => by cases h), (fun h => by cases h), (by show 1 ≤ 3; omega)⟩
theorem e_mkm (ks : KSh) : ESound E (.mkm ks) := by
  intro n ι A b σ σ' w o v F L R hok h
  obtain ⟨d, op, ty, pos, af, g⟩ := o
  cases op <;> simp only [okE, Bool.false_eq_true, Bool.and_eq_true] at hok
  rename_i t r
  obtain ⟨h1, h2⟩ := hok
  simp only [eev, Option.some.injEq, Prod.mk.injEq] at h
  obtain ⟨rfl, rfl⟩ := h
  obtain ⟨q1, q2⟩ := R.newMap ks
  refine ⟨_, _, Or.inl ⟨.map (some w.heap.size), exv2 (s := Instr.makeMap t (r.map b.eval)) rfl ?_, .map _ _ (nmSet_self _ _ _) rfl⟩, q1, q2⟩
  split at h2
  · rename_i k e hu
    split at h1
    · simp only [Option.map_none, Instr.makeMap, newObj, Sem.run_bind, Sem.run, Result.andThen, Sem.run_pure]; rfl
    · simp only [Option.map_some, Act.eval, Instr.makeMap, Sem.run_bind, run_underlying hu, Result.andThen_ok, asInt, asIntOf, Sem.run_pure, newObj, Sem.run, Result.andThen]; rfl
    · cases h1
  · cases h2
theorem lrep_eq (z : List V) (n : Nat) : lrep z n = (List.replicate n z).flatten := by
  induction n with
  | zero => rfl
  | succ n ih => show lapp z (lrep z n) = _; rw [lapp_eq, ih, List.replicate_succ, List.flatten_cons]
theorem zero_row {ι : Nm} {z : List V} {zv : Value} (hz : VRs ι z zv.cells.toList) (c : Nat) (hpos : 0 < z.length) : VRs ι (lrep z c) ((Array.range (c * z.length)).map (zv.cells[· % zv.cells.size]!)).toList := by
  have hsz : zv.cells.size = z.length := by have := hz.1; simp at this; omega
  rw [lrep_eq]
  refine ⟨by simp, fun i x y hx hy => ?_⟩
  simp only [Array.toList_map, List.getElem?_map] at hy
  have hx' : z[i % z.length]? = some x := by
    clear hy
    induction c generalizing i with
    | zero => simp at hx
    | succ c ih =>
      rw [List.replicate_succ, List.flatten_cons] at hx
      by_cases hi : i < z.length
      · rw [List.getElem?_append_left hi] at hx
        rw [Nat.mod_eq_of_lt hi]; exact hx
      · rw [List.getElem?_append_right (by omega)] at hx
        have := ih (i - z.length) hx
        rw [Nat.mod_eq_sub_mod (by omega)]
        exact this
  have hlt : i < c * z.length := by
    have := (List.getElem?_eq_some_iff.1 hx).1
    simpa using this
  have hr : (Array.range (c * z.length)).toList[i]? = some i := by simp [hlt]
  rw [hr] at hy
  simp only [Option.map_some, Option.some.injEq] at hy
  subst hy
  rw [hsz]
  have hm := Nat.mod_lt i hpos
  have hlt2 : i % z.length < zv.cells.size := by omega
  refine hz.2 (i % z.length) x _ hx' ?_
  rw [Array.getElem?_toList, Array.getElem?_eq_getElem hlt2]
  congr 1
  exact (getElem!_pos zv.cells _ hlt2).symm
theorem e_mks (len cap : Arg) (z : List V) (esz bts : Nat) : ESound E (.mks len cap z esz bts) := by
  intro n ι A b σ σ' w o v F L R hok h
  obtain ⟨d, op, ty, pos, af, g⟩ := o
  cases op <;> simp only [okE, Bool.false_eq_true, Bool.and_eq_true] at hok
  rename_i t l' c'
  obtain ⟨⟨h1, h2⟩, h3⟩ := hok
  split at h3
  · rename_i e hu
    simp only [Bool.and_eq_true, beq_iff_eq, decide_eq_true_eq] at h3
    obtain ⟨⟨⟨⟨h4, h5⟩, h6⟩, h7⟩, h8⟩ := h3
    obtain ⟨zv, hz, hzv⟩ := zeroB_inv h6
    simp only [eev] at h
    split at h
    · rename_i k l hl
      split at h
      · rename_i k2 c hc
        split at h
        · rename_i l1 hl1
          split at h
          · rename_i c1 hc1
            split at h
            · rename_i hle
              obtain ⟨hle1, hle2⟩ := and_ble hle
              simp only [Option.some.injEq, Prod.mk.injEq] at h
              obtain ⟨rfl, rfl⟩ := h
              have e1 := natOf_inv hl1
              have e2 := natOf_inv hc1
              subst e1; subst e2
              obtain ⟨k3, _⟩ := (ev_as F L h1 hl).int_inv
              obtain ⟨k4, _⟩ := (ev_as F L h2 hc).int_inv
              have hle2 : c1 * (bts + 1) ≤ 1099511627776 := hle2
              rw [Nat.mul_add] at hle2
              subst h7
              have hrow := zero_row (hzv ι) c1 h8
              obtain ⟨q1, q2⟩ := R.newCells (l := lrep z c1) (c := (Array.range (c1 * z.length)).map (zv.cells[· % zv.cells.size]!)) e (by rw [hrow.1, List.take_length]; exact hrow) (by have := hrow.1; simp at this; simp; omega)
              refine ⟨_, _, Or.inl ⟨.slice (some ⟨w.heap.size, 0, none⟩) l1 c1, exv2 (s := Instr.makeSlice t (b.eval l') (b.eval c')) rfl ?_, ?_⟩, q1, q2⟩
              · unfold bytesB at h5
                split at h5
                · rename_i i hi
                  have hb : i.bytes = bts := by simpa using h5
                  have hw : ∀ m : Nat, m ≤ 1099511627776 → IntKind.i64.wrap (m : Int) = m := fun m hm => wrap_id (by
                    unfold IntKind.has IntKind.min IntKind.max
                    simp only [IntKind.bits, IntKind.signed, if_true, p63]
                    omega)
                  have hw1 := hw l1 (by omega)
                  have hw2 := hw c1 (by omega)
                  have hbc : bts * c1 ≤ 1099511627776 := by rw [Nat.mul_comm]; omega
                  have hbci : ((bts : Int) * (c1 : Int)) ≤ 1099511627776 := by rw [← Int.natCast_mul]; omega
                  simp only [Instr.makeSlice, Sem.run_bind, run_underlying hu, Result.andThen_ok, k3, k4, asInt, asIntOf, Sem.run_pure, typeInfo, program, Sem.run, hi, hw1, hw2, hb]
                  have t1 : decide ((c1 : Int) < 0) = false := decide_eq_false (by omega)
                  have p48 : (2 : Int) ^ 48 = 281474976710656 := rfl
                  have t2 : decide ((bts : Int) * (c1 : Int) > 2 ^ 48) = false := decide_eq_false (by rw [p48]; omega)
                  have t3 : decide ((l1 : Int) < 0) = false := decide_eq_false (by omega)
                  have t4 : decide ((l1 : Int) > (c1 : Int)) = false := decide_eq_false (by omega)
                  clear p48
                  rw [t1, t2, t3, t4]
                  rw [if_neg (by decide)]
                  have hroom : askRoom ((c1 : Int).toNat * bts) = pure () := by
                    unfold askRoom roomBytes
                    rw [if_neg (by simp; omega)]
                  rw [hroom]
                  simp only [Sem.run_pure, Result.andThen_ok, Sem.run_bind, run_szB h4, Int.toNat_natCast]
                  by_cases hc0 : c1 = 0
                  · subst hc0
                    rw [if_pos (by simp)]
                    have e0 : ∀ f : Nat → Value, (Array.range (0 * z.length)).map f = #[] := fun f => by simp
                    simp only [Sem.run_bind, Sem.run_pure, Result.andThen_ok, newRow, newObj, Sem.run, Result.andThen, e0]
                    rfl
                  · have : ¬ c1 * z.length = 0 := Nat.mul_ne_zero hc0 (by omega)
                    rw [if_neg this]
                    simp only [Sem.run_bind, hz, Result.andThen_ok, Sem.run_pure, newRow, newObj, Sem.run, Result.andThen]
                    rfl
                · cases h5
              · have := VR.slice (ι := nmSet ι σ.nx ⟨w.heap.size, 0, ((Array.range (c1 * z.length)).map (zv.cells[· % zv.cells.size]!)).size, 0⟩) σ.nx 0 l1 (some c1) z.length _ ⟨w.heap.size, 0, none⟩ c1 (nmSet_self _ _ _) rfl (fun m hm => by cases hm; rfl) hle1 (fun _ => rfl) (by simp)
                exact this
            · cases h
          · cases h
        · cases h
      · cases h
    · cases h
  · cases h3
end
end Go.Proofs.YtcecdaeceipbnaaGreatDoor

/-
  The operations that write or make memory: the model does the same; keys laid, deleted, entered; copies; all of them. (Of no program.)
-/
namespace Go.Proofs.YtcecdaeceipbnaaGreatDoor
set_option linter.unusedVariables false
set_option linter.unusedSimpArgs false
set_option linter.unusedSectionVars false
open Go

theorem mset_get (k v : V) : ∀ (es : List ME) (i : Nat), (∀ (j : Nat) (x : ME), es[j]? = some x → (keyEq k x.k = true ↔ j = i)) → ∀ j : Nat, (mset k v es)[j]? = if j = i then (es[j]?).map (fun e => ⟨e.k, v, e.b⟩) else es[j]?
  | [], i, h, j => by
    have e : mset k v [] = [] := rfl
    rw [e]; split <;> simp
  | e :: es, i, h, j => by
    have e1 : mset k v (e :: es) = match keyEq k e.k with | true => ⟨e.k, v, e.b⟩ :: es | false => e :: mset k v es := rfl
    rw [e1]
    cases hk : keyEq k e.k with
    | true =>
      have : 0 = i := (h 0 e rfl).1 hk
      subst this
      cases j with
      | zero => simp
      | succ j => simp
    | false =>
      have hi : i ≠ 0 := fun hi => by
        have := (h 0 e rfl).2 hi.symm
        rw [hk] at this; cases this
      obtain ⟨i', rfl⟩ : ∃ i', i = i' + 1 := ⟨i - 1, by omega⟩
      cases j with
      | zero => simp
      | succ j =>
        have := mset_get k v es i' (fun j x hx => by
          have := h (j + 1) x (by simpa using hx)
          rw [this]; omega) j
        simp only [List.getElem?_cons_succ]
        rw [this]
        by_cases hji : j = i'
        · simp [hji]
        · simp [hji]
theorem mrem_eq (k : V) : ∀ (es : List ME) (i : Nat), i < es.length → (∀ (j : Nat) (x : ME), es[j]? = some x → (keyEq k x.k = true ↔ j = i)) → mrem k es = es.eraseIdx i
  | [], i, hi, h => by simp at hi
  | e :: es, i, hi, h => by
    have e1 : mrem k (e :: es) = match keyEq k e.k with | true => es | false => e :: mrem k es := rfl
    rw [e1]
    cases hk : keyEq k e.k with
    | true =>
      have : 0 = i := (h 0 e rfl).1 hk
      subst this
      rfl
    | false =>
      have hi0 : i ≠ 0 := fun hi => by
        have := (h 0 e rfl).2 hi.symm
        rw [hk] at this; cases this
      obtain ⟨i', rfl⟩ : ∃ i', i = i' + 1 := ⟨i - 1, by omega⟩
      have := mrem_eq k es i' (by simpa using hi) (fun j x hx => by
        have := h (j + 1) x (by simpa using hx)
        rw [this]; omega)
      simp [this]
theorem mrem_none (k : V) : ∀ (es : List ME), (∀ (j : Nat) (x : ME), es[j]? = some x → keyEq k x.k = false) → mrem k es = es
  | [], h => rfl
  | e :: es, h => by
    have e1 : mrem k (e :: es) = match keyEq k e.k with | true => es | false => e :: mrem k es := rfl
    rw [e1, h 0 e rfl, mrem_none k es (fun j x hx => h (j + 1) x (by simpa using hx))]
section
variable {ι : Nm} {ks : KSh} {es : List ME} {es' : Array MapEntry}
theorem MapR.other (M : MapR ι ks es es') {i : Nat} {e : ME} (h : es[i]? = some e) : ∃ e', es'[i]? = some e' := by
  have : i < es.length := (List.getElem?_eq_some_iff.1 h).1
  exact ⟨es'[i]'(by rw [← M.len]; exact this), by simp [← M.len, this]⟩
theorem MapR.iff (M : MapR ι ks es es') {k : V} {k' : Value} (hk : keyShaped ks k = true) (vk : VR ι k k') {i : Nat} {e : ME} (h : es[i]? = some e) (he : e.k = k) : ∀ (j : Nat) (x : ME), es[j]? = some x → (keyEq k x.k = true ↔ j = i) := by
  intro j x hx
  obtain ⟨x', hx'⟩ := M.other hx
  rw [(keyEq_sound hk (M.sh j x hx) vk (M.rel j x x' hx hx').1).1]
  constructor
  · intro e1
    exact M.inj j i x e hx h (e1.symm.trans he.symm)
  · rintro rfl
    rw [h] at hx; cases hx
    exact he.symm
theorem MapR.no (M : MapR ι ks es es') {k : V} {k' : Value} (hk : keyShaped ks k = true) (vk : VR ι k k') (h : ∀ e ∈ es, e.k ≠ k) : ∀ (j : Nat) (x : ME), es[j]? = some x → keyEq k x.k = false := by
  intro j x hx
  obtain ⟨x', hx'⟩ := M.other hx
  have := (keyEq_sound hk (M.sh j x hx) vk (M.rel j x x' hx hx').1).1
  cases hq : keyEq k x.k with
  | false => rfl
  | true => exact absurd (this.1 hq).symm (h x (List.mem_of_getElem? hx))
theorem MapR.set (M : MapR ι ks es es') {k v : V} {k' v' : Value} (hk : keyShaped ks k = true) (vk : VR ι k k') (vv : VR ι v v') {i : Nat} {e : ME} (h : es[i]? = some e) (he : e.k = k) :
    MapR ι ks (mset k v es) (es'.modify i fun e => { e with key := k', val := v' }) := by
  have hg := mset_get k v es i (M.iff hk vk h he)
  have hlen : (mset k v es).length = es.length := by
    apply Nat.le_antisymm
    · apply Classical.byContradiction
      intro hn
      have h1 : es.length < (mset k v es).length := by omega
      have h2 := hg es.length
      rw [List.getElem?_eq_getElem h1] at h2
      have h3 : es[es.length]? = Option.none := by simp
      rw [h3] at h2
      split at h2 <;> cases h2
    · apply Classical.byContradiction
      intro hn
      have h1 : (mset k v es).length < es.length := by omega
      have h2 := hg (mset k v es).length
      have h3 : (mset k v es)[(mset k v es).length]? = Option.none := by simp
      rw [h3, List.getElem?_eq_getElem h1] at h2
      split at h2 <;> cases h2
  refine ⟨by rw [hlen, M.len]; simp, fun j x y hx hy => ?_, fun j x hx => ?_, fun j l x y hx hy hxy => ?_⟩
  · rw [hg] at hx
    rw [Array.getElem?_modify] at hy
    by_cases hji : j = i
    · subst hji
      rw [if_pos rfl, h] at hx
      cases hx
      obtain ⟨e', he'⟩ := M.other h
      rw [if_pos rfl, he'] at hy
      cases hy
      have := M.rel j e e' h he'
      exact ⟨by rw [he]; exact vk, vv, this.2.2⟩
    · rw [if_neg hji] at hx
      rw [if_neg (fun e => hji e.symm)] at hy
      exact M.rel j x y hx hy
  · rw [hg] at hx
    by_cases hji : j = i
    · subst hji
      rw [if_pos rfl, h] at hx
      cases hx
      exact M.sh j e h
    · rw [if_neg hji] at hx
      exact M.sh j x hx
  · have key : ∀ (a : Nat) (z : ME), (mset k v es)[a]? = some z → ∃ z0 : ME, es[a]? = some z0 ∧ z0.k = z.k := by
      intro a z hz
      rw [hg] at hz
      split at hz
      · rename_i e1; subst e1
        rw [h] at hz; cases hz
        exact ⟨e, h, rfl⟩
      · exact ⟨z, hz, rfl⟩
    obtain ⟨x0, h1, h2⟩ := key j x hx
    obtain ⟨y0, h3, h4⟩ := key l y hy
    exact M.inj j l x0 y0 h1 h3 (by rw [h2, h4]; exact hxy)
theorem MapR.push (M : MapR ι ks es es') {k v : V} {k' v' : Value} (hk : keyShaped ks k = true) (vk : VR ι k k') (vv : VR ι v v') (hno : ∀ e ∈ es, e.k ≠ k) (ck : Nat) :
    MapR ι ks (es ++ [⟨k, v, ck⟩]) (es'.push { key := k', val := v', born := ck }) := by
  have hlen := M.len
  refine ⟨by simp [hlen], fun j x y hx hy => ?_, fun j x hx => ?_, fun j l x y hx hy hxy => ?_⟩
  · rw [Array.getElem?_push] at hy
    by_cases hj : j < es.length
    · rw [List.getElem?_append_left hj] at hx
      rw [if_neg (by omega)] at hy
      exact M.rel j x y hx hy
    · rw [List.getElem?_append_right (by omega)] at hx
      have : j - es.length = 0 := by
        have := (List.getElem?_eq_some_iff.1 hx).1
        simp at this; omega
      rw [this] at hx
      cases hx
      rw [if_pos (by omega)] at hy
      cases hy
      exact ⟨vk, vv, rfl⟩
  · by_cases hj : j < es.length
    · rw [List.getElem?_append_left hj] at hx
      exact M.sh j x hx
    · rw [List.getElem?_append_right (by omega)] at hx
      have : j - es.length = 0 := by
        have := (List.getElem?_eq_some_iff.1 hx).1
        simp at this; omega
      rw [this] at hx
      cases hx
      exact hk
  · have key : ∀ (a : Nat) (z : ME), (es ++ [⟨k, v, ck⟩])[a]? = some z → (a < es.length ∧ es[a]? = some z) ∨ (a = es.length ∧ z = ⟨k, v, ck⟩) := by
      intro a z hz
      by_cases ha : a < es.length
      · rw [List.getElem?_append_left ha] at hz
        exact Or.inl ⟨ha, hz⟩
      · rw [List.getElem?_append_right (by omega)] at hz
        have : a - es.length = 0 := by
          have := (List.getElem?_eq_some_iff.1 hz).1
          simp at this; omega
        rw [this] at hz
        cases hz
        exact Or.inr ⟨by omega, rfl⟩
    rcases key j x hx with ⟨h1, h2⟩ | ⟨h1, rfl⟩ <;> rcases key l y hy with ⟨h3, h4⟩ | ⟨h3, rfl⟩
    · exact M.inj j l x y h2 h4 hxy
    · exact absurd hxy (hno x (List.mem_of_getElem? h2))
    · exact absurd hxy.symm (hno y (List.mem_of_getElem? h4))
    · omega
theorem MapR.erase (M : MapR ι ks es es') {i : Nat} (hi : i < es.length) : MapR ι ks (es.eraseIdx i) (es'.eraseIdxIfInBounds i) := by
  have hlen := M.len
  have e' : (es'.eraseIdxIfInBounds i).toList = es'.toList.eraseIdx i := by
    unfold Array.eraseIdxIfInBounds
    rw [dif_pos (by omega), Array.toList_eraseIdx]
  have e2 : ∀ j : Nat, (es'.eraseIdxIfInBounds i)[j]? = if j < i then es'[j]? else es'[j + 1]? := fun j => by
    rw [← Array.getElem?_toList, e', List.getElem?_eraseIdx]
    simp
  refine ⟨?_, fun j x y hx hy => ?_, fun j x hx => ?_, fun j l x y hx hy hxy => ?_⟩
  · rw [← Array.length_toList, e', List.length_eraseIdx, List.length_eraseIdx]
    simp [hlen]
  · rw [List.getElem?_eraseIdx] at hx
    rw [e2] at hy
    split at hx
    · rename_i h; rw [if_pos h] at hy; exact M.rel j x y hx hy
    · rename_i h; rw [if_neg h] at hy; exact M.rel (j + 1) x y hx hy
  · rw [List.getElem?_eraseIdx] at hx
    split at hx
    · exact M.sh j x hx
    · exact M.sh (j + 1) x hx
  · rw [List.getElem?_eraseIdx] at hx hy
    split at hx <;> split at hy
    · exact M.inj j l x y hx hy hxy
    · have := M.inj j (l + 1) x y hx hy hxy; omega
    · have := M.inj (j + 1) l x y hx hy hxy; omega
    · have := M.inj (j + 1) (l + 1) x y hx hy hxy; omega
/-- a map is laid anew -/
theorem Rep.setMapOb {σ : St} {w : World} (R : Rep ι σ w) {p : Pos} {ck : Nat} (hg : T.get p σ.h = some (.map es ck ks)) {pl : Pl} (hpl : ι p = some pl) {es2 : List ME} {es2' : Array MapEntry} {ck2 : Nat} (M : MapR ι ks es2 es2') {N : Nat} :
    Rep ι ⟨T.set (.map es2 ck2 ks) p σ.h, σ.nx⟩ { w with heap := w.heap.setIfInBounds pl.blk (.map es2' ck2) } ∧ G N ι σ w ι ⟨T.set (.map es2 ck2 ks) p σ.h, σ.nx⟩ { w with heap := w.heap.setIfInBounds pl.blk (.map es2' ck2) } := by
  obtain ⟨pl0, es0, j1, j2, j3, _⟩ := R.ob p _ hg
  rw [hpl] at j1; cases j1
  have hlt : pl.blk < w.heap.size := (Array.getElem?_eq_some_iff.1 j3).1
  have hnew : (w.heap.setIfInBounds pl.blk (.map es2' ck2))[pl.blk]? = some (.map es2' ck2) := by simp [hlt]
  refine R.setOb (ob := .map es2 ck2 ks) (ro := .map es2' ck2) hg rfl rfl rfl rfl hpl ⟨pl, es2', hpl, j2, hnew, M.len, M.rel, M.sh, M.inj⟩ ?_
  intro pq hb hk
  obtain ⟨k0, k1, k2, k4, k3⟩ := hk
  refine ⟨fun h0 => ?_, fun h0 => ?_, fun h0 => ?_, fun h0 => ?_, k3⟩
  · obtain ⟨c', e', h1, _⟩ := k0 h0
    rw [hb, j3] at h1; cases h1
  · exact ⟨es2', ck2, by rw [hb]; exact hnew⟩
  · obtain ⟨c', e', x, y, h1⟩ := k2 h0
    rw [hb, j3] at h1; cases h1
  · obtain ⟨c', e', h1⟩ := k4 h0
    rw [hb, j3] at h1; cases h1
end
theorem setIf_same {w : World} {b : Nat} {o : Obj} (h : w.heap[b]? = some o) : ({ w with heap := w.heap.setIfInBounds b o } : World) = w := by
  have : w.heap.setIfInBounds b o = w.heap := by
    apply Array.ext_getElem?
    intro i
    rw [Array.getElem?_setIfInBounds]
    split
    · rename_i e; subst e; rw [h]; simp; exact (Array.getElem?_eq_some_iff.1 h).1
    · rfl
  rw [this]
theorem T_set_same {α : Type} (x : α) : ∀ (p : Pos) (t : T α), T.get p t = some x → T.set x p t = t := by
  intro p
  induction p with
  | H => intro t h; cases t with
    | nil => cases h
    | node l v r => have : v = some x := h; subst this; rfl
  | O p ih => intro t h; cases t with
    | nil => cases h
    | node l v r => rw [T.set_Oc, ih l h]
  | I p ih => intro t h; cases t with
    | nil => cases h
    | node l v r => rw [T.set_Ic, ih r h]
section
variable {P : Program} {E : Env P}
theorem upd_map {ι : Nm} {σ : St} {w : World} (R : Rep ι σ w) {t kt et : TypeId} (hu : P.underlying t = some (.map kt et)) {ks : KSh} (K : MapK P kt ks) {p : Pos} {es : List ME} {ck : Nat} (hg : T.get p σ.h = some (.map es ck ks)) {k v : V} {k' v' m' : Value}
    (hk : keyShaped ks k = true) (vk : VR ι k k') (vv : VR ι v v') (hm : VR ι (.map p) m') {σ' : St}
    (h : (match mfind k es with | some _ => some (V.u, (⟨T.set (.map (mset k v es) ck ks) p σ.h, σ.nx⟩ : St)) | none => some (V.u, ⟨T.set (.map (lapp es [⟨k, v, ck⟩]) (Nat.add ck 1) ks) p σ.h, σ.nx⟩)) = some (V.u, σ')) :
    ∃ w', (Instr.mapUpdate t m' k' v').run P w = .ok () w' ∧ Rep ι σ' w' ∧ G σ.nx.nat ι σ w ι σ' w' := by
  obtain ⟨pl, k1, k2, rfl⟩ := hm.map_inv
  obtain ⟨pl', es', j1, j2, j3, j4, j5, j6, j7⟩ := R.ob p _ hg
  rw [k1] at j1; cases j1
  have M : MapR ι ks es es' := ⟨j4, j5, j6, j7⟩
  have hget : (getObj pl.blk).run P w = .ok (.map es' ck) w := by simp [getObj, Sem.run, j3]
  have hset : ∀ o : Obj, (setObj pl.blk o).run P w = .ok () { w with heap := w.heap.setIfInBounds pl.blk o } := fun o => by simp [setObj, Sem.run, j3]
  have hsh := keyShaped_sound hk vk
  rcases M.find K hk vk w with ⟨h5, h6, h7⟩ | ⟨i, e, e', h5, h6, h7, h8, h9, h10⟩
  · rw [h5] at h
    simp only [Option.some.injEq, Prod.mk.injEq, true_and] at h
    subst h
    rw [lapp_eq]
    obtain ⟨q1, q2⟩ := R.setMapOb hg k1 (ck2 := ck + 1) (M.push hk vk vv h7 ck) (N := σ.nx.nat)
    refine ⟨_, ?_, q1, q2⟩
    simp [Instr.mapUpdate, run_underlying hu, hget, K.check w false k' hsh, h6, hset]
  · rw [h5] at h
    simp only [Option.some.injEq, Prod.mk.injEq, true_and] at h
    subst h
    obtain ⟨q1, q2⟩ := R.setMapOb hg k1 (ck2 := ck) (M.set hk vk vv h6 h8) (N := σ.nx.nat)
    refine ⟨_, ?_, q1, q2⟩
    simp [Instr.mapUpdate, run_underlying hu, hget, K.check w false k' hsh, h10, hset, h7, h9, K.stays w k' hsh]
theorem e_mup (m k v : Arg) (ks : KSh) : ESound E (.mup m k v ks) := by
  intro n ι A b σ σ' w o vv F L R hok h
  obtain ⟨d, op, ty, pos, af, g⟩ := o
  simp only [eev] at h
  split at h
  · rename_i hsh
    split at h
    · rename_i p hm
      split at h
      · rename_i es ck ks' hg
        split at h
        · rename_i hks
          have hks : ks' = ks := of_decide_eq_true hks
          subst hks
          have hv : vv = .u := by split at h <;> cases h <;> rfl
          subst hv
          cases op <;> simp only [okE, Bool.false_eq_true, Bool.and_eq_true] at hok
          all_goals
            rename_i t m' k' v'
            obtain ⟨⟨⟨h1, h2⟩, h3⟩, h4⟩ := hok
            split at h4
            · rename_i kt et hu
              have K := E.mgood _ (by simpa using h4)
              obtain ⟨w', r1, r2, r3⟩ := upd_map (t := t) R hu K hg hsh (ev_sound F L h2) (ev_sound F L h3) (ev_as F L h1 hm) h
              exact ⟨ι, w', Or.inr ⟨exu (s := Instr.mapUpdate t (b.eval m') (b.eval k') (b.eval v')) rfl r1, rfl⟩, r2, r3⟩
            · cases h4
        · cases h
      · cases h
    · cases h
  · cases h
theorem e_mdl (m k : Arg) (ks : KSh) : ESound E (.mdl m k ks) := by
  intro n ι A b σ σ' w o vv F L R hok h
  obtain ⟨d, op, ty, pos, af, g⟩ := o
  cases op <;> simp only [okE, Bool.false_eq_true] at hok
  rename_i cc
  obtain ⟨cal, args, ats⟩ := cc
  split at hok
  · rename_i c' a1 a2 he
    cases he
    split at hok
    · rename_i m' k' t rest ha ht
      simp only [Bool.and_eq_true] at hok
      obtain ⟨⟨h1, h2⟩, h3⟩ := hok
      split at h3
      · rename_i kt et hu
        have K := E.mgood _ (by simpa using h3)
        have h0 : ats[0]? = some t := by
          have : ats.toList[0]? = some t := by rw [ht]; rfl
          simpa using this
        simp only [eev] at h
        split at h
        · rename_i hsh
          have vk := ev_sound F L h2
          have hs2 := keyShaped_sound hsh vk
          split at h
          · rename_i hm
            simp only [Option.some.injEq, Prod.mk.injEq] at h
            obtain ⟨rfl, rfl⟩ := h
            have k2 := (ev_as F L h1 hm).nilm_inv
            refine ⟨ι, w, Or.inl ⟨.tuple #[], extwo (f := Builtin.delete_) (fun _ _ _ _ => rfl) ha ?_, .mk_tup .nil⟩, R, G.refl _ _ _ _⟩
            rw [k2]
            simp [Builtin.delete_, h0, run_underlying hu, K.check w true _ hs2]
          · rename_i p hm
            split at h
            · rename_i es ck ks' hg
              split at h
              · rename_i hks
                have hks : ks' = ks := of_decide_eq_true hks
                subst hks
                simp only [Option.some.injEq, Prod.mk.injEq] at h
                obtain ⟨rfl, rfl⟩ := h
                obtain ⟨pl, k1, k2, k3⟩ := (ev_as F L h1 hm).map_inv
                obtain ⟨pl', es', j1, j2, j3, j4, j5, j6, j7⟩ := R.ob p _ hg
                rw [k1] at j1; cases j1
                have M : MapR ι ks' es es' := ⟨j4, j5, j6, j7⟩
                have hget : (getObj pl.blk).run P w = .ok (.map es' ck) w := by simp [getObj, Sem.run, j3]
                have hset : ∀ o : Obj, (setObj pl.blk o).run P w = .ok () { w with heap := w.heap.setIfInBounds pl.blk o } := fun o => by simp [setObj, Sem.run, j3]
                rcases M.find K hsh vk w with ⟨h5, h6, h7⟩ | ⟨i, e, e', h5, h6, h7, h8, h9, h10⟩
                · rw [mrem_none _ _ (M.no hsh vk h7), T_set_same _ _ _ hg]
                  refine ⟨ι, w, Or.inl ⟨.tuple #[], extwo (f := Builtin.delete_) (fun _ _ _ _ => rfl) ha ?_, .mk_tup .nil⟩, R, G.refl _ _ _ _⟩
                  rw [k3]
                  simp [Builtin.delete_, h0, run_underlying hu, hget, K.check w _ _ hs2, h6, hset, setIf_same j3]
                · have hlt : i < es.length := (List.getElem?_eq_some_iff.1 h6).1
                  rw [mrem_eq _ _ i hlt (M.iff hsh vk h6 h8)]
                  obtain ⟨q1, q2⟩ := R.setMapOb hg k1 (ck2 := ck) (M.erase hlt) (N := σ.nx.nat)
                  refine ⟨ι, _, Or.inl ⟨.tuple #[], extwo (f := Builtin.delete_) (fun _ _ _ _ => rfl) ha ?_, .mk_tup .nil⟩, q1, q2⟩
                  rw [k3]
                  simp [Builtin.delete_, h0, run_underlying hu, hget, K.check w _ _ hs2, h10, hset]
              · cases h
            · cases h
          · cases h
        · cases h
      · cases h3
    · cases hok
  · cases hok
end
end Go.Proofs.YtcecdaeceipbnaaGreatDoor

/-
  The operations that write or make memory: the model does the same; entries, copies; all of them. (Of no program.)
-/
namespace Go.Proofs.YtcecdaeceipbnaaGreatDoor
set_option linter.unusedVariables false
set_option linter.unusedSimpArgs false
set_option linter.unusedSectionVars false
open Go

theorem modify_same {α : Type} (a : Array α) (i : Nat) (f : α → α) (h : ∀ x, a[i]? = some x → f x = x) : a.modify i f = a := by
  apply Array.ext_getElem?
  intro j
  rw [Array.getElem?_modify]
  split
  · rename_i e; subst e
    cases hx : a[i]? with
    | none => rfl
    | some x => rw [Option.map_some, h x hx]
  · rfl
theorem bset_spec (b : Nat) (v : V) : ∀ (es es2 : List ME), bset b v es = some es2 → ∃ (i : Nat) (e : ME), es[i]? = some e ∧ e.b = b ∧ (∀ (j : Nat) (x : ME), j < i → es[j]? = some x → x.b ≠ b) ∧ es2 = es.set i ⟨e.k, v, e.b⟩
  | [], es2, h => by
    have e : bset b v [] = none := rfl
    rw [e] at h; cases h
  | e :: es, es2, h => by
    have e1 : bset b v (e :: es) = match Nat.beq e.b b with | true => some (⟨e.k, v, e.b⟩ :: es) | false => (match bset b v es with | some r => some (e :: r) | none => none) := rfl
    rw [e1, nbeq_eq] at h
    split at h
    · rename_i hb
      have hb : e.b = b := of_decide_eq_true hb
      cases h
      exact ⟨0, e, rfl, hb, (fun j x hj => absurd hj (Nat.not_lt_zero j)), rfl⟩
    · rename_i hb
      have hb : ¬ e.b = b := of_decide_eq_false hb
      split at h
      · rename_i r hr
        cases h
        obtain ⟨i, x, h1, h2, h3, h4⟩ := bset_spec b v es r hr
        refine ⟨i + 1, x, by simpa using h1, h2, fun j y hj hy => ?_, by rw [h4]; rfl⟩
        cases j with
        | zero => simp at hy; subst hy; exact hb
        | succ j => exact h3 j y (by omega) (by simpa using hy)
      · cases h
theorem MapR.setVal {ι : Nm} {ks : KSh} {es : List ME} {es' : Array MapEntry} (M : MapR ι ks es es') {v : V} {v' : Value} (vv : VR ι v v') {i : Nat} {e : ME} (h : es[i]? = some e) :
    MapR ι ks (es.set i ⟨e.k, v, e.b⟩) (es'.modify i fun e => { e with val := v' }) := by
  have hlt : i < es.length := (List.getElem?_eq_some_iff.1 h).1
  have hg : ∀ j : Nat, (es.set i ⟨e.k, v, e.b⟩)[j]? = if i = j then some ⟨e.k, v, e.b⟩ else es[j]? := fun j => by
    rw [List.getElem?_set]
    by_cases e1 : i = j
    · subst e1; simp [hlt]
    · simp [e1]
  refine ⟨by simp [M.len], fun j x y hx hy => ?_, fun j x hx => ?_, fun j l x y hx hy hxy => ?_⟩
  · rw [hg] at hx
    rw [Array.getElem?_modify] at hy
    split at hx
    · rename_i e1; subst e1
      cases hx
      rw [if_pos rfl] at hy
      obtain ⟨e', he'⟩ := M.other h
      rw [he'] at hy
      cases hy
      have := M.rel i e e' h he'
      exact ⟨this.1, vv, this.2.2⟩
    · rename_i e1
      rw [if_neg e1] at hy
      exact M.rel j x y hx hy
  · rw [hg] at hx
    split at hx
    · cases hx; exact M.sh i e h
    · exact M.sh j x hx
  · have key : ∀ (a : Nat) (z : ME), (es.set i ⟨e.k, v, e.b⟩)[a]? = some z → ∃ z0 : ME, es[a]? = some z0 ∧ z0.k = z.k := by
      intro a z hz
      rw [hg] at hz
      split at hz
      · rename_i e1; subst e1
        cases hz
        exact ⟨e, h, rfl⟩
      · exact ⟨z, hz, rfl⟩
    obtain ⟨x0, h1, h2⟩ := key j x hx
    obtain ⟨y0, h3, h4⟩ := key l y hy
    exact M.inj j l x0 y0 h1 h3 (by rw [h2, h4]; exact hxy)
theorem i64_has {n : Nat} (h : n ≤ 1152921504606846976) : IntKind.i64.has (n : Int) := by
  unfold IntKind.has IntKind.min IntKind.max
  simp only [IntKind.bits, IntKind.signed, if_true, p63]
  omega
section
variable {P : Program} {E : Env P}
theorem e_men (m k : Arg) (ks : KSh) (z : V) : ESound E (.men m k ks z) := by
  intro n ι A b σ σ' w o vv F L R hok h
  obtain ⟨d, op, ty, pos, af, g⟩ := o
  cases op <;> simp only [okE, Bool.false_eq_true, Bool.and_eq_true] at hok
  rename_i t m' k'
  obtain ⟨⟨h1, h2⟩, h3⟩ := hok
  split at h3
  · rename_i kt et hu
    simp only [Bool.and_eq_true] at h3
    have K := E.mgood _ (show (kt, ks) ∈ E.mk_ by simpa using h3.1)
    obtain ⟨zv, hz, hzv⟩ := zeroV_inv h3.2
    simp only [eev] at h
    split at h
    · rename_i hsh
      have vk := ev_sound F L h2
      have hs2 := keyShaped_sound hsh vk
      split at h
      · rename_i p hm
        split at h
        · rename_i es ck ks' hg
          split at h
          · rename_i hks
            have hks : ks' = ks := of_decide_eq_true hks
            subst hks
            split at h
            · rename_i hck
              have hck := i64_has (ble_le hck)
              obtain ⟨pl, k1, k2, k3⟩ := (ev_as F L h1 hm).map_inv
              obtain ⟨pl', es', j1, j2, j3, j4, j5, j6, j7⟩ := R.ob p _ hg
              rw [k1] at j1; cases j1
              have M : MapR ι ks' es es' := ⟨j4, j5, j6, j7⟩
              have hget : (getObj pl.blk).run P w = .ok (.map es' ck) w := by simp [getObj, Sem.run, j3]
              have hset : ∀ o : Obj, (setObj pl.blk o).run P w = .ok () { w with heap := w.heap.setIfInBounds pl.blk o } := fun o => by simp [setObj, Sem.run, j3]
              rcases M.find K hsh vk w with ⟨h5, h6, h7⟩ | ⟨i, e, e', h5, h6, h7, h8, h9, h10⟩
              · rw [h5] at h
                simp only [Option.some.injEq, Prod.mk.injEq] at h
                obtain ⟨rfl, rfl⟩ := h
                rw [lapp_eq]
                obtain ⟨q1, q2⟩ := R.setMapOb hg k1 (ck2 := ck + 1) (M.push hsh vk (hzv ι) h7 ck) (N := σ.nx.nat)
                refine ⟨ι, _, Or.inl ⟨.tuple #[zv, .int .i64 (ck : Int)], exv2 (s := Instr.mapEntry t (b.eval m') (b.eval k')) rfl ?_, .mk_tup (.cons (hzv ι) (.cons (.int _ _ hck) .nil))⟩, q1, q2⟩
                rw [k3]
                simp [Instr.mapEntry, run_underlying hu, hget, K.check w false _ hs2, h6, hz, hset, goInt]
              · rw [h5] at h
                simp only at h
                split at h
                · rename_i hb
                  have hb := i64_has (ble_le hb)
                  simp only [Option.some.injEq, Prod.mk.injEq] at h
                  obtain ⟨rfl, rfl⟩ := h
                  have hr := M.rel i e e' h6 h7
                  have hborn : e.b = e'.born := hr.2.2
                  refine ⟨ι, w, Or.inl ⟨.tuple #[e'.val, .int .i64 (e.b : Int)], exv2 (s := Instr.mapEntry t (b.eval m') (b.eval k')) rfl ?_, .mk_tup (.cons hr.2.1 (.cons (.int _ _ hb) .nil))⟩, R, G.refl _ _ _ _⟩
                  have hmod : es'.modify i (fun e => { e with key := b.eval k' }) = es' := modify_same _ _ _ fun x hx => by
                    rw [h7] at hx; cases hx
                    rw [← h9]
                  rw [k3]
                  simp [Instr.mapEntry, run_underlying hu, hget, K.check w false _ hs2, h10, h7, h9, K.stays w _ hs2, hset, goInt, hmod, setIf_same j3, hborn]
                · cases h
            · cases h
          · cases h
        · cases h
      · cases h
    · cases h
  · cases h3
theorem e_mes (m s v : Arg) : ESound E (.mes m s v) := by
  intro n ι A b σ σ' w o vv F L R hok h
  obtain ⟨d, op, ty, pos, af, g⟩ := o
  cases op <;> simp only [okE, Bool.false_eq_true, Bool.and_eq_true] at hok
  rename_i t m' s' v'
  obtain ⟨⟨h1, h2⟩, h3⟩ := hok
  simp only [eev] at h
  split at h
  · rename_i p hm
    split at h
    · rename_i es ck ks hg
      split at h
      · rename_i k bi hs
        split at h
        · rename_i bn hb
          have := natOf_inv hb
          subst this
          split at h
          · rename_i es2 hes2
            simp only [Option.some.injEq, Prod.mk.injEq] at h
            obtain ⟨rfl, rfl⟩ := h
            obtain ⟨pl, k1, k2, k3⟩ := (ev_as F L h1 hm).map_inv
            obtain ⟨k4, _⟩ := (ev_as F L h2 hs).int_inv
            obtain ⟨pl', es', j1, j2, j3, j4, j5, j6, j7⟩ := R.ob p _ hg
            rw [k1] at j1; cases j1
            have M : MapR ι ks es es' := ⟨j4, j5, j6, j7⟩
            have hget : (getObj pl.blk).run P w = .ok (.map es' ck) w := by simp [getObj, Sem.run, j3]
            have hset : ∀ o : Obj, (setObj pl.blk o).run P w = .ok () { w with heap := w.heap.setIfInBounds pl.blk o } := fun o => by simp [setObj, Sem.run, j3]
            obtain ⟨i, e, g1, g2, g3, rfl⟩ := bset_spec bn _ es es2 hes2
            obtain ⟨q1, q2⟩ := R.setMapOb hg k1 (ck2 := ck) (M.setVal (ev_sound F L h3) g1) (N := σ.nx.nat)
            have hfi : es'.findIdx? (fun e => (e.born : Int) == (bn : Int)) = some i := by
              have hlt : i < es.length := (List.getElem?_eq_some_iff.1 g1).1
              have hb : ∀ (j : Nat) (hj : j < es'.size), (es'[j].born : Nat) = (es[j]'(by rw [M.len]; exact hj)).b := fun j hj =>
                (M.rel j _ _ (by simp) (by simp [hj])).2.2.symm
              rw [Array.findIdx?_eq_some_iff_getElem]
              refine ⟨by rw [← M.len]; exact hlt, ?_, fun j hj => ?_⟩
              · have h6 : es[i] = e := (List.getElem?_eq_some_iff.1 g1).2
                rw [hb i (by rw [← M.len]; exact hlt), h6, g2]; simp
              · rw [hb j (by rw [← M.len]; omega)]
                have := g3 j (es[j]'(by omega)) hj (by simp)
                simp
                omega
            refine ⟨ι, _, Or.inr ⟨exu (s := Instr.entryStore t (b.eval m') (b.eval s') (b.eval v')) rfl ?_, rfl⟩, q1, q2⟩
            rw [k3, k4]
            simp only [Instr.entryStore, Sem.run_bind, hget, Result.andThen_ok, asInt, asIntOf, Sem.run_pure, hfi, hset]
          · cases h
        · cases h
      · cases h
    · cases h
  · cases h
theorem VR.itr_inv {ι : Nm} {p : Pos} {y : Value} (h : VR ι (.itr p) y) : ∃ pl, ι p = some pl ∧ pl.kd = 2 ∧ y = .pointer (some ⟨pl.blk, 0, none⟩) := by
  cases h with
  | itr _ pl h1 h2 => exact ⟨pl, h1, h2, rfl⟩
theorem lhas_eq (n : Nat) (l : List Nat) : lhas n l = l.contains n := by
  induction l with
  | nil => rfl
  | cons x l ih =>
    have e : lhas n (x :: l) = match Nat.beq x n with | true => true | false => lhas n l := rfl
    rw [e, nbeq_eq, ih, List.contains_cons]
    by_cases h : x = n
    · subst h; simp
    · have h' : (n == x) = false := by simp; exact fun e => h e.symm
      simp [h, h']
theorem lleft_eq (seen : List Nat) (es : List ME) : lleft seen es = es.filter fun e => !seen.contains e.b := by
  induction es with
  | nil => rfl
  | cons x l ih =>
    have e : lleft seen (x :: l) = match lhas x.b seen with | true => lleft seen l | false => x :: lleft seen l := rfl
    rw [e, lhas_eq, ih, List.filter_cons]
    cases seen.contains x.b <;> rfl
theorem llast_eq (l : List Nat) : llast l = l.getLast? := by
  induction l with
  | nil => rfl
  | cons x l ih =>
    have e : llast (x :: l) = match llast l with | none => some x | some y => some y := rfl
    rw [e, ih]
    cases l with
    | nil => rfl
    | cons y l => rw [List.getLast?_cons_cons]; cases h : (y :: l).getLast? with
      | none => simp at h
      | some z => rfl
theorem bfind_eq (b : Nat) (es : List ME) : bfind b es = es.find? (fun e => e.b == b) := by
  induction es with
  | nil => rfl
  | cons x l ih =>
    have e : bfind b (x :: l) = match Nat.beq x.b b with | true => some x | false => bfind b l := rfl
    rw [e, ih, List.find?_cons, nbeq_eq]
    by_cases h : x.b = b
    · simp [h]
    · have h' : (x.b == b) = false := by simpa using h
      rw [h']; simp [h]
/-- entries that are alike, filtered by their stamps -/
theorem filter_born {ι : Nm} (f : Nat → Bool) : ∀ (es : List ME) (l : List MapEntry), es.length = l.length → (∀ (i : Nat) x y, es[i]? = some x → l[i]? = some y → MER ι x y) →
    (es.filter fun e => f e.b).length = (l.filter fun e => f e.born).length ∧ ∀ (i : Nat) x y, (es.filter fun e => f e.b)[i]? = some x → (l.filter fun e => f e.born)[i]? = some y → MER ι x y
  | [], [], _, _ => ⟨rfl, fun i x y h => by simp at h⟩
  | [], _ :: _, h, _ => by simp at h
  | _ :: _, [], h, _ => by simp at h
  | e :: es, x :: l, h, hr => by
    obtain ⟨h1, h2⟩ := filter_born f es l (by simpa using h) (fun i a b ha hb => hr (i + 1) a b (by simpa using ha) (by simpa using hb))
    have h0 := hr 0 e x rfl rfl
    have hb : e.b = x.born := h0.2.2
    rw [List.filter_cons, List.filter_cons, hb]
    cases hf : f x.born with
    | false => simpa using ⟨h1, h2⟩
    | true =>
      refine ⟨by simp [h1], fun i a b ha hb => ?_⟩
      cases i with
      | zero => simp at ha hb; subst ha; subst hb; exact h0
      | succ i => simp at ha hb; exact h2 i a b ha hb
theorem find_born2 {ι : Nm} (n : Nat) : ∀ (es : List ME) (l : List MapEntry), es.length = l.length → (∀ (i : Nat) x y, es[i]? = some x → l[i]? = some y → MER ι x y) → ∀ e, es.find? (fun e => e.b == n) = some e →
    ∃ x, l.find? (fun e => e.born == n) = some x ∧ MER ι e x
  | [], [], _, _, e, h => by simp at h
  | [], _ :: _, h, _, _, _ => by simp at h
  | _ :: _, [], h, _, _, _ => by simp at h
  | e :: es, x :: l, h, hr, e', he => by
    have h0 := hr 0 e x rfl rfl
    have hb : e.b = x.born := h0.2.2
    rw [List.find?_cons] at he
    rw [List.find?_cons, ← hb]
    cases hf : (e.b == n) with
    | true => rw [hf] at he; cases he; exact ⟨x, rfl, h0⟩
    | false =>
      rw [hf] at he
      exact find_born2 n es l (by simpa using h) (fun i a b ha hb => hr (i + 1) a b (by simpa using ha) (by simpa using hb)) e' he
theorem Rep.newIter {ι : Nm} {σ : St} {w : World} (R : Rep ι σ w) {m : Option Pos} {m' : Option Nat} (hm : match m with | none => m' = none | some q => ∃ pq, ι q = some pq ∧ pq.kd = 1 ∧ m' = some pq.blk) (a c : Nat) :
    Rep (nmSet ι σ.nx ⟨w.heap.size, 0, 0, 2⟩) ⟨T.set (.mit m a [] c) σ.nx σ.h, σ.nx.succ⟩ (w.alloc (.mapIter m' a #[] c)) ∧
    G σ.nx.nat ι σ w (nmSet ι σ.nx ⟨w.heap.size, 0, 0, 2⟩) ⟨T.set (.mit m a [] c) σ.nx σ.h, σ.nx.succ⟩ (w.alloc (.mapIter m' a #[] c)) := by
  obtain ⟨h1, h2⟩ := R.fresh
  have hn := Pos.succ_nat σ.nx
  have hx : Ext ι (nmSet ι σ.nx ⟨w.heap.size, 0, 0, 2⟩) := nmSet_ext h1
  refine R.push (nx := σ.nx.succ) h1 h2 (by omega) (by omega) (fun q hq => by cases hq) ?_ ?_ (Nat.le_refl _)
  · refine ⟨_, m', nmSet_self _ _ _, rfl, by rw [heap_alloc_if, if_pos rfl], ?_⟩
    cases m with
    | none => exact hm
    | some q => obtain ⟨pq, k1, k2, k3⟩ := hm; exact ⟨pq, hx _ _ k1, k2, k3⟩
  · exact ⟨(fun h => by cases h), (fun h => by cases h), (fun _ => ⟨m', a, _, c, by rw [heap_alloc_if, if_pos rfl]⟩), (fun h => by cases h), (by show 2 ≤ 3; omega)⟩
theorem Rep.setIter {ι : Nm} {σ : St} {w : World} (R : Rep ι σ w) {p : Pos} {m : Option Pos} {a : Nat} {sn : List Nat} {c : Nat} (hg : T.get p σ.h = some (.mit m a sn c)) {pl : Pl} (hpl : ι p = some pl) {sn2 : List Nat} {c2 : Nat} {m' : Option Nat} (hb : w.heap[pl.blk]? = some (.mapIter m' a sn.toArray c)) {N : Nat} :
    Rep ι ⟨T.set (.mit m a sn2 c2) p σ.h, σ.nx⟩ { w with heap := w.heap.setIfInBounds pl.blk (.mapIter m' a sn2.toArray c2) } ∧ G N ι σ w ι ⟨T.set (.mit m a sn2 c2) p σ.h, σ.nx⟩ { w with heap := w.heap.setIfInBounds pl.blk (.mapIter m' a sn2.toArray c2) } := by
  obtain ⟨pl0, m0, j1, j2, j3, hm⟩ := R.ob p _ hg
  rw [hpl] at j1; cases j1
  rw [hb] at j3; cases j3
  have hlt : pl.blk < w.heap.size := (Array.getElem?_eq_some_iff.1 hb).1
  have hnew : (w.heap.setIfInBounds pl.blk (.mapIter m' a sn2.toArray c2))[pl.blk]? = some (.mapIter m' a sn2.toArray c2) := by simp [hlt]
  refine R.setOb (ob := .mit m a sn2 c2) (ro := .mapIter m' a sn2.toArray c2) hg rfl rfl rfl rfl hpl ⟨pl, m', hpl, j2, hnew, hm⟩ ?_
  intro pq hb2 hk
  obtain ⟨k0, k1, k2, k4, k3⟩ := hk
  refine ⟨fun h0 => ?_, fun h0 => ?_, fun h0 => ?_, fun h0 => ?_, k3⟩
  · obtain ⟨c', e', h1, _⟩ := k0 h0
    rw [hb2, hb] at h1; cases h1
  · obtain ⟨c', e', h1⟩ := k1 h0
    rw [hb2, hb] at h1; cases h1
  · exact ⟨m', a, _, c2, by rw [hb2]; exact hnew⟩
  · obtain ⟨c', e', h1⟩ := k4 h0
    rw [hb2, hb] at h1; cases h1
theorem e_rgm (m : Arg) : ESound E (.rgm m) := by
  intro n ι A b σ σ' w o vv F L R hok h
  obtain ⟨d, op, ty, pos, af, g⟩ := o
  cases op <;> simp only [okE, Bool.false_eq_true, Bool.and_eq_true] at hok
  rename_i t m'
  obtain ⟨h1, h2⟩ := hok
  split at h2
  · rename_i kt et hu
    simp only [eev] at h
    split at h
    · rename_i hm
      simp only [Option.some.injEq, Prod.mk.injEq] at h
      obtain ⟨rfl, rfl⟩ := h
      have k2 : b.eval m' = .map none := by
        have := ev_as F L h1 hm
        generalize b.eval m' = zz at this
        cases this; rfl
      obtain ⟨q1, q2⟩ := R.newIter (m := none) (m' := none) rfl 0 0
      refine ⟨_, _, Or.inl ⟨.pointer (some ⟨w.heap.size, 0, none⟩), exv2 (s := Instr.range t (b.eval m')) rfl ?_, .itr _ _ (nmSet_self _ _ _) rfl⟩, q1, q2⟩
      rw [k2]
      simp only [Instr.range, Sem.run_bind, run_underlying hu, Result.andThen_ok, Sem.run_pure, newObj, Sem.run, Result.andThen]
      rfl
    · rename_i p hm
      split at h
      · rename_i es ck ks hg
        simp only [Option.some.injEq, Prod.mk.injEq] at h
        obtain ⟨rfl, rfl⟩ := h
        obtain ⟨pl, k1, k2, k3⟩ := (ev_as F L h1 hm).map_inv
        obtain ⟨pl', es', j1, j2, j3, _⟩ := R.ob p _ hg
        rw [k1] at j1; cases j1
        have hget : (getObj pl.blk).run P w = .ok (.map es' ck) w := by simp [getObj, Sem.run, j3]
        obtain ⟨q1, q2⟩ := R.newIter (m := some p) (m' := some pl.blk) ⟨pl, k1, k2, rfl⟩ ck ck
        refine ⟨_, _, Or.inl ⟨.pointer (some ⟨w.heap.size, 0, none⟩), exv2 (s := Instr.range t (b.eval m')) rfl ?_, .itr _ _ (nmSet_self _ _ _) rfl⟩, q1, q2⟩
        rw [k3]
        simp only [Instr.range, Sem.run_bind, run_underlying hu, Result.andThen_ok, hget, Sem.run_pure, newObj, Sem.run, Result.andThen]
        rfl
      · cases h
    · cases h
  · cases h2
theorem e_nxm (m : Arg) : ESound E (.nxm m) := by
  intro n ι A b σ σ' w o vv F L R hok h
  obtain ⟨d, op, ty, pos, af, g⟩ := o
  cases op <;> simp only [okE, Bool.false_eq_true, Bool.and_eq_true] at hok
  rename_i m' s
  obtain ⟨h1, h2⟩ := hok
  have hs : s = false := by cases s <;> first | rfl | cases h2
  subst hs
  simp only [eev] at h
  split at h
  · rename_i p hm
    obtain ⟨pl, k1, k2, k3⟩ := (ev_as F L h1 hm).itr_inv
    split at h
    · rename_i q since seen last hg
      obtain ⟨pl', m0, j1, j2, j3, j4⟩ := R.ob p _ hg
      rw [k1] at j1; cases j1
      have hget : (getObj pl.blk).run P w = .ok (.mapIter m0 since seen.toArray last) w := by simp [getObj, Sem.run, j3]
      split at h
      · have j4 : m0 = none := j4
        subst j4
        simp only [Option.some.injEq, Prod.mk.injEq] at h
        obtain ⟨rfl, rfl⟩ := h
        refine ⟨ι, w, Or.inl ⟨.tuple #[.bool false], exv2 (s := Instr.next (b.eval m') false ty) rfl ?_, .mk_tup (.cons (.bool _) .nil)⟩, R, G.refl _ _ _ _⟩
        rw [k3]
        simp only [Instr.next, Sem.run_bind, hget, Result.andThen_ok, Sem.run_pure]
      · rename_i q
        obtain ⟨pq, i1, i2, i3⟩ : ∃ pq, ι q = some pq ∧ pq.kd = 1 ∧ m0 = some pq.blk := j4
        subst i3
        split at h
        · rename_i es ck ks hgm
          obtain ⟨plm, es', l1, l2, l3, l4, l5, l6, l7⟩ := R.ob q _ hgm
          rw [i1] at l1; cases l1
          have hgetm : (getObj pq.blk).run P w = .ok (.map es' ck) w := by simp [getObj, Sem.run, l3]
          split at h
          · rename_i hst
            have hrel : ∀ (i : Nat) x y, es[i]? = some x → es'.toList[i]? = some y → MER ι x y := fun i x y a c => l5 i x y a (by simpa using c)
            have hlen : es.length = es'.toList.length := by simpa using l4
            have htest : (!seen.toArray.isEmpty && !es'.isEmpty && es'.all (fun x => decide (x.born ≥ last))) = false := by
              cases seen with
              | nil => simp
              | cons s0 sn =>
                cases es with
                | nil =>
                  have : es' = #[] := Array.eq_empty_of_size_eq_zero (by simpa using l4.symm)
                  subst this; simp
                | cons e0 er =>
                  have hst : (!lall (fun e => Nat.ble last e.b) (e0 :: er)) = true := hst
                  rw [lall_eq] at hst
                  have hn : es'.all (fun x => decide (x.born ≥ last)) = false := by
                    rw [Bool.eq_false_iff]
                    intro hall
                    have : (e0 :: er).all (fun e => Nat.ble last e.b) = true := by
                      rw [List.all_eq_true]
                      intro e he
                      obtain ⟨i, hi, rfl⟩ := List.getElem_of_mem he
                      have hi' : i < es'.size := by rw [← l4]; exact hi
                      have hb := (l5 i _ _ (List.getElem?_eq_getElem hi) (Array.getElem?_eq_getElem hi')).2.2
                      rw [Array.all_eq_true] at hall
                      have := hall i hi'
                      rw [hb]
                      rw [Nat.ble_eq]
                      simpa using this
                    rw [this] at hst; cases hst
                  rw [hn, Bool.and_false]
            have hcan : ∀ L : Array MapEntry, (∀ x ∈ L.toList, x.born < since) → ((if (L.filter (fun x => decide (x.born < since))).isEmpty then #[none] else #[]) ++ ((L.filter (fun x => decide (x.born < since))) ++ (L.filter (fun x => decide (x.born ≥ since)))).map some) = (if L.isEmpty then #[none] else #[]) ++ L.map some := by
              intro L hold
              have e1 : L.filter (fun x => decide (x.born < since)) = L := Array.filter_eq_self.2 (fun x hx => by simpa using hold x (by simpa using hx))
              have e2 : L.filter (fun x => decide (x.born ≥ since)) = #[] := by
                rw [Array.filter_eq_empty_iff]
                intro x hx
                have := hold x (by simpa using hx)
                simp
                omega
              rw [e1, e2, Array.append_empty]
            obtain ⟨f1, f2⟩ := filter_born (ι := ι) (fun n => !seen.contains n) es es'.toList hlen hrel
            have hleft : (es'.filter fun e => !seen.toArray.contains e.born).toList = es'.toList.filter (fun e => !seen.contains e.born) := by
              have hc : ∀ n, seen.toArray.contains n = seen.contains n := fun n => by simp
              simp only [hc, Array.toList_filter]
            rw [lleft_eq] at h
            generalize hL : es'.filter (fun e => !seen.toArray.contains e.born) = L at hleft
            split at h
            · rename_i hnil
              simp only [Option.some.injEq, Prod.mk.injEq] at h
              obtain ⟨rfl, rfl⟩ := h
              rw [hnil] at f1
              have hL0 : L = #[] := by
                apply Array.toList_inj.1
                rw [hleft]
                exact List.length_eq_zero_iff.1 f1.symm
              subst hL0
              refine ⟨ι, w, Or.inl ⟨.tuple #[.bool false], exv2 (s := Instr.next (b.eval m') false ty) rfl ?_, .mk_tup (.cons (.bool _) .nil)⟩, R, G.refl _ _ _ _⟩
              rw [k3]
              simp only [Instr.next, Sem.run_bind, hget, hgetm, Result.andThen_ok, htest, Bool.false_eq_true, if_false, hL]
              simp [choose, Sem.run, Question.forced, Result.andThen]
            · rename_i e r hcons
              split at h
              · split at h
                · rename_i hlt
                  simp only [Option.some.injEq, Prod.mk.injEq] at h
                  obtain ⟨rfl, rfl⟩ := h
                  rw [hcons] at f1 f2
                  obtain ⟨x, hx⟩ : ∃ x, es'.toList.filter (fun e => !seen.contains e.born) = [x] := List.length_eq_one_iff.1 f1.symm
                  rw [hx] at f2 hleft
                  have hex := f2 0 e x rfl rfl
                  have hL0 : L = #[x] := Array.toList_inj.1 hleft
                  subst hL0
                  have hxlt : x.born < since := by
                    have h8 := hex.2.2
                    have h9 : e.b < since := by rw [blt_eq] at hlt; simpa using hlt
                    omega
                  obtain ⟨q1, q2⟩ := R.setIter hg k1 (sn2 := lapp seen [e.b]) (c2 := ck) j3 (N := σ.nx.nat)
                  refine ⟨ι, _, Or.inl ⟨.tuple #[.bool true, x.key, x.val], exv2 (s := Instr.next (b.eval m') false ty) rfl ?_, .mk_tup (.cons (.bool _) (.cons hex.1 (.cons hex.2.1 .nil)))⟩, q1, q2⟩
                  rw [k3]
                  have hset : ∀ o : Obj, (setObj pl.blk o).run P w = .ok () { w with heap := w.heap.setIfInBounds pl.blk o } := fun o => by simp [setObj, Sem.run, j3]
                  have hc := hcan #[x] (by intro y hy; simp at hy; subst hy; exact hxlt)
                  simp only [Instr.next, Sem.run_bind, hget, hgetm, Result.andThen_ok, htest, Bool.false_eq_true, if_false, hL, hc]
                  have hb8 : e.b = x.born := hex.2.2
                  simp [choose, Sem.run, Question.forced, hset, lapp_eq, hb8, Result.andThen]
                · cases h
              · cases h
          · cases h
        · cases h
    · cases h
  · cases h
theorem e_ent (m : Arg) : ESound E (.ent m) := by
  intro n ι A b σ σ' w o vv F L R hok h
  obtain ⟨d, op, ty, pos, af, g⟩ := o
  cases op <;> simp only [okE, Bool.false_eq_true, Bool.and_eq_true] at hok
  rename_i m'
  simp only [eev] at h
  split at h
  · rename_i p hm
    obtain ⟨pl, k1, k2, k3⟩ := (ev_as F L hok hm).itr_inv
    split at h
    · rename_i q since seen last hg
      obtain ⟨pl', m0, j1, j2, j3, j4⟩ := R.ob p _ hg
      rw [k1] at j1; cases j1
      have hget : (getObj pl.blk).run P w = .ok (.mapIter m0 since seen.toArray last) w := by simp [getObj, Sem.run, j3]
      split at h
      · cases h
      · rename_i q
        obtain ⟨pq, i1, i2, i3⟩ : ∃ pq, ι q = some pq ∧ pq.kd = 1 ∧ m0 = some pq.blk := j4
        subst i3
        split at h
        · rename_i es ck ks hgm
          obtain ⟨plm, es', l1, l2, l3, l4, l5, l6, l7⟩ := R.ob q _ hgm
          rw [i1] at l1; cases l1
          have hgetm : (getObj pq.blk).run P w = .ok (.map es' ck) w := by simp [getObj, Sem.run, l3]
          split at h
          · rename_i hck
            have hck : ck = last := Nat.eq_of_beq_eq_true hck
            subst hck
            split at h
            · rename_i st hlast
              rw [llast_eq] at hlast
              split at h
              · rename_i e he
                rw [bfind_eq] at he
                simp only [Option.some.injEq, Prod.mk.injEq] at h
                obtain ⟨rfl, rfl⟩ := h
                obtain ⟨x, hx, hr⟩ := find_born2 (ι := ι) st es es'.toList (by simpa using l4) (fun i x y a c => l5 i x y a (by simpa using c)) e he
                have hx : es'.find? (fun e => e.born == st) = some x := by rw [← Array.find?_toList]; exact hx
                refine ⟨ι, w, Or.inl ⟨.tuple #[x.key, x.val], exv2 (s := Instr.entry (b.eval m')) rfl ?_, .mk_tup (.cons hr.1 (.cons hr.2.1 .nil))⟩, R, G.refl _ _ _ _⟩
                rw [k3]
                have hbk : seen.toArray.back? = some st := by simpa using hlast
                simp only [Instr.entry, Sem.run_bind, hget, hgetm, Result.andThen_ok, hbk, bne_self_eq_false, Bool.false_eq_true, if_false, hx, Sem.run_pure]
              · cases h
            · cases h
          · cases h
        · cases h
    · cases h
  · cases h
theorem e_cpy (x y : Arg) (esz : Nat) : ESound E (.cpy x y esz) := by
  intro n ι A b σ σ' w o v F L R hok h
  obtain ⟨d, op, ty, pos, af, g⟩ := o
  cases op <;> simp only [okE, Bool.false_eq_true] at hok
  rename_i cc
  obtain ⟨cal, args, ats⟩ := cc
  split at hok
  · rename_i c' a1 a2 he
    cases he
    split at hok
    · rename_i d' s' t rest ha ht
      simp only [Bool.and_eq_true] at hok
      obtain ⟨⟨h1, h2⟩, h3⟩ := hok
      split at h3
      · rename_i e hu
        simp only [Bool.and_eq_true, decide_eq_true_eq] at h3
        obtain ⟨h4, h5⟩ := h3
        have h0 : ats[0]? = some t := by
          have : ats.toList[0]? = some t := by rw [ht]; rfl
          simpa using this
        simp only [eev] at h
        split at h
        · rename_i src hsrc
          obtain ⟨sa, sl, sc, l', e1, e2, e3, e4, e5, e6⟩ := sliceCells_sound R (ev_sound F L h2) hsrc
          split at h
          · rename_i p o len cap es hd
            split at h
            · rename_i hes
              have hes : es = esz := Nat.eq_of_beq_eq_true hes
              subst hes
              obtain ⟨pl, a, c, k1, k2, k3, k4, k5, k6, k7⟩ := (ev_as F L h1 hd).slice_inv
              have hlm : (sl.min len) * es = min (sl * es) (len * es) := by
                rcases Nat.le_total sl len with hh | hh
                · have : sl * es ≤ len * es := Nat.mul_le_mul_right _ hh
                  rw [Nat.min_eq_left this]
                  show min sl len * es = _
                  rw [Nat.min_eq_left hh]
                · have : len * es ≤ sl * es := Nat.mul_le_mul_right _ hh
                  rw [Nat.min_eq_right this]
                  show min sl len * es = _
                  rw [Nat.min_eq_right hh]
              have hfc : (Builtin.firstCells es (sl.min len) (.slice sa sl sc)).run P w = .ok (l'.take (len * es)).toArray w := by
                cases sa with
                | none =>
                  obtain ⟨rfl, rfl⟩ := e5 rfl
                  have : l' = [] := List.length_eq_zero_iff.1 (by rw [e3]; simp)
                  subst this
                  have := run_firstCells_none (P := P) w es 0 0 0
                  simpa using run_firstCells_none (P := P) w es (Nat.min 0 len) 0 0
                | some ad =>
                  have hlen : (l'.take (len * es)).length = (sl.min len) * es := by
                    rw [List.length_take, e3, hlm, Nat.min_comm]
                  refine run_firstCells_some w es (sl.min len) ad sl sc _ hlen ?_
                  intro j u hu
                  rw [List.getElem?_take] at hu
                  split at hu
                  · exact e4 ad rfl j u hu
                  · cases hu
              have hcell : ∀ (w' : World), (match (some a : Option Addr) with | some a => (storeCells a (l'.take (len * es))).run P w | none => .ok () w) = .ok () w' →
                  (Builtin.copy_ ats ty #[b.eval d', b.eval s']).run P w = .ok (goInt (sl.min len)) w' := by
                intro w' hst
                rw [k7, e1]
                simp only [Builtin.copy_, h0, List.getElem?_toArray, List.getElem?_cons_zero, List.getElem?_cons_succ, Sem.run_bind, run_underlying hu, Result.andThen_ok, Builtin.lenOf, Sem.run_pure, run_szB h4, hfc]
                simp only at hst
                rw [hst]
                simp only [Result.andThen_ok, Sem.run_pure]
              split at h
              · rename_i hnil
                split at h
                · rename_i v0 hv0
                  simp only [Option.some.injEq, Prod.mk.injEq] at h
                  obtain ⟨rfl, rfl⟩ := h
                  rw [ltake_eq] at hnil
                  have hlen0 : (l'.take (len * es)) = [] := by
                    have h6 := (e2.take (len * es)).1
                    have h7 : src.take (len * es) = [] := hnil
                    rw [h7] at h6
                    exact List.length_eq_zero_iff.1 h6.symm
                  have hmin : (sl.min len) = 0 := by
                    have h8 : (l'.take (len * es)).length = 0 := by rw [hlen0]; rfl
                    rw [List.length_take, e3] at h8
                    have h9 : min (sl * es) (len * es) = 0 := by omega
                    rw [← hlm] at h9
                    rcases Nat.mul_eq_zero.1 h9 with h10 | h10
                    · exact h10
                    · omega
                  have hrun := hcell w (by rw [hlen0]; rfl)
                  rw [hmin] at hrun
                  exact ⟨ι, w, Or.inl ⟨_, extwo (f := Builtin.copy_) (fun _ _ _ _ => rfl) ha hrun, VR.mkLen hv0⟩, R, G.refl _ _ _ _⟩
                · cases h
              · rename_i x1 r1 hcons
                split at h
                · rename_i hpl
                  split at h
                  · rename_i l kin fz ro hg
                    split at h
                    · rename_i hw
                      obtain ⟨rfl, rfl, hle⟩ := wr_inv hw
                      have hle := ble_le hle
                      rw [llen_eq, llen_eq] at hle
                      split at h
                      · rename_i ps os len2 caps ess hsl
                        split at h
                        · rename_i v0 hv0
                          simp only [Option.some.injEq, Prod.mk.injEq] at h
                          obtain ⟨rfl, rfl⟩ := h
                          rw [hsl] at e6
                          simp only [lenOfV] at e6
                          subst e6
                          rw [ltake_eq] at hcons
                          have hv := e2.take (len * es)
                          have hcons' : src.take (len * es) = x1 :: r1 := hcons
                          rw [hcons'] at hv
                          have hlen1 := hv.1
                          have hle : o + (x1 :: r1).length ≤ l.length := hle
                          obtain ⟨pl0, c0, e0, g1, g2, g3, g4, g5, g6⟩ := R.ob p _ hg
                          rw [k1] at g1; cases g1
                          have hc0 : c ≠ 0 := by
                            intro hc0
                            have : len = 0 := by omega
                            subst this
                            have h6 : src.take (0 * es) = [] := by simp
                            rw [h6] at hcons'; cases hcons'
                          have k5 := k5 hc0
                          subst k5
                          obtain ⟨q1, q2⟩ := R.put (N := σ.nx.nat) hg k1 (o := o) hv hle
                          have hst := run_storeCells (P := P) (b := pl.blk) (e := e0) (l'.take (len * es)) w c0 (pl.st + o) 0 (plain_flat hpl hv).1 g3 (by omega)
                          rw [Nat.add_zero] at hst
                          refine ⟨ι, _, Or.inl ⟨_, extwo (f := Builtin.copy_) (fun _ _ _ _ => rfl) ha (hcell _ hst), VR.mkLen hv0⟩, q1, q2⟩
                        · cases h
                      · cases h
                    · cases h
                  · cases h
                · cases h
            · cases h
          · cases h
        · cases h
      · cases h3
    · cases hok
  · cases hok
theorem exone {ρ : Operand → Value} {d : Option Tmp} {bb : Builtin} {args : Array Operand} {ats : Array TypeId} {ty : TypeId} {pos : String} {af : Array Edge} {g : Option (Nat × Bool)} {x : Operand} {w w' : World} {v' : Value} {f : Array TypeId → TypeId → Array Value → Sem Value}
    (hbb : ∀ ats ty cs vs, builtin bb ats ty cs vs = (do pure (.value (← f ats ty vs)))) (ha : args.toList = [x]) (h : (f ats ty #[ρ x]).run P w = .ok v' w') : (execOp ρ ⟨d, .call ⟨.builtin bb, args, ats⟩, ty, pos, af, g⟩).run P w = .ok (.value v') w' := by
  obtain rfl : args = #[x] := Array.toList_inj.1 ha
  unfold execOp
  simp only [resolve, invoke, Sem.run_bind, Sem.run_pure, Result.andThen_ok, List.map_toArray, List.map_cons, List.map_nil, hbb, h]
theorem e_clr (x : Arg) (z : List V) (esz : Nat) : ESound E (.clr x z esz) := by
  intro n ι A b σ σ' w o v F L R hok h
  obtain ⟨d, op, ty, pos, af, g⟩ := o
  cases op <;> simp only [okE, Bool.false_eq_true] at hok
  rename_i cc
  obtain ⟨cal, args, ats⟩ := cc
  split at hok
  · rename_i c' a1 a2 he
    cases he
    split at hok
    · rename_i s' t rest ha ht
      simp only [Bool.and_eq_true] at hok
      obtain ⟨h1, h3⟩ := hok
      split at h3
      · rename_i e hu
        simp only [Bool.and_eq_true, beq_iff_eq, decide_eq_true_eq] at h3
        obtain ⟨⟨h4, h5⟩, h6⟩ := h3
        obtain ⟨zv, hz, hzv⟩ := zeroB_inv h4
        have h0 : ats[0]? = some t := by
          have : ats.toList[0]? = some t := by rw [ht]; rfl
          simpa using this
        simp only [eev] at h
        split at h
        · rename_i hd
          simp only [Option.some.injEq, Prod.mk.injEq] at h
          obtain ⟨rfl, rfl⟩ := h
          have k := (ev_as F L h1 hd).nils_inv
          refine ⟨ι, w, Or.inl ⟨.tuple #[], exone (f := Builtin.clear_) (fun _ _ _ _ => rfl) ha ?_, .mk_tup .nil⟩, R, G.refl _ _ _ _⟩
          rw [k]
          simp [Builtin.clear_, h0, run_underlying hu]
        · rename_i p o len cap es hd
          obtain ⟨pl, a, c, k1, k2, k3, k4, k5, k6, k7⟩ := (ev_as F L h1 hd).slice_inv
          split at h
          · simp only [Option.some.injEq, Prod.mk.injEq] at h
            obtain ⟨rfl, rfl⟩ := h
            refine ⟨ι, w, Or.inl ⟨.tuple #[], exone (f := Builtin.clear_) (fun _ _ _ _ => rfl) ha ?_, .mk_tup .nil⟩, R, G.refl _ _ _ _⟩
            rw [k7]
            simp [Builtin.clear_, h0, run_underlying hu]
          · rename_i m
            split at h
            · rename_i hpl
              split at h
              · rename_i l kin fz ro hg
                split at h
                · rename_i hw
                  obtain ⟨rfl, rfl, hle⟩ := wr_inv hw
                  have hle := ble_le hle
                  rw [llen_eq, llen_eq] at hle
                  have hle : o + (lrep z (m + 1)).length ≤ l.length := hle
                  simp only [Option.some.injEq, Prod.mk.injEq] at h
                  obtain ⟨rfl, rfl⟩ := h
                  have hzl : 0 < z.length := by omega
                  have hv := zero_row (hzv ι) (m + 1) hzl
                  obtain ⟨pl0, c0, e0, g1, g2, g3, g4, g5, g6⟩ := R.ob p _ hg
                  rw [k1] at g1; cases g1
                  have hc0 : c ≠ 0 := by omega
                  have k5 := k5 hc0
                  subst k5
                  have hsz : zv.cells.size = z.length := by have := (hzv ι).1; simp at this; omega
                  have hzc : (Builtin.zeroCells zv.cells (m + 1)).toList = ((Array.range ((m + 1) * z.length)).map (zv.cells[· % zv.cells.size]!)).toList := by
                    unfold Builtin.zeroCells
                    rw [hsz]
                  have hlen := hv.1
                  obtain ⟨q1, q2⟩ := R.put (N := σ.nx.nat) hg k1 (o := o) hv hle
                  have hst := run_storeCells (P := P) (b := pl.blk) (e := e0) ((Array.range ((m + 1) * z.length)).map (zv.cells[· % zv.cells.size]!)).toList w c0 (pl.st + o) 0 (plain_flat hpl hv).1 g3 (by omega)
                  rw [Nat.add_zero] at hst
                  refine ⟨ι, _, Or.inl ⟨.tuple #[], exone (f := Builtin.clear_) (fun _ _ _ _ => rfl) ha ?_, .mk_tup .nil⟩, q1, q2⟩
                  rw [k7]
                  simp only [Builtin.clear_, h0, List.getElem?_toArray, List.getElem?_cons_zero, Sem.run_bind, run_underlying hu, Result.andThen_ok, hz, hzc]
                  rw [hst]
                  simp only [Result.andThen_ok, Sem.run_pure, Nat.add_zero]
                · cases h
              · cases h
            · cases h
        · cases h
      · cases h3
    · cases hok
  · cases hok
/-- all of them -/
theorem e_sound (e : EOp) : ESound E e := by
  cases e with
  | st a x n => exact e_st a x n
  | alo z => exact late_sound (l_alo z)
  | box a n => exact late_sound (l_box a n)
  | bsl z ps len esz => exact late_sound (l_bsl z ps len esz)
  | mkm ks => exact e_mkm ks
  | mks len cap z esz bts => exact e_mks len cap z esz bts
  | app s x esz bts str => exact e_app s x esz bts str
  | cpy d s esz => exact e_cpy d s esz
  | clr s z esz => exact e_clr s z esz
  | mup m k v ks => exact e_mup m k v ks
  | mdl m k ks => exact e_mdl m k ks
  | men m k ks z => exact e_men m k ks z
  | mes m s v => exact e_mes m s v
  | rgm m => exact e_rgm m
  | nxm m => exact e_nxm m
  | ent m => exact e_ent m
  | prd a => intro n ι A a σ σ' w o v F L R hok h; simp only [okE, Bool.false_eq_true] at hok
  | pin m k v ks => intro n ι A a σ σ' w o v F L R hok h; simp only [okE, Bool.false_eq_true] at hok
end
end Go.Proofs.YtcecdaeceipbnaaGreatDoor

/-
  The operations, each by a definition of its own: the kernel then opens little. (Of no program.)
-/
namespace Go.Proofs.YtcecdaeceipbnaaGreatDoor
set_option linter.unusedVariables false
set_option linter.unusedSimpArgs false
set_option linter.unusedSectionVars false
open Go

noncomputable def qevF_mv (a : Arg) (pt : List Nat) (A : T V) (σ : St) : Option V := some (ev A a)
noncomputable def qevF_pick (c : Arg) (a : Arg) (b : Arg) (pt : List Nat) (A : T V) (σ : St) : Option V := (match ev A c with | .bool t => some (match t with | true => ev A a | false => ev A b) | _ => none)
noncomputable def qevF_bld (z : List V) (ps : List (Nat × Nat × Arg)) (pt : List Nat) (A : T V) (σ : St) : Option V := (match bldF A ps z with | some l => some (.agg l) | none => none)
noncomputable def qevF_fadr (a : Arg) (off : Nat) (pt : List Nat) (A : T V) (σ : St) : Option V := (match ev A a with | .ptr p o => some (.ptr p (Nat.add o off)) | _ => none)
noncomputable def qevF_fld (a : Arg) (off : Nat) (n : Nat) (ag : Bool) (pt : List Nat) (A : T V) (σ : St) : Option V := (match ev A a with | .agg l => partA l off n ag | _ => none)
noncomputable def qevF_iadr (a : Arg) (i : Arg) (esz : Nat) (pt : List Nat) (A : T V) (σ : St) : Option V := (match ev A a with
    | .slice p o len _ _ => (match ev A i with | .int _ i => (match natOf i with | some n => (match Nat.blt n len with | true => some (.ptr p (Nat.add o (Nat.mul n esz))) | false => none) | none => none) | _ => none)
    | _ => none)
noncomputable def qevF_iada (a : Arg) (i : Arg) (esz : Nat) (n : Nat) (pt : List Nat) (A : T V) (σ : St) : Option V := (match ev A a with
    | .ptr p o => (match ev A i with | .int _ i => (match natOf i with | some j => (match Nat.blt j n with | true => some (.ptr p (Nat.add o (Nat.mul j esz))) | false => none) | none => none) | _ => none)
    | _ => none)
noncomputable def qevF_idxa (a : Arg) (i : Arg) (esz : Nat) (n : Nat) (ag : Bool) (pt : List Nat) (A : T V) (σ : St) : Option V := (match ev A a with
    | .agg l => (match ev A i with | .int _ i => (match natOf i with | some j => (match Nat.blt j n with | true => partA l (Nat.mul j esz) esz ag | false => none) | none => none) | _ => none)
    | _ => none)
noncomputable def qevF_idxs (a : Arg) (i : Arg) (pt : List Nat) (A : T V) (σ : St) : Option V := (match ev A a with
    | .str l => (match ev A i with | .int _ i => (match natOf i with | some j => (match lget l j with | some b => some (.int .u8 (.ofNat b)) | none => none) | none => none) | _ => none)
    | _ => none)
noncomputable def qevF_nck (a : Arg) (pt : List Nat) (A : T V) (σ : St) : Option V := (match ev A a with
    | .ptr p o => some (.ptr p o)
    | .iface t v => some (.iface t v)
    | .fn f x y => some (.fn f x y)
    | _ => none)
noncomputable def qevF_bin (op : BinOp) (a : Arg) (c : Arg) (pt : List Nat) (A : T V) (σ : St) : Option V := (match ev A a with | .int k x => (match ev A c with | .int k' y => (match beqK k k' with | true => ibin op k x y | false => none) | _ => none) | _ => none)
noncomputable def qevF_shf (left : Bool) (a : Arg) (c : Arg) (pt : List Nat) (A : T V) (σ : St) : Option V := (match ev A a with
    | .int k x => (match ev A c with
      | .int _ y => (match natOf y with
        | some n => (match Nat.ble n 64 with
          | true => some (.int k (wrapK k (match left with | true => Int.mul x (.ofNat (Nat.pow 2 (Nat.min n k.bits))) | false => Int.fdiv x (.ofNat (Nat.pow 2 (Nat.min n k.bits))))))
          | false => none)
        | none => none)
      | _ => none)
    | _ => none)
noncomputable def qevF_cmpb (ne : Bool) (a : Arg) (c : Arg) (pt : List Nat) (A : T V) (σ : St) : Option V := (match ev A a with | .bool x => (match ev A c with | .bool y => some (.bool (xorB ne (!(xorB x y)))) | _ => none) | _ => none)
noncomputable def qevF_cmps (op : BinOp) (a : Arg) (c : Arg) (pt : List Nat) (A : T V) (σ : St) : Option V := (match ev A a with
    | .str x => (match ev A c with
      | .str y => (match op with
        | .add => (match Nat.ble (Nat.add (llen x) (llen y)) 1000000 with | true => some (.str (lapp x y)) | false => none)
        | .eql => some (.bool (nateq x y))
        | .neq => some (.bool (!(nateq x y)))
        | _ => none)
      | _ => none)
    | _ => none)
noncomputable def qevF_eqp (kd : NK) (ne : Bool) (a : Arg) (c : Arg) (pt : List Nat) (A : T V) (σ : St) : Option V := (match eqpV σ pt kd (ev A a) (ev A c) with | some b => some (.bool (xorB ne b)) | none => none)
noncomputable def qevF_eqa (ne : Bool) (sh : List IntKind) (a : Arg) (c : Arg) (pt : List Nat) (A : T V) (σ : St) : Option V := (match ev A a with
    | .agg l => (match ev A c with
      | .agg m => (match shaped sh l with | true => (match shaped sh m with | true => some (.bool (xorB ne (inteq l m))) | false => none) | false => none)
      | _ => none)
    | _ => none)
noncomputable def qevF_not (a : Arg) (pt : List Nat) (A : T V) (σ : St) : Option V := (match ev A a with | .bool b => some (.bool (!b)) | _ => none)
noncomputable def qevF_neg (a : Arg) (pt : List Nat) (A : T V) (σ : St) : Option V := (match ev A a with | .int k n => some (.int k (wrapK k (Int.sub (.ofNat 0) n))) | _ => none)
noncomputable def qevF_inv (a : Arg) (pt : List Nat) (A : T V) (σ : St) : Option V := (match ev A a with
    | .int k n => (match k.signed with | false => some (.int k (wrapK k (.ofNat (Nat.xor (Nat.sub (modK k) 1) (toU (modK k) n))))) | true => none)
    | _ => none)
noncomputable def qevF_cvi (k : IntKind) (a : Arg) (pt : List Nat) (A : T V) (σ : St) : Option V := (match ev A a with | .int _ n => some (.int k (wrapK k n)) | _ => none)
noncomputable def qevF_cvid (a : Arg) (pt : List Nat) (A : T V) (σ : St) : Option V := (match ev A a with | .str l => some (.str l) | _ => none)
noncomputable def qevF_mki (t : Nat) (a : Arg) (pt : List Nat) (A : T V) (σ : St) : Option V := some (.iface t (ev A a))
noncomputable def qevF_mkf (f : Nat) (xs : List Arg) (ys : List Arg) (pt : List Nat) (A : T V) (σ : St) : Option V := some (.fn f (lmap (ev A) xs) (lmap (ev A) ys))
noncomputable def qevF_tas (a : Arg) (t : Nat) (z : V) (ok : Bool) (pt : List Nat) (A : T V) (σ : St) : Option V := (match ev A a with
    | .iface u v => (match Nat.beq u t with
      | true => some (match ok with | true => .tup [v, .bool true] | false => v)
      | false => (match ok with | true => some (.tup [z, .bool false]) | false => none))
    | .nili => (match ok with | true => some (.tup [z, .bool false]) | false => none)
    | _ => none)
noncomputable def qevF_tai (a : Arg) (ts : List Nat) (ok : Bool) (pt : List Nat) (A : T V) (σ : St) : Option V := (match ev A a with
    | .iface u v => (match lall (fun z => !(Nat.beq z (Nat.mul 2 u))) ts with
      | false => some (match ok with | true => .tup [.iface u v, .bool true] | false => .iface u v)
      | true => (match ok with
        | true => (match lall (fun z => !(Nat.beq z (Nat.add (Nat.mul 2 u) 1))) ts with | false => some (.tup [.nili, .bool false]) | true => none)
        | false => none))
    | .nili => (match ok with | true => some (.tup [.nili, .bool false]) | false => none)
    | _ => none)
noncomputable def qevF_ext (a : Arg) (i : Nat) (pt : List Nat) (A : T V) (σ : St) : Option V := (match ev A a with | .tup l => lget l i | _ => none)
noncomputable def qevF_lenv (a : Arg) (pt : List Nat) (A : T V) (σ : St) : Option V := (match ev A a with | .slice _ _ len _ _ => mkLen len | .nils => mkLen 0 | _ => none)
noncomputable def qevF_lens (a : Arg) (pt : List Nat) (A : T V) (σ : St) : Option V := (match ev A a with | .str l => mkLen (llen l) | _ => none)
noncomputable def qevF_lenc (n : Nat) (pt : List Nat) (A : T V) (σ : St) : Option V := mkLen n
noncomputable def qevF_slc (a : Arg) (lo : Option Arg) (hi : Option Arg) (esz : Nat) (pt : List Nat) (A : T V) (σ : St) : Option V := (match ev A a with
    | .slice p o len cap es => (match Nat.beq es esz with
      | true => (match optN A hi len with
        | some h => (match optN A lo 0 with
          | some l => (match Nat.ble l h && Nat.ble h len with
            | true => some (.slice p (Nat.add o (Nat.mul l esz)) (Nat.sub h l) (match cap with | some c => some (Nat.sub c l) | none => none) esz)
            | false => none)
          | none => none)
        | none => none)
      | false => none)
    | .nils => (match optN A hi 0 with
      | some h => (match optN A lo 0 with | some l => (match Nat.beq h 0 && Nat.beq l 0 with | true => some .nils | false => none) | none => none)
      | none => none)
    | _ => none)
noncomputable def qevF_slca (a : Arg) (lo : Option Arg) (hi : Option Arg) (esz : Nat) (n : Nat) (pt : List Nat) (A : T V) (σ : St) : Option V := (match ev A a with
    | .ptr p o => (match T.get p σ.h with
      | some (.cells ls _ _ _) => (match Nat.ble (Nat.add o (Nat.mul n esz)) (llen ls) with
        | true => (match optN A hi n with
          | some h => (match optN A lo 0 with
            | some l => (match Nat.ble l h && Nat.ble h n with
              | true => some (.slice p (Nat.add o (Nat.mul l esz)) (Nat.sub h l) (some (Nat.sub n l)) esz)
              | false => none)
            | none => none)
          | none => none)
        | false => none)
      | _ => none)
    | _ => none)
noncomputable def qevF_slcs (a : Arg) (lo : Option Arg) (hi : Option Arg) (pt : List Nat) (A : T V) (σ : St) : Option V := (match ev A a with
    | .str s => (match optN A hi (llen s) with
      | some h => (match optN A lo 0 with
        | some l => (match Nat.ble l h && Nat.ble h (llen s) with | true => some (.str (ltake (ldrop s l) (Nat.sub h l))) | false => none)
        | none => none)
      | none => none)
    | _ => none)
noncomputable def qevF_mnx (mx : Bool) (a : Arg) (c : Arg) (pt : List Nat) (A : T V) (σ : St) : Option V := (match ev A a with
    | .int k x => (match ev A c with
      | .int k' y => (match beqK k k' with
        | true => some (.int k (match mx with | true => (match ilt x y with | true => y | false => x) | false => (match ilt y x with | true => y | false => x)))
        | false => none)
      | _ => none)
    | _ => none)
noncomputable def qevF_ld1 (a : Arg) (pt : List Nat) (A : T V) (σ : St) : Option V := (match ev A a with | .ptr p o => (match T.get p σ.h with | some (.cells l _ _ _) => lget l o | _ => none) | _ => none)
noncomputable def qevF_ldn (a : Arg) (n : Nat) (pt : List Nat) (A : T V) (σ : St) : Option V := (match ev A a with | .ptr p o => (match T.get p σ.h with | some (.cells l _ _ _) => (match Nat.ble (Nat.add o n) (llen l) with | true => some (.agg (ltake (ldrop l o) n)) | false => none) | _ => none) | _ => none)
noncomputable def qevF_lkp (m : Arg) (k : Arg) (ks : KSh) (z : V) (ok : Bool) (pt : List Nat) (A : T V) (σ : St) : Option V := (match keyShaped ks (ev A k) with
    | true => (match ev A m with
      | .nilm => some (match ok with | true => .tup [z, .bool false] | false => z)
      | .map p => (match T.get p σ.h with
        | some (.map es _ ks') => (match decide (ks' = ks) with
          | true => some (match mfind (ev A k) es with
            | some e => (match ok with | true => .tup [e.v, .bool true] | false => e.v)
            | none => (match ok with | true => .tup [z, .bool false] | false => z))
          | false => none)
        | _ => none)
      | _ => none)
    | false => none)
noncomputable def qevF_lenm (m : Arg) (pt : List Nat) (A : T V) (σ : St) : Option V := (match ev A m with
    | .nilm => mkLen 0
    | .map p => (match T.get p σ.h with | some (.map es _ _) => mkLen (llen es) | _ => none)
    | _ => none)
noncomputable def qevF_wts (g : Arg) (pt : List Nat) (A : T V) (σ : St) : Option V := (match ev A g with | .ptr p o => (match T.get p σ.h with | some (.cells _ _ _ _) => some (.bool false) | _ => none) | _ => none)
noncomputable def qevF (pt : List Nat) (o : QOp) (A : T V) (σ : St) : Option V := match o with
  | .mv a => qevF_mv a pt A σ
  | .pick c a b => qevF_pick c a b pt A σ
  | .bld z ps => qevF_bld z ps pt A σ
  | .fadr a off => qevF_fadr a off pt A σ
  | .fld a off n ag => qevF_fld a off n ag pt A σ
  | .iadr a i esz => qevF_iadr a i esz pt A σ
  | .iada a i esz n => qevF_iada a i esz n pt A σ
  | .idxa a i esz n ag => qevF_idxa a i esz n ag pt A σ
  | .idxs a i => qevF_idxs a i pt A σ
  | .nck a => qevF_nck a pt A σ
  | .bin op a c => qevF_bin op a c pt A σ
  | .shf left a c => qevF_shf left a c pt A σ
  | .cmpb ne a c => qevF_cmpb ne a c pt A σ
  | .cmps op a c => qevF_cmps op a c pt A σ
  | .eqp kd ne a c => qevF_eqp kd ne a c pt A σ
  | .eqa ne sh a c => qevF_eqa ne sh a c pt A σ
  | .not a => qevF_not a pt A σ
  | .neg a => qevF_neg a pt A σ
  | .inv a => qevF_inv a pt A σ
  | .cvi k a => qevF_cvi k a pt A σ
  | .cvid a => qevF_cvid a pt A σ
  | .mki t a => qevF_mki t a pt A σ
  | .mkf f xs ys => qevF_mkf f xs ys pt A σ
  | .tas a t z ok => qevF_tas a t z ok pt A σ
  | .tai a ts ok => qevF_tai a ts ok pt A σ
  | .ext a i => qevF_ext a i pt A σ
  | .lenv a => qevF_lenv a pt A σ
  | .lens a => qevF_lens a pt A σ
  | .lenc n => qevF_lenc n pt A σ
  | .slc a lo hi esz => qevF_slc a lo hi esz pt A σ
  | .slca a lo hi esz n => qevF_slca a lo hi esz n pt A σ
  | .slcs a lo hi => qevF_slcs a lo hi pt A σ
  | .mnx mx a c => qevF_mnx mx a c pt A σ
  | .ld1 a => qevF_ld1 a pt A σ
  | .ldn a n => qevF_ldn a n pt A σ
  | .lkp m k ks z ok => qevF_lkp m k ks z ok pt A σ
  | .lenm m => qevF_lenm m pt A σ
  | .wts g => qevF_wts g pt A σ
theorem qevF_eq : qevF = qev := by
  funext pt o A σ
  cases o <;> rfl
noncomputable def eevF_st (a : Arg) (x : Arg) (n : Nat) (nm : Option Pos) (A : T V) (σ : St) : Option (V × St) := (match ev A a with
    | .ptr p o => (match flat (ev A x) with
      | some vs => (match lall plainV vs && Nat.beq (llen vs) n with
        | true => (match T.get p σ.h with
          | some (.cells l kin fz ro) => (match !fz && !ro && Nat.ble (Nat.add o n) (llen l) with
            | true => some (.u, ⟨T.set (.cells (lput l o vs) [] false false) p (kill kin σ.h), σ.nx⟩)
            | false => none)
          | _ => none)
        | false => none)
      | none => none)
    | _ => none)
noncomputable def eevF_alo (z : List V) (nm : Option Pos) (A : T V) (σ : St) : Option (V × St) := some (.ptr (nameOf σ nm) 0, newB σ nm (.cells z [] false false))
noncomputable def eevF_box (a : Arg) (n : Nat) (nm : Option Pos) (A : T V) (σ : St) : Option (V × St) := (match flat (ev A a) with
    | some l => (match Nat.beq (llen l) n with | true => some (.ptr (nameOf σ nm) 0, newB σ nm (.cells l [] false false)) | false => none)
    | none => none)
noncomputable def eevF_bsl (z : List V) (ps : List (Nat × Nat × Arg)) (len : Nat) (esz : Nat) (nm : Option Pos) (A : T V) (σ : St) : Option (V × St) := (match bldF A ps z with
    | some l => some (.slice (nameOf σ nm) 0 len (some len) esz, newB σ nm (.cells l [] false false))
    | none => none)
noncomputable def eevF_mkm (ks : KSh) (nm : Option Pos) (A : T V) (σ : St) : Option (V × St) := some (.map (nameOf σ nm), newB σ nm (.map [] 0 ks))
noncomputable def eevF_mks (len : Arg) (cap : Arg) (z : List V) (esz : Nat) (bts : Nat) (nm : Option Pos) (A : T V) (σ : St) : Option (V × St) := (match ev A len with
    | .int _ l => (match ev A cap with
      | .int _ c => (match natOf l with
        | some l => (match natOf c with
          | some c => (match Nat.ble l c && Nat.ble (Nat.mul c (Nat.add bts 1)) 1099511627776 with
            | true => some (.slice σ.nx 0 l (some c) esz, ⟨T.set (.cells (lrep z c) [] false false) σ.nx σ.h, σ.nx.succ⟩)
            | false => none)
          | none => none)
        | none => none)
      | _ => none)
    | _ => none)
noncomputable def eevF_app (s : Arg) (x : Arg) (esz : Nat) (bts : Nat) (str : Bool) (nm : Option Pos) (A : T V) (σ : St) : Option (V × St) := (match srcCells σ (ev A x) esz str with
    | some (n, news) => (match n with
      | 0 => (match ev A s with | .nils => some (.nils, σ) | .slice p o len cap es => (match Nat.beq es esz with | true => some (.slice p o len cap es, σ) | false => none) | _ => none)
      | _ + 1 => (match lall plainV news with
        | true => (match ev A s with
          | .nils => (match Nat.ble (Nat.mul n (Nat.add bts 1)) 1099511627776 with
            | true => some (.slice σ.nx 0 n none esz, ⟨T.set (.cells news [] false false) σ.nx σ.h, σ.nx.succ⟩)
            | false => none)
          | .slice p o len cap es => (match Nat.beq es esz && Nat.ble (Nat.mul (Nat.add len n) (Nat.add bts 1)) 1099511627776 with
            | true => (match cap with
              | some c => (match Nat.ble (Nat.add len n) c with
                | true => (match T.get p σ.h with
                  | some (.cells l kin fz ro) => (match !fz && !ro && Nat.ble (Nat.add o (Nat.mul (Nat.add len n) esz)) (llen l) with
                    | true => some (.slice p o (Nat.add len n) (some c) esz, ⟨T.set (.cells (lput l (Nat.add o (Nat.mul len esz)) news) [] false false) p (kill kin σ.h), σ.nx⟩)
                    | false => none)
                  | _ => none)
                | false => (match sliceCells σ (.slice p o len (some c) esz) esz with
                  | some olds => some (.slice σ.nx 0 (Nat.add len n) none esz, ⟨T.set (.cells (lapp olds news) [] false false) σ.nx σ.h, σ.nx.succ⟩)
                  | none => none))
              | none => (match T.get p σ.h with
                | some (.cells l kin fz ro) => (match !fz && !ro && Nat.ble (Nat.add o (Nat.mul len esz)) (llen l) with
                  | true => (match Nat.beq (Nat.add o (Nat.mul len esz)) (llen l) with
                    | true => some (.slice σ.nx 0 (Nat.add len n) none esz, ⟨T.set (.cells (lapp (ldrop l o) news) (p :: kin) false false) σ.nx (T.set (.cells l kin true false) p σ.h), σ.nx.succ⟩)
                    | false => some (.slice σ.nx 0 (Nat.add len n) none esz, ⟨T.set (.cells (lapp (ldrop (ltake l (Nat.add o (Nat.mul len esz))) o) news) [p] false false) σ.nx (T.set (.cells (ltake l (Nat.add o (Nat.mul len esz))) [] true false) p (kill kin σ.h)), σ.nx.succ⟩))
                  | false => none)
                | _ => none))
            | false => none)
          | _ => none)
        | false => none))
    | none => none)
noncomputable def eevF_cpy (d : Arg) (s : Arg) (esz : Nat) (nm : Option Pos) (A : T V) (σ : St) : Option (V × St) := (match sliceCells σ (ev A s) esz with
    | some src => (match ev A d with
      | .slice p o len cap es => (match Nat.beq es esz with
        | true => (match ltake src (Nat.mul len esz) with
          | [] => (match mkLen 0 with | some v => some (v, σ) | none => none)
          | x :: r => (match lall plainV (x :: r) with
            | true => (match T.get p σ.h with
              | some (.cells l kin fz ro) => (match !fz && !ro && Nat.ble (Nat.add o (llen (x :: r))) (llen l) with
                | true => (match ev A s with
                  | .slice _ _ len2 _ _ => (match mkLen (Nat.min len2 len) with
                    | some v => some (v, ⟨T.set (.cells (lput l o (x :: r)) [] false false) p (kill kin σ.h), σ.nx⟩)
                    | none => none)
                  | _ => none)
                | false => none)
              | _ => none)
            | false => none))
        | false => none)
      | _ => none)
    | none => none)
noncomputable def eevF_clr (s : Arg) (z : List V) (esz : Nat) (nm : Option Pos) (A : T V) (σ : St) : Option (V × St) := (match ev A s with
    | .nils => some (.tup [], σ)
    | .slice p o len cap es => (match len with
      | 0 => some (.tup [], σ)
      | m + 1 => (match lall plainV (lrep z (Nat.add m 1)) with
        | true => (match T.get p σ.h with
          | some (.cells l kin fz ro) => (match !fz && !ro && Nat.ble (Nat.add o (llen (lrep z (Nat.add m 1)))) (llen l) with
            | true => some (.tup [], ⟨T.set (.cells (lput l o (lrep z (Nat.add m 1))) [] false false) p (kill kin σ.h), σ.nx⟩)
            | false => none)
          | _ => none)
        | false => none))
    | _ => none)
noncomputable def eevF_mup (m : Arg) (k : Arg) (v : Arg) (ks : KSh) (nm : Option Pos) (A : T V) (σ : St) : Option (V × St) := (match keyShaped ks (ev A k) with
    | true => (match ev A m with
      | .map p => (match T.get p σ.h with
        | some (.map es ck ks') => (match decide (ks' = ks) with
          | true => (match mfind (ev A k) es with
            | some _ => some (.u, ⟨T.set (.map (mset (ev A k) (ev A v) es) ck ks) p σ.h, σ.nx⟩)
            | none => some (.u, ⟨T.set (.map (lapp es [⟨ev A k, ev A v, ck⟩]) (Nat.add ck 1) ks) p σ.h, σ.nx⟩))
          | false => none)
        | _ => none)
      | _ => none)
    | false => none)
noncomputable def eevF_mdl (m : Arg) (k : Arg) (ks : KSh) (nm : Option Pos) (A : T V) (σ : St) : Option (V × St) := (match keyShaped ks (ev A k) with
    | true => (match ev A m with
      | .nilm => some (.tup [], σ)
      | .map p => (match T.get p σ.h with
        | some (.map es ck ks') => (match decide (ks' = ks) with
          | true => some (.tup [], ⟨T.set (.map (mrem (ev A k) es) ck ks) p σ.h, σ.nx⟩)
          | false => none)
        | _ => none)
      | _ => none)
    | false => none)
noncomputable def eevF_men (m : Arg) (k : Arg) (ks : KSh) (z : V) (nm : Option Pos) (A : T V) (σ : St) : Option (V × St) := (match keyShaped ks (ev A k) with
    | true => (match ev A m with
      | .map p => (match T.get p σ.h with
        | some (.map es ck ks') => (match decide (ks' = ks) with
          | true => (match Nat.ble ck 1152921504606846976 with
            | true => (match mfind (ev A k) es with
              | some e => (match Nat.ble e.b 1152921504606846976 with | true => some (.tup [e.v, .int .i64 (.ofNat e.b)], σ) | false => none)
              | none => some (.tup [z, .int .i64 (.ofNat ck)], ⟨T.set (.map (lapp es [⟨ev A k, z, ck⟩]) (Nat.add ck 1) ks) p σ.h, σ.nx⟩))
            | false => none)
          | false => none)
        | _ => none)
      | _ => none)
    | false => none)
noncomputable def eevF_mes (m : Arg) (s : Arg) (v : Arg) (nm : Option Pos) (A : T V) (σ : St) : Option (V × St) := (match ev A m with
    | .map p => (match T.get p σ.h with
      | some (.map es ck ks) => (match ev A s with
        | .int _ b => (match natOf b with
          | some b => (match bset b (ev A v) es with
            | some es' => some (.u, ⟨T.set (.map es' ck ks) p σ.h, σ.nx⟩)
            | none => none)
          | none => none)
        | _ => none)
      | _ => none)
    | _ => none)
noncomputable def eevF_rgm (m : Arg) (nm : Option Pos) (A : T V) (σ : St) : Option (V × St) := (match ev A m with
    | .nilm => some (.itr σ.nx, ⟨T.set (.mit none 0 [] 0) σ.nx σ.h, σ.nx.succ⟩)
    | .map p => (match T.get p σ.h with
      | some (.map es ck ks) => some (.itr σ.nx, ⟨T.set (.mit (some p) ck [] ck) σ.nx σ.h, σ.nx.succ⟩)
      | _ => none)
    | _ => none)
noncomputable def eevF_nxm (m : Arg) (nm : Option Pos) (A : T V) (σ : St) : Option (V × St) := (match ev A m with
    | .itr p => (match T.get p σ.h with
      | some (.mit q since seen last) => (match q with
        | none => some (.tup [.bool false], σ)
        | some q => (match T.get q σ.h with
          | some (.map es ck ks) => (match stepB last seen es with
            | true => (match lleft seen es with
              | [] => some (.tup [.bool false], σ)
              | e :: r => (match r with
                | [] => (match Nat.blt e.b since with
                  | true => some (.tup [.bool true, e.k, e.v], ⟨T.set (.mit (some q) since (lapp seen [e.b]) ck) p σ.h, σ.nx⟩)
                  | false => none)
                | _ :: _ => none))
            | false => none)
          | _ => none))
      | _ => none)
    | _ => none)
noncomputable def eevF_ent (m : Arg) (nm : Option Pos) (A : T V) (σ : St) : Option (V × St) := (match ev A m with
    | .itr p => (match T.get p σ.h with
      | some (.mit q since seen last) => (match q with
        | none => none
        | some q => (match T.get q σ.h with
          | some (.map es ck ks) => (match Nat.beq ck last with
            | true => (match llast seen with
              | some b => (match bfind b es with
                | some e => some (.tup [e.k, e.v], σ)
                | none => none)
              | none => none)
            | false => none)
          | _ => none))
      | _ => none)
    | _ => none)
noncomputable def eevF_prd (a : Arg) (nm : Option Pos) (A : T V) (σ : St) : Option (V × St) := (match nm with
    | some p => (match ev A a with
      | .ptr q o => (match p.beq q with
        | true => (match T.get p σ.h with
          | some (.cells l _ _ _) => (match lget l o with | some v => some (v, σ) | none => none)
          | _ => none)
        | false => none)
      | _ => none)
    | none => none)
noncomputable def eevF_pin (m : Arg) (k : Arg) (v : Arg) (ks : KSh) (nm : Option Pos) (A : T V) (σ : St) : Option (V × St) := (match nm with
    | some p' => (match ev A m with
      | .map q' => (match p'.beq q' with
        | true => (match keyShaped ks (ev A k) with
          | true => (match ev A m with
            | .map p => (match T.get p σ.h with
              | some (.map es ck ks') => (match decide (ks' = ks) with
                | true => (match mfind (ev A k) es with
                  | some _ => some (.u, ⟨T.set (.map (mset (ev A k) (ev A v) es) ck ks) p σ.h, σ.nx⟩)
                  | none => some (.u, ⟨T.set (.map (lapp es [⟨ev A k, ev A v, ck⟩]) (Nat.add ck 1) ks) p σ.h, σ.nx⟩))
                | false => none)
              | _ => none)
            | _ => none)
          | false => none)
        | false => none)
      | _ => none)
    | none => none)
noncomputable def eevF (e : EOp) (nm : Option Pos) (A : T V) (σ : St) : Option (V × St) := match e with
  | .st a x n => eevF_st a x n nm A σ
  | .alo z => eevF_alo z nm A σ
  | .box a n => eevF_box a n nm A σ
  | .bsl z ps len esz => eevF_bsl z ps len esz nm A σ
  | .mkm ks => eevF_mkm ks nm A σ
  | .mks len cap z esz bts => eevF_mks len cap z esz bts nm A σ
  | .app s x esz bts str => eevF_app s x esz bts str nm A σ
  | .cpy d s esz => eevF_cpy d s esz nm A σ
  | .clr s z esz => eevF_clr s z esz nm A σ
  | .mup m k v ks => eevF_mup m k v ks nm A σ
  | .mdl m k ks => eevF_mdl m k ks nm A σ
  | .men m k ks z => eevF_men m k ks z nm A σ
  | .mes m s v => eevF_mes m s v nm A σ
  | .rgm m => eevF_rgm m nm A σ
  | .nxm m => eevF_nxm m nm A σ
  | .ent m => eevF_ent m nm A σ
  | .prd a => eevF_prd a nm A σ
  | .pin m k v ks => eevF_pin m k v ks nm A σ
theorem eevF_eq : eevF = eev := by
  funext e nm A σ
  cases e <;> rfl
end Go.Proofs.YtcecdaeceipbnaaGreatDoor

/-
  An operation looks at its operands alone; machines: functions, regions, code. (Of no program.)
-/
namespace Go.Proofs.YtcecdaeceipbnaaGreatDoor
set_option linter.unusedVariables false
set_option linter.unusedSimpArgs false
set_option linter.unusedSectionVars false
open Go

def QOp.args : QOp → List Arg
  | .mv a => [a]
  | .pick c a b => [c, a, b]
  | .bld z ps => ps.map (·.2.2)
  | .fadr a off => [a]
  | .fld a off n ag => [a]
  | .iadr a i esz => [a, i]
  | .iada a i esz n => [a, i]
  | .idxa a i esz n ag => [a, i]
  | .idxs a i => [a, i]
  | .nck a => [a]
  | .bin op a c => [a, c]
  | .shf l a c => [a, c]
  | .cmpb ne a c => [a, c]
  | .cmps op a c => [a, c]
  | .eqp kd ne a c => [a, c]
  | .eqa ne sh a c => [a, c]
  | .not a => [a]
  | .neg a => [a]
  | .inv a => [a]
  | .cvi k a => [a]
  | .cvid a => [a]
  | .mki t a => [a]
  | .mkf f xs ys => xs ++ ys
  | .tas a t z ok => [a]
  | .tai a ts ok => [a]
  | .ext a i => [a]
  | .lenv a => [a]
  | .lens a => [a]
  | .lenc n => []
  | .slc a lo hi esz => a :: (lo.toList ++ hi.toList)
  | .slca a lo hi esz n => a :: (lo.toList ++ hi.toList)
  | .slcs a lo hi => a :: (lo.toList ++ hi.toList)
  | .mnx mx a c => [a, c]
  | .ld1 a => [a]
  | .ldn a n => [a]
  | .lkp m k ks z ok => [m, k]
  | .lenm m => [m]
  | .wts g => [g]

def EOp.args : EOp → List Arg
  | .st a x n => [a, x]
  | .alo z => []
  | .box a n => [a]
  | .bsl z ps len esz => ps.map (·.2.2)
  | .mkm ks => []
  | .mks len cap z esz bts => [len, cap]
  | .app s x esz bts str => [s, x]
  | .cpy d s esz => [d, s]
  | .clr s z esz => [s]
  | .mup m k v ks => [m, k, v]
  | .mdl m k ks => [m, k]
  | .men m k ks z => [m, k]
  | .mes m s v => [m, s, v]
  | .rgm m => [m]
  | .nxm m => [m]
  | .ent m => [m]
  | .prd a => [a]
  | .pin m k v ks => [m, k, v]

theorem bldF_congr {A A' : T V} : ∀ (ps : List (Nat × Nat × Arg)), (∀ p ∈ ps, ev A p.2.2 = ev A' p.2.2) → bldF A ps = bldF A' ps
  | [], _ => rfl
  | p :: ps, h => by
    funext z
    have e : ∀ B : T V, bldF B (p :: ps) z = match flat (ev B p.2.2) with
      | none => none
      | some l => (match Nat.beq (llen l) p.2.1 && Nat.ble (Nat.add p.1 p.2.1) (llen z) with | true => bldF B ps (lsplice z p.1 l) | false => none) := fun _ => rfl
    rw [e, e, h p (by simp), bldF_congr ps (fun q hq => h q (by simp [hq]))]
theorem optN_congr {A A' : T V} {x : Option Arg} (h : ∀ y, x = some y → ev A y = ev A' y) : ∀ d, optN A x d = optN A' x d := by
  intro d
  cases x with
  | none => rfl
  | some y => simp only [optN, h y rfl]

theorem qev_congr {pt : List Nat} {o : QOp} {A A' : T V} {σ : St} (h : ∀ x ∈ o.args, ev A x = ev A' x) : qev pt o A σ = qev pt o A' σ := by
  cases o with
  | mv a =>
    have h0 := h a (by simp [QOp.args])
    simp only [qev, h0]
  | pick c a b =>
    have h0 := h c (by simp [QOp.args])
    have h1 := h a (by simp [QOp.args])
    have h2 := h b (by simp [QOp.args])
    simp only [qev, h0, h1, h2]
  | bld z ps =>
    have h0 := bldF_congr ps (fun p hp => h p.2.2 (by simp only [QOp.args, List.mem_map]; exact ⟨p, hp, rfl⟩))
    simp only [qev, h0]
  | fadr a off =>
    have h0 := h a (by simp [QOp.args])
    simp only [qev, h0]
  | fld a off n ag =>
    have h0 := h a (by simp [QOp.args])
    simp only [qev, h0]
  | iadr a i esz =>
    have h0 := h a (by simp [QOp.args])
    have h1 := h i (by simp [QOp.args])
    simp only [qev, h0, h1]
  | iada a i esz n =>
    have h0 := h a (by simp [QOp.args])
    have h1 := h i (by simp [QOp.args])
    simp only [qev, h0, h1]
  | idxa a i esz n ag =>
    have h0 := h a (by simp [QOp.args])
    have h1 := h i (by simp [QOp.args])
    simp only [qev, h0, h1]
  | idxs a i =>
    have h0 := h a (by simp [QOp.args])
    have h1 := h i (by simp [QOp.args])
    simp only [qev, h0, h1]
  | nck a =>
    have h0 := h a (by simp [QOp.args])
    simp only [qev, h0]
  | bin op a c =>
    have h0 := h a (by simp [QOp.args])
    have h1 := h c (by simp [QOp.args])
    simp only [qev, h0, h1]
  | shf l a c =>
    have h0 := h a (by simp [QOp.args])
    have h1 := h c (by simp [QOp.args])
    simp only [qev, h0, h1]
  | cmpb ne a c =>
    have h0 := h a (by simp [QOp.args])
    have h1 := h c (by simp [QOp.args])
    simp only [qev, h0, h1]
  | cmps op a c =>
    have h0 := h a (by simp [QOp.args])
    have h1 := h c (by simp [QOp.args])
    simp only [qev, h0, h1]
  | eqp kd ne a c =>
    have h0 := h a (by simp [QOp.args])
    have h1 := h c (by simp [QOp.args])
    simp only [qev, h0, h1]
  | eqa ne sh a c =>
    have h0 := h a (by simp [QOp.args])
    have h1 := h c (by simp [QOp.args])
    simp only [qev, h0, h1]
  | not a =>
    have h0 := h a (by simp [QOp.args])
    simp only [qev, h0]
  | neg a =>
    have h0 := h a (by simp [QOp.args])
    simp only [qev, h0]
  | inv a =>
    have h0 := h a (by simp [QOp.args])
    simp only [qev, h0]
  | cvi k a =>
    have h0 := h a (by simp [QOp.args])
    simp only [qev, h0]
  | cvid a =>
    have h0 := h a (by simp [QOp.args])
    simp only [qev, h0]
  | mki t a =>
    have h0 := h a (by simp [QOp.args])
    simp only [qev, h0]
  | mkf f xs ys =>
    have h0 : lmap (ev A) xs = lmap (ev A') xs := by rw [lmap_eq, lmap_eq]; exact List.map_congr_left fun x hx => h x (by simp [QOp.args, hx])
    have h1 : lmap (ev A) ys = lmap (ev A') ys := by rw [lmap_eq, lmap_eq]; exact List.map_congr_left fun x hx => h x (by simp [QOp.args, hx])
    simp only [qev, h0, h1]
  | tas a t z ok =>
    have h0 := h a (by simp [QOp.args])
    simp only [qev, h0]
  | tai a ts ok =>
    have h0 := h a (by simp [QOp.args])
    simp only [qev, h0]
  | ext a i =>
    have h0 := h a (by simp [QOp.args])
    simp only [qev, h0]
  | lenv a =>
    have h0 := h a (by simp [QOp.args])
    simp only [qev, h0]
  | lens a =>
    have h0 := h a (by simp [QOp.args])
    simp only [qev, h0]
  | lenc n =>
    rfl
  | slc a lo hi esz =>
    have h0 := h a (by simp [QOp.args])
    have h1 : ∀ d, optN A lo d = optN A' lo d := optN_congr fun x hx => h x (by simp [QOp.args, hx])
    have h2 : ∀ d, optN A hi d = optN A' hi d := optN_congr fun x hx => h x (by simp [QOp.args, hx])
    simp only [qev, h0, h1, h2]
  | slca a lo hi esz n =>
    have h0 := h a (by simp [QOp.args])
    have h1 : ∀ d, optN A lo d = optN A' lo d := optN_congr fun x hx => h x (by simp [QOp.args, hx])
    have h2 : ∀ d, optN A hi d = optN A' hi d := optN_congr fun x hx => h x (by simp [QOp.args, hx])
    simp only [qev, h0, h1, h2]
  | slcs a lo hi =>
    have h0 := h a (by simp [QOp.args])
    have h1 : ∀ d, optN A lo d = optN A' lo d := optN_congr fun x hx => h x (by simp [QOp.args, hx])
    have h2 : ∀ d, optN A hi d = optN A' hi d := optN_congr fun x hx => h x (by simp [QOp.args, hx])
    simp only [qev, h0, h1, h2]
  | mnx mx a c =>
    have h0 := h a (by simp [QOp.args])
    have h1 := h c (by simp [QOp.args])
    simp only [qev, h0, h1]
  | ld1 a =>
    have h0 := h a (by simp [QOp.args])
    simp only [qev, h0]
  | ldn a n =>
    have h0 := h a (by simp [QOp.args])
    simp only [qev, h0]
  | lkp m k ks z ok =>
    have h0 := h m (by simp [QOp.args])
    have h1 := h k (by simp [QOp.args])
    simp only [qev, h0, h1]
  | lenm m =>
    have h0 := h m (by simp [QOp.args])
    simp only [qev, h0]
  | wts g =>
    have h0 := h g (by simp [QOp.args])
    simp only [qev, h0]

theorem eev_congr {o : EOp} {nm : Option Pos} {A A' : T V} {σ : St} (h : ∀ x ∈ o.args, ev A x = ev A' x) : eev o nm A σ = eev o nm A' σ := by
  cases o with
  | st a x n =>
    have h0 := h a (by simp [EOp.args])
    have h1 := h x (by simp [EOp.args])
    simp only [eev, h0, h1]
  | alo z =>
    rfl
  | box a n =>
    have h0 := h a (by simp [EOp.args])
    simp only [eev, h0]
  | bsl z ps len esz =>
    have h0 := bldF_congr ps (fun p hp => h p.2.2 (by simp only [EOp.args, List.mem_map]; exact ⟨p, hp, rfl⟩))
    simp only [eev, h0]
  | mkm ks =>
    rfl
  | mks len cap z esz bts =>
    have h0 := h len (by simp [EOp.args])
    have h1 := h cap (by simp [EOp.args])
    simp only [eev, h0, h1]
  | app s x esz bts str =>
    have h0 := h s (by simp [EOp.args])
    have h1 := h x (by simp [EOp.args])
    simp only [eev, h0, h1]
  | cpy d s esz =>
    have h0 := h d (by simp [EOp.args])
    have h1 := h s (by simp [EOp.args])
    simp only [eev, h0, h1]
  | clr s z esz =>
    have h0 := h s (by simp [EOp.args])
    simp only [eev, h0]
  | mup m k v ks =>
    have h0 := h m (by simp [EOp.args])
    have h1 := h k (by simp [EOp.args])
    have h2 := h v (by simp [EOp.args])
    simp only [eev, h0, h1, h2]
  | mdl m k ks =>
    have h0 := h m (by simp [EOp.args])
    have h1 := h k (by simp [EOp.args])
    simp only [eev, h0, h1]
  | men m k ks z =>
    have h0 := h m (by simp [EOp.args])
    have h1 := h k (by simp [EOp.args])
    simp only [eev, h0, h1]
  | mes m s v =>
    have h0 := h m (by simp [EOp.args])
    have h1 := h s (by simp [EOp.args])
    have h2 := h v (by simp [EOp.args])
    simp only [eev, h0, h1, h2]
  | rgm m =>
    have h0 := h m (by simp [EOp.args])
    simp only [eev, h0]
  | nxm m =>
    have h0 := h m (by simp [EOp.args])
    simp only [eev, h0]
  | ent m =>
    have h0 := h m (by simp [EOp.args])
    simp only [eev, h0]
  | prd a =>
    have h0 := h a (by simp [EOp.args])
    simp only [eev, h0]
  | pin m k v ks =>
    have h0 := h m (by simp [EOp.args])
    have h1 := h k (by simp [EOp.args])
    have h2 := h v (by simp [EOp.args])
    simp only [eev, h0, h1, h2]


/-- the operations of a region -/
inductive XOp where
  | q (o : QOp)
  | e (o : EOp)
  | l (o : EOp) (j : Nat)
  | call (f : Pos) (as_ : List Arg)
  | callv (g : Arg) (as_ : List Arg)
  | inv (r : Arg) (name : String) (as_ : List Arg)
  | bad
def XOp.args : XOp → List Arg
  | .q o => o.args | .e o => o.args | .l o _ => o.args | .call _ as_ => as_ | .callv g as_ => g :: as_ | .inv r _ as_ => r :: as_ | .bad => []
/-- one of them: which in the text, where its result goes, whether it is wanted, what is looked at again behind it -/
structure RO where
  idx : Nat
  dst : Option Pos
  op : XOp
  gd : Option (Pos × Bool)
  re : List (Pos × QOp × Option (Pos × Bool))
inductive RV where
  | t (p : Pos) | c1 (p : Pos) | cn (p : Pos) (n : Nat)
inductive IR where
  | skip
  | reg (l : List RO)
  | rgd (k : Nat) (l : List RO)
  | seq (a b : IR)
  | cnd (c : Arg) (a b : IR)
  | blk (i : Nat) (b : IR)
  | loop (b : IR)
  | exit (i : Nat)
  | ret
  | bad
inductive FnE where
  | code (n : Nat) (body : IR) (res : List RV)
  | spec (s : Nat)
structure Mach where
  tab : T FnE
  spec : Nat → List V → St → Option (V × St)
  pt : List Nat
  mt : List (Nat × String × Pos)
inductive XE where | nrm | ext (i : Nat) | ret

noncomputable def wantG (A : T V) (g : Option (Pos × Bool)) : Option Bool := match g with
  | none => some true
  | some (p, b) => (match ev A (.s p) with | .bool c => some (match b with | true => c | false => !c) | .tup _ => some false | _ => none)
noncomputable def putD (A : T V) (d : Option Pos) (v : V) : T V := match d with | some p => T.set v p A | none => A
/-- are two values the same? (false also where it is not looked) -/
noncomputable def veq0 (x y : V) : Bool := match x with
  | .bool a => (match y with | .bool b => (match a with | true => b | false => !b) | _ => false)
  | .int k a => (match y with | .int k' b => (match beqK k k' with | true => ieq a b | false => false) | _ => false)
  | .str a => (match y with | .str b => nateq a b | _ => false)
  | .nilp => (match y with | .nilp => true | _ => false)
  | .ptr p o => (match y with | .ptr q o' => (match p.beq q with | true => Nat.beq o o' | false => false) | _ => false)
  | .nils => (match y with | .nils => true | _ => false)
  | .slice p o l c e => (match y with
    | .slice p' o' l' c' e' => (match p.beq p' && Nat.beq o o' && Nat.beq l l' && Nat.beq e e' with
      | true => (match c with | none => (match c' with | none => true | some _ => false) | some a => (match c' with | none => false | some b => Nat.beq a b))
      | false => false)
    | _ => false)
  | .nilm => (match y with | .nilm => true | _ => false)
  | .map p => (match y with | .map q => p.beq q | _ => false)
  | .nilf => (match y with | .nilf => true | _ => false)
  | .fn f [] [] => (match y with | .fn f' [] [] => Nat.beq f f' | _ => false)
  | .nili => (match y with | .nili => true | _ => false)
  | _ => false
noncomputable def veqL (f : V → V → Bool) (l : List V) : List V → Bool := List.rec (motive := fun _ => List V → Bool) (fun m => match m with | [] => true | _ :: _ => false)
  (fun x _ ih m => match m with | [] => false | y :: m => (match f x y with | true => ih m | false => false)) l
noncomputable def veqS (f : V → V → Bool) (x y : V) : Bool := match x with
  | .agg l => (match y with | .agg m => veqL f l m | _ => false)
  | .iface t v => (match y with | .iface u w => (match Nat.beq t u with | true => f v w | false => false) | _ => false)
  | .tup l => (match y with | .tup m => veqL f l m | _ => false)
  | x => veq0 x y
noncomputable def veq (x y : V) : Bool := veqS (veqS (veqS veq0)) x y
noncomputable def rechk (pt : List Nat) (A : T V) (σ : St) (l : List (Pos × QOp × Option (Pos × Bool))) : Bool := List.rec (motive := fun _ => Bool) true
  (fun r _ ih => match wantG A r.2.2 with
    | none => false
    | some false => ih
    | some true => (match qevF pt r.2.1 A σ with | some v => (match veq v (ev A (.s r.1)) with | true => ih | false => false) | none => false)) l
noncomputable def natPos (n : Nat) : Pos := Nat.rec (motive := fun _ => Pos) .H (fun _ p => p.succ) n
noncomputable def mtFind (l : List (Nat × String × Pos)) (t : Nat) (name : String) : Option Pos := List.rec (motive := fun _ => Option Pos) none (fun x _ ih => match Nat.beq x.1 t && decide (x.2.1 = name) with | true => some x.2.2 | false => ih) l
noncomputable def frameOf (l : List V) : Pos → T V → T V := List.rec (motive := fun _ => Pos → T V → T V) (fun _ t => t) (fun v _ ih p t => ih p.succ (T.set v p t)) l
noncomputable def namesOf (k : Nat) : Pos → List Pos × Pos := Nat.rec (motive := fun _ => Pos → List Pos × Pos) (fun p => ([], p)) (fun _ ih p => (p :: (ih p.succ).1, (ih p.succ).2)) k
noncomputable def xfin (M : Mach) (ro : RO) (A : T V) (r : Option (V × St)) : Option (T V × St) := match r with
  | none => none
  | some (v, σ) => (match rechk M.pt (putD A ro.dst v) σ ro.re with | true => some (putD A ro.dst v, σ) | false => none)
noncomputable def xQ (M : Mach) (o : QOp) (A : T V) (σ : St) : Option (V × St) := match qevF M.pt o A σ with | some v => some (v, σ) | none => none
noncomputable def xL (nms : List Pos) (o : EOp) (j : Nat) (A : T V) (σ : St) : Option (V × St) := match lget nms j with | some p => (match T.get p σ.h with | none => eevF o (some p) A σ | some _ => (match isPv o with | true => eevF o (some p) A σ | false => none)) | none => none
noncomputable def xCallv (call : Pos → List V → St → Option (V × St)) (g : Arg) (l : List Arg) (A : T V) (σ : St) : Option (V × St) := match ev A g with | .fn f x y => call (natPos f) (lapp x (lapp (lmap (ev A) l) y)) σ | _ => none
noncomputable def xInv (M : Mach) (call : Pos → List V → St → Option (V × St)) (r : Arg) (name : String) (l : List Arg) (A : T V) (σ : St) : Option (V × St) := match ev A r with | .iface t v => (match mtFind M.mt t name with | some f => call f (v :: lmap (ev A) l) σ | none => none) | _ => none
noncomputable def xop (M : Mach) (call : Pos → List V → St → Option (V × St)) (nms : List Pos) (x : XOp) (A : T V) (σ : St) : Option (V × St) := match x with
  | .q o => xQ M o A σ
  | .e o => eevF o none A σ
  | .l o j => xL nms o j A σ
  | .call f l => call f (lmap (ev A) l) σ
  | .callv g l => xCallv call g l A σ
  | .inv r name l => xInv M call r name l A σ
  | .bad => none
noncomputable def xstep (M : Mach) (call : Pos → List V → St → Option (V × St)) (nms : List Pos) (ro : RO) (A : T V) (σ : St) : Option (T V × St) := match wantG A ro.gd with
  | none => none
  | some false => some (putD A ro.dst (.tup []), σ)
  | some true => xfin M ro A (xop M call nms ro.op A σ)
noncomputable def runR (M : Mach) (call : Pos → List V → St → Option (V × St)) (nms : List Pos) (l : List RO) : T V → St → Option (T V × St) := List.rec (motive := fun _ => T V → St → Option (T V × St)) (fun A σ => some (A, σ))
  (fun ro _ ih A σ => match xstep M call nms ro A σ with | none => none | some (A', σ') => ih A' σ') l
noncomputable def loopF (b : T V → St → Option (XE × T V × St)) (n : Nat) : T V → St → Option (XE × T V × St) := Nat.rec (motive := fun _ => T V → St → Option (XE × T V × St)) (fun _ _ => none)
  (fun _ ih A σ => match b A σ with | none => none | some (x, A', σ') => (match x with | .nrm => ih A' σ' | x => some (x, A', σ'))) n
noncomputable def eReg (M : Mach) (call : Pos → List V → St → Option (V × St)) (l : List RO) (A : T V) (σ : St) : Option (XE × T V × St) := match runR M call [] l A σ with | none => none | some (A', σ') => some (.nrm, A', σ')
noncomputable def eRgd (M : Mach) (call : Pos → List V → St → Option (V × St)) (k : Nat) (l : List RO) (A : T V) (σ : St) : Option (XE × T V × St) := match namesOf k σ.nx with | (nms, nx) => (match runR M call nms l A ⟨σ.h, nx⟩ with | none => none | some (A', σ') => some (.nrm, A', σ'))
noncomputable def eSeq (fa fb : T V → St → Option (XE × T V × St)) (A : T V) (σ : St) : Option (XE × T V × St) := match fa A σ with | none => none | some (x, A', σ') => (match x with | .nrm => fb A' σ' | x => some (x, A', σ'))
noncomputable def eCnd (c : Arg) (fa fb : T V → St → Option (XE × T V × St)) (A : T V) (σ : St) : Option (XE × T V × St) := match ev A c with | .bool t => (match t with | true => fa A σ | false => fb A σ) | _ => none
noncomputable def eBlk (i : Nat) (f : T V → St → Option (XE × T V × St)) (A : T V) (σ : St) : Option (XE × T V × St) := match f A σ with | none => none | some (x, A', σ') => (match x with | .ext j => (match Nat.beq j i with | true => some (.nrm, A', σ') | false => some (.ext j, A', σ')) | x => some (x, A', σ'))
noncomputable def exec (M : Mach) (call : Pos → List V → St → Option (V × St)) (n : Nat) (c : IR) : T V → St → Option (XE × T V × St) := IR.rec (motive := fun _ => T V → St → Option (XE × T V × St))
  (fun A σ => some (.nrm, A, σ))
  (fun l => eReg M call l)
  (fun k l => eRgd M call k l)
  (fun _ _ iha ihb => eSeq iha ihb)
  (fun c _ _ iha ihb => eCnd c iha ihb)
  (fun i _ ih => eBlk i ih)
  (fun _ ih => loopF ih n)
  (fun i A σ => some (.ext i, A, σ))
  (fun A σ => some (.ret, A, σ))
  (fun _ _ => none) c
noncomputable def resF (l : List RV) (A : T V) (σ : St) : Option (List V) := List.rec (motive := fun _ => Option (List V)) (some []) (fun r _ ih => match ih with
  | none => none
  | some vs => (match (match r with | .t p => some (ev A (.s p)) | .c1 p => qevF_ld1 (.s p) [] A σ | .cn p n => qevF_ldn (.s p) n [] A σ) with | some v => some (v :: vs) | none => none)) l
noncomputable def one (l : List V) : V := match l with | [v] => v | l => .tup l
noncomputable def runFn1 (M : Mach) (call : Pos → List V → St → Option (V × St)) (n : Nat) (f : Pos) (vs : List V) (σ : St) : Option (V × St) := match T.get f M.tab with
  | none => none
  | some (.spec s) => M.spec s vs σ
  | some (.code nt b res) => (match Nat.ble (llen vs) nt with
    | false => none
    | true => (match exec M call n b (frameOf vs .H .nil) σ with
      | none => none
      | some (x, A, σ') => (match x with
        | .ext _ => none
        | _ => (match resF res A σ' with | some l => some (one l, σ') | none => none))))
noncomputable def runFn (M : Mach) (n : Nat) : Pos → List V → St → Option (V × St) := Nat.rec (motive := fun _ => Pos → List V → St → Option (V × St)) (fun _ _ _ => none) (fun n ih => runFn1 M ih n) n
end Go.Proofs.YtcecdaeceipbnaaGreatDoor

/-
  Machines are sound: operations, regions in the text's order, code, loops, functions. (Of no program.)
-/
namespace Go.Proofs.YtcecdaeceipbnaaGreatDoor
set_option linter.unusedVariables false
set_option linter.unusedSimpArgs false
set_option linter.unusedSectionVars false
open Go

def isLate (e : EOp) : Bool := match e with | .alo _ => true | .box _ _ => true | .bsl _ _ _ _ => true | .mkm _ => true | _ => false
section
variable {P : Program}
def okX (E : Env P) (x : XOp) (op : Op) : Bool := match x with
  | .q o => okQ E o op
  | .e o => okE E o op
  | .l o _ => (okE E o op && isLate o) || okP E o op
  | .call f l => (match op with | .call ⟨.value (.func g), args, _⟩ => f.nat == g + 1 && okAs E.ng l args.toList | _ => false)
  | .callv g l => (match op with | .call ⟨.value x, args, _⟩ => okA E.ng g x && okAs E.ng l args.toList | _ => false)
  | .inv r name l => (match op with | .call ⟨.invoke x name', args, _⟩ => decide (name = name') && okA E.ng r x && okAs E.ng l args.toList | _ => false)
  | .bad => true
def okDst (n : Nat) (d : Option Pos) (t : Option Tmp) : Bool := match d, t with | none, none => true | some p, some t => p.nat == t + 1 && decide (t < n) | _, _ => false
def okGd (ops : Array Oper) (g : Option (Pos × Bool)) (h : Option (Nat × Bool)) : Bool := match g, h with
  | none, none => true
  | some (p, b), some (j, c) => b == c && (match (ops[j]?).bind (·.dst) with | some t => p.nat == t + 1 | none => false)
  | _, _ => false
def okRO (E : Env P) (n : Nat) (ops : Array Oper) (r : RO) (o : Oper) : Bool := okX E r.op o.op && okDst n r.dst o.dst && okGd ops r.gd o.guard
def isL : XOp → Bool | .l _ _ => true | _ => false
def okROs (E : Env P) (n : Nat) (ops : Array Oper) : List RO → List Oper → Bool
  | [], [] => true
  | r :: l, o :: m => okRO E n ops r o && !isL r.op && okROs E n ops l m
  | _, _ => false

/-- what a call comes to -/
def Post (ι : Nm) (σ : St) (w : World) (v : V) (σ' : St) : Ending → World → Prop := fun e w' => ∃ ι' v', e = .returned v' ∧ VR ι' v v' ∧ Rep ι' σ' w' ∧ G σ.nx.nat ι σ w ι' σ' w'
def CallOK (P : Program) (ng : GS) (call : Pos → List V → St → Option (V × St)) : Prop := ∀ f vs σ v σ', call f vs σ = some (v, σ') →
  (∃ fn, P.funcs[f.nat - 1]? = some fn ∧ fn.body.isSome = true ∧ (fn.name == "runtime.NumGoroutine") = false) ∧
  ∀ (ι : Nm) (w : World) (args : Array Value), Gl ng ι → Rep ι σ w → VRs ι vs args.toList → Calls P (f.nat - 1) args w (Post ι σ w v σ')
structure MtOk (P : Program) (mt : List (Nat × String × Pos)) : Prop where
  ok : ∀ x ∈ mt, ∀ (v : Value) (w : World), (method (P.types.size + Made.depth) x.1 v x.2.1).run P w = .ok (x.2.2.nat - 1, v) w

theorem natPos_nat (n : Nat) : (natPos n).nat = n + 1 := by
  induction n with
  | zero => rfl
  | succ n ih =>
    have : natPos (n + 1) = (natPos n).succ := rfl
    rw [this, Pos.succ_nat, ih]
theorem mtFind_mem {l : List (Nat × String × Pos)} {t : Nat} {name : String} {f : Pos} (h : mtFind l t name = some f) : (t, name, f) ∈ l := by
  induction l with
  | nil => cases h
  | cons x l ih =>
    have e : mtFind (x :: l) t name = match Nat.beq x.1 t && decide (x.2.1 = name) with | true => some x.2.2 | false => mtFind l t name := rfl
    rw [e] at h
    split at h
    · rename_i hb
      simp only [Bool.and_eq_true, decide_eq_true_eq] at hb
      have h1 := Nat.eq_of_beq_eq_true hb.1
      cases h
      obtain ⟨a, b, c⟩ := x
      simp only at h1 hb
      rw [← h1, ← hb.2]
      simp
    · exact List.mem_cons_of_mem _ (ih h)
theorem run_callFunc {f : Nat} {args : Array Value} {fn : Func} (hf : P.funcs[f]? = some fn) (hb : fn.body.isSome = true) (hn : (fn.name == "runtime.NumGoroutine") = false) (w : World) :
    (callFunc f args).run P w = .ok (.enter f args) w := by
  have hb' : fn.body ≠ none := fun h => by rw [h] at hb; cases hb
  have hn' : fn.name ≠ "runtime.NumGoroutine" := by simpa using hn
  simp [callFunc, program, Sem.run, hf, hn', hb']
theorem call_sound {ng : GS} {call : Pos → List V → St → Option (V × St)} (hc : CallOK P ng call) {f : Pos} {vs : List V} {σ σ' : St} {v : V} (h : call f vs σ = some (v, σ')) {ι : Nm} {w : World} {args : Array Value} (L : Gl ng ι) (R : Rep ι σ w) (hv : VRs ι vs args.toList)
    {o : Oper} {a : Act} (hr : (execOp a.eval o).run P w = (callFunc (f.nat - 1) args).run P w) {K : Act → World → Prop} {Q : Exit → Act → World → Prop}
    (hK : ∀ ι' v' w', VR ι' v v' → Rep ι' σ' w' → G σ.nx.nat ι σ w ι' σ' w' → K (a.put o.dst v') w') : o.wp P a w K Q := by
  obtain ⟨⟨fn, h1, h2, h3⟩, h4⟩ := hc f vs σ v σ' h
  unfold Oper.wp
  rw [hr, run_callFunc h1 h2 h3]
  simp only [Oper.upon]
  refine (h4 ι w args L R hv).mono ?_
  rintro e w' ⟨ι', v', rfl, q1, q2, q3⟩
  exact hK ι' v' w' q1 q2 q3
theorem xop_sound {E : Env P} {M : Mach} (hpt : M.pt = E.pt) (hmt : MtOk P M.mt) {call : Pos → List V → St → Option (V × St)} (hc : CallOK P E.ng call) {nms : List Pos} {x : XOp} {n : Nat} {ds : List Deferred} {ι : Nm} {A : T V} {a : Act} {σ σ' : St} {w : World} {o : Oper} {v : V}
    (F : FR n ds ι A a) (L : Gl E.ng ι) (R : Rep ι σ w) (hok : okX E x o.op = true) (hl : isL x = false) (h : xop M call nms x A σ = some (v, σ')) {K : Act → World → Prop} {Q : Exit → Act → World → Prop}
    (hK : ∀ ι' v' w', VR ι' v v' → Rep ι' σ' w' → G σ.nx.nat ι σ w ι' σ' w' → K (a.put o.dst v') w') : o.wp P a w K Q := by
  cases x with
  | q q =>
    simp only [xop, xQ, xL, xCallv, xInv, qevF_eq, eevF_eq] at h
    split at h
    · rename_i v1 hv
      cases h
      rw [hpt] at hv
      obtain ⟨v', r1, r2⟩ := q_sound q F.self L R hok hv
      unfold Oper.wp
      rw [r1]
      exact hK ι v' w r2 R (G.refl _ _ _ _)
    · cases h
  | e e =>
    simp only [xop, xQ, xL, xCallv, xInv, qevF_eq, eevF_eq] at h
    obtain ⟨ι', w', hh, q1, q2⟩ := e_sound e F.self L R hok h
    unfold Oper.wp
    rcases hh with ⟨v', r1, r2⟩ | ⟨r1, rfl⟩
    · rw [r1]; exact hK ι' v' w' r2 q1 q2
    · rw [r1]; exact hK ι' undef w' (.u _) q1 q2
  | l e j => cases hl
  | bad => cases h
  | call f l =>
    obtain ⟨d, op, ty, pos, af, g⟩ := o
    simp only [okX] at hok
    split at hok
    · rename_i g' args ats
      simp only [Bool.and_eq_true, beq_iff_eq] at hok
      simp only [xop, xQ, xL, xCallv, xInv, qevF_eq, eevF_eq] at h
      have hv := evs_sound F L _ _ hok.2
      rw [lmap_eq] at h
      refine call_sound hc h (args := args.map a.eval) L R (by simpa using hv) ?_ hK
      have : f.nat - 1 = g' := by omega
      unfold execOp
      simp only [resolve, Act.eval, Deferred.ofValue, invoke, Sem.run_bind, Sem.run_pure, Result.andThen_ok, this, Array.empty_append, Array.append_empty]
    · cases hok
  | callv g l =>
    obtain ⟨d, op, ty, pos, af, g0⟩ := o
    simp only [okX] at hok
    split at hok
    · rename_i x' args ats
      simp only [Bool.and_eq_true] at hok
      simp only [xop, xQ, xL, xCallv, xInv, qevF_eq, eevF_eq] at h
      split at h
      · rename_i f xs ys hg
        have hv := evs_sound F L _ _ hok.2
        obtain ⟨a1, b1, e1, e2, e3⟩ := (ev_as F L hok.1 hg).fn_inv
        rw [lmap_eq, lapp_eq, lapp_eq] at h
        refine call_sound hc h (args := a1 ++ args.map a.eval ++ b1) L R (by simpa using e2.append (hv.append e3)) ?_ hK
        have : (natPos f).nat - 1 = f := by rw [natPos_nat]; rfl
        unfold execOp
        simp only [resolve, e1, Deferred.ofValue, invoke, Sem.run_bind, Sem.run_pure, Result.andThen_ok, this]
      · cases h
    · cases hok
  | inv r name l =>
    obtain ⟨d, op, ty, pos, af, g0⟩ := o
    simp only [okX] at hok
    split at hok
    · rename_i x' name' args ats
      simp only [Bool.and_eq_true, decide_eq_true_eq] at hok
      obtain ⟨⟨rfl, h1⟩, h2⟩ := hok
      simp only [xop, xQ, xL, xCallv, xInv, qevF_eq, eevF_eq] at h
      split at h
      · rename_i t v1 hr
        split at h
        · rename_i f hf
          have hv := evs_sound F L _ _ h2
          obtain ⟨v1', e1, e2⟩ := (ev_as F L h1 hr).iface_inv
          have hm := hmt.ok _ (mtFind_mem hf)
          rw [lmap_eq] at h
          refine call_sound hc h (args := #[v1'] ++ args.map a.eval) L R (by simpa using VRs.cons e1 hv) ?_ hK
          unfold execOp
          have hex : (#[Value.iface t v1'] ++ args.map a.eval).extract 1 (#[Value.iface t v1'] ++ args.map a.eval).size = args.map a.eval := by
            apply Array.ext
            · simp
            · intro i h1 h2
              simp [Array.getElem_append]
          have hex2 : (#[Value.iface t v1'] ++ args.map a.eval)[0]? = some (Value.iface t v1') := by rw [Array.getElem?_append_left (by simp)]; rfl
          simp only [resolve, e2, invoke, Sem.run_bind, Sem.run_pure, Result.andThen_ok, hex, hex2, callMethod, program, Sem.run, hm v1' w]
        · cases h
      · cases h
    · cases hok

theorem want_sound {n : Nat} {ι : Nm} {A : T V} {a : Act} {ops : Array Oper} {g : Option (Pos × Bool)} {o : Oper} {b : Bool}
    (hF : ∀ p c, g = some (p, c) → ∀ v t, T.get p A = some v → p.nat = t + 1 → VR ι v (a.tmps.getD t undef)) (hok : okGd ops g o.guard = true) (h : wantG A g = some b) : Region.wanted o (yielded ops a.tmps) = b := by
  cases g with
  | none =>
    cases ho : o.guard with
    | none => simp only [wantG] at h; cases h; simp [Region.wanted, ho]
    | some x => rw [ho] at hok; simp [okGd] at hok
  | some x =>
    obtain ⟨p, c⟩ := x
    cases ho : o.guard with
    | none => rw [ho] at hok; simp [okGd] at hok
    | some y =>
      obtain ⟨j, want⟩ := y
      rw [ho] at hok
      simp only [okGd, Bool.and_eq_true, beq_iff_eq] at hok
      obtain ⟨rfl, hok⟩ := hok
      split at hok
      · rename_i t ht
        have hp : p.nat = t + 1 := by simpa using hok
        simp only [wantG] at h
        have he : ev A (.s p) = match T.get p A with | some v => v | none => .u := rfl
        have hy : yielded ops a.tmps j = match a.tmps[t]? with | some (.bool b) => some b | _ => none := by
          unfold yielded
          rw [ht]
          rfl
        cases hg : T.get p A with
        | none => rw [he, hg] at h; cases h
        | some v =>
          have hv := hF p c rfl v t hg hp
          rw [he, hg] at h
          simp only at h
          cases v <;> simp only at h <;> first | cases h | skip
          · rename_i d
            have hb := hv.bool_inv
            have h2 : a.tmps[t]? = some (.bool d) := by
              cases ht2 : a.tmps[t]? with
              | none => simp [ht2, undef] at hb
              | some z => simp [ht2] at hb; rw [hb]
            simp only [Region.wanted, ho, hy, h2]
            cases c <;> cases d <;> simp_all
          · obtain ⟨cc, hc, _⟩ := hv.of_tup
            have h2 : ∀ b, a.tmps[t]? ≠ some (.bool b) := fun b hb => by
              simp [hb] at hc
            have h3 : yielded ops a.tmps j = none := by
              rw [hy]
              split
              · rename_i b hb; exact absurd hb (h2 b)
              · rfl
            simp only [Region.wanted, ho, h3]
            rfl
      · cases hok
theorem FR.put {n : Nat} {ds : List Deferred} {ι : Nm} {A : T V} {a : Act} (F : FR n ds ι A a) {d : Option Pos} {t : Option Tmp} (hok : okDst n d t = true) {v : V} {v' : Value} (hv : VR ι v v') : FR n ds ι (putD A d v) (a.put t v') := by
  cases d with
  | none => cases t with
    | none => exact F
    | some t => simp [okDst] at hok
  | some p => cases t with
    | none => simp [okDst] at hok
    | some t =>
      simp only [okDst, Bool.and_eq_true, beq_iff_eq, decide_eq_true_eq] at hok
      obtain ⟨h1, h2⟩ := hok
      refine ⟨by simp [Act.put, F.size], F.defers, fun q x s hq hs => ?_⟩
      simp only [putD, T.get_set] at hq
      simp only [Act.put, Array.getD_eq_getD_getElem?, Array.getElem?_setIfInBounds]
      have hsz := F.size
      have h1' : p.nat = t + 1 := h1
      have hs' : q.nat = s + 1 := hs
      have h2' : t < n := h2
      split at hq
      · rename_i e; subst e
        cases hq
        have : t = s := by simp only [Tmp] at *; omega
        subst this
        rw [if_pos rfl, if_pos (by simp only [Tmp] at *; omega)]
        exact hv
      · rename_i e
        rw [if_neg (fun h => e (Pos.nat_inj (by simp only [Tmp] at *; omega)))]
        have := F.at_ q x s hq hs
        rw [Array.getD_eq_getD_getElem?] at this
        exact this
/-- a region that is done in the text's order -/
theorem seq_sound {E : Env P} {M : Mach} (hpt : M.pt = E.pt) (hmt : MtOk P M.mt) {call : Pos → List V → St → Option (V × St)} (hc : CallOK P E.ng call) {n : Nat} {ds : List Deferred} {ops : Array Oper} {Q : Exit → Act → World → Prop} :
    ∀ (l : List RO) (os : List Oper) {ι : Nm} {A A' : T V} {a : Act} {σ σ' : St} {w : World}, okROs E n ops l os = true → runR M call [] l A σ = some (A', σ') → FR n ds ι A a → Gl E.ng ι → Rep ι σ w →
      (∀ ι' a' w', FR n ds ι' A' a' → Rep ι' σ' w' → G σ.nx.nat ι σ w ι' σ' w' → Q .normal a' w') → wpList P ops Q os a w
  | [], [], ι, A, A', a, σ, σ', w, _, h, F, L, R, hQ => by
    have e : runR M call [] [] A σ = some (A, σ) := rfl
    rw [e] at h
    cases h
    exact hQ ι a w F R (G.refl _ _ _ _)
  | [], _ :: _, _, _, _, _, _, _, _, h, _, _, _, _, _ => by simp [okROs] at h
  | _ :: _, [], _, _, _, _, _, _, _, h, _, _, _, _, _ => by simp [okROs] at h
  | r :: l, o :: os, ι, A, A', a, σ, σ', w, hok, h, F, L, R, hQ => by
    simp only [okROs, okRO, Bool.and_eq_true] at hok
    obtain ⟨⟨⟨⟨h1, h2⟩, h3⟩, h4⟩, h5⟩ := hok
    have e : runR M call [] (r :: l) A σ = match xstep M call [] r A σ with | none => none | some (A', σ') => runR M call [] l A' σ' := rfl
    rw [e] at h
    split at h
    · cases h
    · rename_i A1 σ1 hs
      simp only [xstep] at hs
      split at hs
      · cases hs
      · rename_i hw
        have hw := want_sound (n := n) (a := a) (fun p c _ v t hg hp => F.at_ p v t hg hp) h3 hw
        cases hs
        simp only [wpList, hw]
        exact seq_sound hpt hmt hc l os h5 h (F.put h2 (.mk_tup .nil)) L R hQ
      · rename_i hw
        have hw := want_sound (n := n) (a := a) (fun p c _ v t hg hp => F.at_ p v t hg hp) h3 hw
        simp only [xfin] at hs
        split at hs
        · cases hs
        · rename_i v1 σ2 hx
          split at hs
          · cases hs
            simp only [wpList, hw, if_true]
            refine Or.inl (xop_sound hpt hmt hc F L R h1 (by simpa using h4) hx ?_)
            intro ι' v' w' q1 q2 q3
            exact seq_sound hpt hmt hc l os h5 h ((F.mono q3.ext).put h2 q1) (L.mono q3.ext) q2 (fun ι2 a2 w2 m1 m2 m3 => hQ ι2 a2 w2 m1 m2 (q3.trans q3.nx m3))
          · cases hs
end
end Go.Proofs.YtcecdaeceipbnaaGreatDoor

/-
  Machines are sound: code, loops, functions. (Of no program.)
-/
namespace Go.Proofs.YtcecdaeceipbnaaGreatDoor
set_option linter.unusedVariables false
set_option linter.unusedSimpArgs false
set_option linter.unusedSectionVars false
open Go

section
variable {P : Program}
/-- a loop, about to begin another round -/
def LoopAt (P : Program) (c : Code) (Q : Exit → Act → World → Prop) (a : Act) (w : World) : Prop := ∀ (b : Frame) (k : List Item) (cs : List Frame),
  ∃ e a' w', Q e a' w' ∧ Arrives P (lone (b.at a (.code c :: .inLoop c :: k)) cs w) b k cs e a' w'
theorem LoopAt.wp {c : Code} {Q : Exit → Act → World → Prop} {a : Act} {w : World} (h : LoopAt P c Q a w) : (Code.loop c).wp P Q a w := by
  intro b k cs
  obtain ⟨e, a', w', hq, harr⟩ := h b k cs
  exact ⟨e, a', w', hq, .of_steps (.one step_loop) harr⟩
theorem LoopAt.round {c : Code} {Q : Exit → Act → World → Prop} {a : Act} {w : World} (h : c.wp P (Exit.then (LoopAt P c Q) Q) a w) : LoopAt P c Q a w := by
  intro b k cs
  obtain ⟨e, a1, w1, hq, harr⟩ := h b (.inLoop c :: k) cs
  cases e with
  | normal =>
    obtain ⟨e2, a2, w2, hq2, harr2⟩ := hq b k cs
    exact ⟨e2, a2, w2, hq2, .of_steps (Steps.trans harr (.one step_inLoop)) harr2⟩
  | exit id => exact ⟨_, a1, w1, hq, .pass (x := .inLoop c) rfl (fun _ _ => .inl (by simp)) harr⟩
  | goto l => exact ⟨_, a1, w1, hq, .pass (x := .inLoop c) rfl (fun _ _ => .inl (by simp)) harr⟩
  | ret => exact ⟨_, a1, w1, hq, .pass (x := .inLoop c) rfl (fun _ _ => .inl (by simp)) harr⟩
  | panic ch => exact ⟨_, a1, w1, hq, .pass (x := .inLoop c) rfl (fun _ _ => .inl (by simp)) harr⟩
  | outgrown => exact ⟨_, a1, w1, hq, .pass (x := .inLoop c) rfl (fun _ _ => .inl (by simp)) harr⟩

def XQ (x : XE) (Q : Exit → Act → World → Prop) : Act → World → Prop := match x with | .nrm => Q .normal | .ext i => Q (.exit i) | .ret => Q .ret
/-- what is asked of the check of a region that draws its order -/
def RgdSound (P : Program) (E : Env P) (M : Mach) (n : Nat) (okD : Nat → List RO → Array Oper → Bool) : Prop := ∀ (call : Pos → List V → St → Option (V × St)), CallOK P E.ng call → ∀ (id k : Nat) (l : List RO) (ops : Array Oper), okD k l ops = true →
  ∀ {ds : List Deferred} {ι : Nm} {A A' : T V} {a : Act} {σ σ' : St} {w : World} {Q : Exit → Act → World → Prop}, runR M call (namesOf k σ.nx).1 l A ⟨σ.h, (namesOf k σ.nx).2⟩ = some (A', σ') → FR n ds ι A a → Gl E.ng ι → Rep ι σ w →
  (∀ ι' a' w', FR n ds ι' A' a' → Rep ι' σ' w' → G σ.nx.nat ι σ w ι' σ' w' → Q .normal a' w') → (Code.region id ops true).wp P Q a w
def okC (E : Env P) (n : Nat) (okD : Nat → List RO → Array Oper → Bool) : IR → Code → Bool
  | .skip, .skip => true
  | .reg l, .region _ ops false => okROs E n ops l ops.toList
  | .rgd k l, .region _ ops true => okD k l ops
  | .seq a b, .seq x y => okC E n okD a x && okC E n okD b y
  | .cnd c a b, .cond z x y => okA E.ng c z && okC E n okD a x && okC E n okD b y
  | .blk i b, .block j x => i == j && okC E n okD b x
  | .loop b, .loop x => okC E n okD b x
  | .exit i, .exit j => i == j
  | .ret, .ret => true
  | .bad, _ => true
  | _, _ => false
theorem exec_sound {E : Env P} {M : Mach} (hpt : M.pt = E.pt) (hmt : MtOk P M.mt) {call : Pos → List V → St → Option (V × St)} (hc : CallOK P E.ng call) {n : Nat} {ds : List Deferred} {okD : Nat → List RO → Array Oper → Bool} (hD : RgdSound P E M n okD) (fuel : Nat) :
    ∀ (c : IR) (x : Code) {ι : Nm} {A A' : T V} {a : Act} {σ σ' : St} {w : World} {e : XE} {Q : Exit → Act → World → Prop}, okC E n okD c x = true → exec M call fuel c A σ = some (e, A', σ') → FR n ds ι A a → Gl E.ng ι → Rep ι σ w →
      (∀ ι' a' w', FR n ds ι' A' a' → Rep ι' σ' w' → G σ.nx.nat ι σ w ι' σ' w' → XQ e Q a' w') → x.wp P Q a w := by
  intro c
  induction c with
  | skip =>
    intro x ι A A' a σ σ' w e Q hok h F L R hQ
    cases x <;> simp only [okC, Bool.false_eq_true] at hok
    have : some (XE.nrm, A, σ) = some (e, A', σ') := h
    cases this
    exact wp_skip (hQ ι a w F R (G.refl _ _ _ _))
  | reg l =>
    intro x ι A A' a σ σ' w e Q hok h F L R hQ
    cases x <;> try simp only [okC, Bool.false_eq_true] at hok
    rename_i id ops dr
    have hok : (match dr with | false => okROs E n ops l ops.toList | true => false) = true := by cases dr <;> exact hok
    cases dr <;> simp only [Bool.false_eq_true] at hok
    have h : (match runR M call [] l A σ with | none => none | some (A', σ') => some (XE.nrm, A', σ')) = some (e, A', σ') := h
    split at h
    · cases h
    · rename_i A1 σ1 hr
      cases h
      exact wp_region_list (seq_sound hpt hmt hc l _ hok hr F L R hQ)
  | rgd k l =>
    intro x ι A A' a σ σ' w e Q hok h F L R hQ
    cases x <;> try simp only [okC, Bool.false_eq_true] at hok
    rename_i id ops dr
    have hok : (match dr with | true => okD k l ops | false => false) = true := by cases dr <;> exact hok
    cases dr <;> simp only [Bool.false_eq_true] at hok
    have h : (match runR M call (namesOf k σ.nx).1 l A ⟨σ.h, (namesOf k σ.nx).2⟩ with | none => none | some (A', σ') => some (XE.nrm, A', σ')) = some (e, A', σ') := h
    split at h
    · cases h
    · rename_i A1 σ1 hr
      cases h
      exact hD call hc id k l ops hok hr F L R hQ
  | seq c1 c2 ih1 ih2 =>
    intro x ι A A' a σ σ' w e Q hok h F L R hQ
    cases x <;> simp only [okC, Bool.false_eq_true, Bool.and_eq_true] at hok
    have h : (match exec M call fuel c1 A σ with | none => none | some (x, A', σ') => (match x with | .nrm => exec M call fuel c2 A' σ' | x => some (x, A', σ'))) = some (e, A', σ') := h
    split at h
    · cases h
    · rename_i e1 A1 σ1 hr
      refine wp_seq (ih1 _ hok.1 hr F L R ?_)
      intro ι1 a1 w1 F1 R1 G1
      cases e1 with
      | nrm => exact ih2 _ hok.2 h F1 (L.mono G1.ext) R1 (fun ι2 a2 w2 F2 R2 G2 => hQ ι2 a2 w2 F2 R2 (G1.trans G1.nx G2))
      | ext i => cases h; exact hQ ι1 a1 w1 F1 R1 G1
      | ret => cases h; exact hQ ι1 a1 w1 F1 R1 G1
  | cnd c c1 c2 ih1 ih2 =>
    intro x ι A A' a σ σ' w e Q hok h F L R hQ
    cases x <;> simp only [okC, Bool.false_eq_true, Bool.and_eq_true] at hok
    have h : (match ev A c with | .bool t => (match t with | true => exec M call fuel c1 A σ | false => exec M call fuel c2 A σ) | _ => none) = some (e, A', σ') := h
    split at h
    · rename_i t hv
      have hb := (ev_as F L hok.1.1 hv).bool_inv
      cases t with
      | true => exact wp_cond_true hb (ih1 _ hok.1.2 h F L R hQ)
      | false => exact wp_cond_false hb (ih2 _ hok.2 h F L R hQ)
    · cases h
  | blk i c ih =>
    intro x ι A A' a σ σ' w e Q hok h F L R hQ
    cases x <;> simp only [okC, Bool.false_eq_true, Bool.and_eq_true, beq_iff_eq] at hok
    obtain ⟨rfl, hok⟩ := hok
    have h : (match exec M call fuel c A σ with | none => none | some (x, A', σ') => (match x with | .ext j => (match Nat.beq j i with | true => some (XE.nrm, A', σ') | false => some (.ext j, A', σ')) | x => some (x, A', σ'))) = some (e, A', σ') := h
    split at h
    · cases h
    · rename_i e1 A1 σ1 hr
      refine wp_block (ih _ hok hr F L R ?_)
      intro ι1 a1 w1 F1 R1 G1
      cases e1 with
      | nrm => cases h; exact hQ ι1 a1 w1 F1 R1 G1
      | ext j =>
        simp only [XQ, Exit.inBlock]
        have h : (match Nat.beq j i with | true => some (XE.nrm, A1, σ1) | false => some (.ext j, A1, σ1)) = some (e, A', σ') := h
        split at h
        · rename_i hj
          have := Nat.eq_of_beq_eq_true hj
          cases h
          rw [if_pos this]
          exact hQ ι1 a1 w1 F1 R1 G1
        · rename_i hj
          have : ¬ j = i := fun h => by rw [h] at hj; simp at hj
          cases h
          rw [if_neg this]
          exact hQ ι1 a1 w1 F1 R1 G1
      | ret => cases h; exact hQ ι1 a1 w1 F1 R1 G1
  | loop c ih =>
    intro x ι A A' a σ σ' w e Q hok h F L R hQ
    cases x <;> simp only [okC, Bool.false_eq_true] at hok
    rename_i body
    have h : loopF (exec M call fuel c) fuel A σ = some (e, A', σ') := h
    refine LoopAt.wp ?_
    have key : ∀ (f : Nat) {ι : Nm} {A : T V} {a : Act} {σ : St} {w : World}, loopF (exec M call fuel c) f A σ = some (e, A', σ') → FR n ds ι A a → Gl E.ng ι → Rep ι σ w →
        (∀ ι' a' w', FR n ds ι' A' a' → Rep ι' σ' w' → G σ.nx.nat ι σ w ι' σ' w' → XQ e Q a' w') → LoopAt P body Q a w := by
      intro f
      induction f with
      | zero => intro ι A a σ w h; cases h
      | succ f ihf =>
        intro ι A a σ w h F L R hQ
        have h : (match exec M call fuel c A σ with | none => none | some (x, A', σ') => (match x with | .nrm => loopF (exec M call fuel c) f A' σ' | x => some (x, A', σ'))) = some (e, A', σ') := h
        split at h
        · cases h
        · rename_i e1 A1 σ1 hr
          refine LoopAt.round (ih _ hok hr F L R ?_)
          intro ι1 a1 w1 F1 R1 G1
          cases e1 with
          | nrm => exact ihf h F1 (L.mono G1.ext) R1 (fun ι2 a2 w2 F2 R2 G2 => hQ ι2 a2 w2 F2 R2 (G1.trans G1.nx G2))
          | ext i => cases h; exact hQ ι1 a1 w1 F1 R1 G1
          | ret => cases h; exact hQ ι1 a1 w1 F1 R1 G1
    exact key fuel h F L R hQ
  | exit i =>
    intro x ι A A' a σ σ' w e Q hok h F L R hQ
    cases x <;> simp only [okC, Bool.false_eq_true, beq_iff_eq] at hok
    subst hok
    have : some (XE.ext i, A, σ) = some (e, A', σ') := h
    cases this
    exact wp_exit (hQ ι a w F R (G.refl _ _ _ _))
  | ret =>
    intro x ι A A' a σ σ' w e Q hok h F L R hQ
    cases x <;> simp only [okC, Bool.false_eq_true] at hok
    have : some (XE.ret, A, σ) = some (e, A', σ') := h
    cases this
    exact wp_ret (hQ ι a w F R (G.refl _ _ _ _))
  | bad =>
    intro x ι A A' a σ σ' w e Q hok h F L R hQ
    cases h

def okRV (E : Env P) : RV → ResultVar → Bool
  | .t p, .tmp t => p.nat == t + 1
  | .c1 p, .cell a ty => p.nat == a + 1 && aggB P ty == some false
  | .cn p n, .cell a ty => p.nat == a + 1 && aggB P ty == some true && szB P ty n
  | _, _ => false
def okRVs (E : Env P) : List RV → List ResultVar → Bool
  | [], [] => true
  | r :: l, x :: m => okRV E r x && okRVs E l m
  | _, _ => false
def resOf (tmps : Array Value) : ResultVar → Sem Value
  | .tmp t => pure (tmps.getD t undef)
  | .cell a t => do loadVar t (← asAddr (tmps.getD a undef))
theorem cell_of_load {t : TypeId} {x v' : Value} {w : World} {ρ : Operand → Value} {op : Operand} (hx : ρ op = x) {d : Option Tmp} {ty : TypeId} {pos : String} {af : Array Edge} {g : Option (Nat × Bool)}
    (h : (execOp ρ ⟨d, .load t op, ty, pos, af, g⟩).run P w = .ok (.value v') w) : (do loadVar t (← asAddr x) : Sem Value).run P w = .ok v' w := by
  have h : (do pure (Next.value (← Instr.loadAt t (ρ op))) : Sem Next).run P w = .ok (.value v') w := h
  rw [hx] at h
  have e : (do loadVar t (← asAddr x) : Sem Value).run P w = (Instr.loadAt t x).run P w ∨ ∀ r, (Instr.loadAt t x).run P w ≠ .ok r w := by
    cases x
    case pointer a =>
      cases a with
      | none => right; intro r; simp [Instr.loadAt, Instr.sureAddr, stuck, Sem.run]
      | some a => left; simp [Instr.loadAt, Instr.sureAddr, asAddr, Sem.run_bind, Sem.run_pure]
    all_goals (right; intro r; simp [Instr.loadAt, Instr.sureAddr, stuck, Sem.run])
  rw [Sem.run_bind] at h
  cases hr : (Instr.loadAt t x).run P w with
  | ok r w1 =>
    rw [hr] at h
    simp only [Result.andThen_ok, Sem.run_pure, Result.ok.injEq, Next.value.injEq] at h
    obtain ⟨rfl, rfl⟩ := h
    rcases e with e | e
    · rw [e, hr]
    · exact absurd hr (e _)
  | halt x w1 => rw [hr] at h; cases h
theorem res1_sound {E : Env P} {n : Nat} {ds : List Deferred} {ι : Nm} {A : T V} {a : Act} {σ : St} {w : World} {v : V} (F : FR n ds ι A a) (L : Gl E.ng ι) (R : Rep ι σ w) : ∀ (r : RV) (x : ResultVar), okRV E r x = true →
    (match r with | .t p => some (ev A (.s p)) | .c1 p => qev [] (.ld1 (.s p)) A σ | .cn p n => qev [] (.ldn (.s p) n) A σ) = some v → ∃ v', (resOf a.tmps x).run P w = .ok v' w ∧ VR ι v v'
  | .t p, .tmp t, hok, hv => by
    simp only [okRV, beq_iff_eq] at hok
    cases hv
    have := ev_sound (x := .s p) (o := .tmp t) F L (by simp [okA, hok])
    exact ⟨_, rfl, this⟩
  | .c1 p, .cell t ty, hok, hv => by
    simp only [okRV, Bool.and_eq_true, beq_iff_eq] at hok
    obtain ⟨v', r1, r2⟩ := q_sound (E := E) (.ld1 (.s p)) (o := ⟨none, .load ty (.tmp t), 0, "", #[], none⟩) F.self L R (by simp [okQ, okA, hok.1, hok.2]) hv
    exact ⟨v', cell_of_load (ρ := a.eval) (op := .tmp t) rfl r1, r2⟩
  | .cn p k, .cell t ty, hok, hv => by
    simp only [okRV, Bool.and_eq_true, beq_iff_eq] at hok
    obtain ⟨v', r1, r2⟩ := q_sound (E := E) (.ldn (.s p) k) (o := ⟨none, .load ty (.tmp t), 0, "", #[], none⟩) F.self L R (by simp [okQ, okA, hok.1.1, hok.1.2, hok.2]) hv
    exact ⟨v', cell_of_load (ρ := a.eval) (op := .tmp t) rfl r1, r2⟩
  | .t _, .cell _ _, hok, _ => by cases hok
  | .c1 _, .tmp _, hok, _ => by cases hok
  | .cn _ _, .tmp _, hok, _ => by cases hok
theorem res_sound {E : Env P} {n : Nat} {ds : List Deferred} {ι : Nm} {A : T V} {a : Act} {σ : St} {w : World} (F : FR n ds ι A a) (L : Gl E.ng ι) (R : Rep ι σ w) : ∀ (l : List RV) (rs : List ResultVar) (vs : List V), okRVs E l rs = true → resF l A σ = some vs →
    ∃ cs : List Value, (rs.mapM (resOf a.tmps)).run P w = .ok cs w ∧ VRs ι vs cs
  | [], [], vs, _, h => by
    have : some [] = some vs := h
    cases this
    exact ⟨[], by rw [List.mapM_nil]; rfl, .nil⟩
  | [], _ :: _, _, h, _ => by simp [okRVs] at h
  | _ :: _, [], _, h, _ => by simp [okRVs] at h
  | r :: l, x :: m, vs, hok, h => by
    simp only [okRVs, Bool.and_eq_true] at hok
    have e : resF (r :: l) A σ = match resF l A σ with
      | none => none
      | some vs => (match (match r with | .t p => some (ev A (.s p)) | .c1 p => qev [] (.ld1 (.s p)) A σ | .cn p n => qev [] (.ldn (.s p) n) A σ) with | some v => some (v :: vs) | none => none) := rfl
    rw [e] at h
    split at h
    · cases h
    · rename_i vs1 h1
      split at h
      · rename_i v hv
        cases h
        obtain ⟨cs, q1, q2⟩ := res_sound F L R l m vs1 hok.2 h1
        have hx := res1_sound F L R r x hok.1 hv
        obtain ⟨v', r1, r2⟩ := hx
        refine ⟨v' :: cs, ?_, .cons r2 q2⟩
        rw [List.mapM_cons]
        simp only [Sem.run_bind, r1, q1, Result.andThen_ok, Sem.run_pure]
      · cases h
theorem results_sound {E : Env P} {n : Nat} {ds : List Deferred} {ι : Nm} {A : T V} {a : Act} {σ : St} {w : World} (F : FR n ds ι A a) (L : Gl E.ng ι) (R : Rep ι σ w) {fn : Func} {l : List RV} {vs : List V} (hok : okRVs E l fn.results.toList = true) (h : resF l A σ = some vs) :
    ∃ v', (results fn a.tmps).run P w = .ok v' w ∧ VR ι (one vs) v' := by
  obtain ⟨cs, h1, h2⟩ := res_sound F L R l _ vs hok h
  have e : results fn a.tmps = (do let vs ← fn.results.mapM (resOf a.tmps); pure (if h : vs.size = 1 then vs[0] else .tuple vs)) := by
    unfold results
    congr 1
  have e2 : (fn.results.mapM (resOf a.tmps)).run P w = .ok cs.toArray w := by
    rw [Array.mapM_eq_mapM_toList, map_eq_pure_bind]
    simp only [Sem.run_bind, h1, Result.andThen_ok, Sem.run_pure]
  refine ⟨_, by rw [e, Sem.run_bind, e2]; rfl, ?_⟩
  have hl := h2.1
  match vs, cs, h2, hl with
  | [], [], h2, _ => exact .mk_tup h2
  | [v], [c], h2, _ => exact h2.head
  | v :: v1 :: vs, c :: c1 :: cs, h2, _ =>
    have : ¬ (c :: c1 :: cs).toArray.size = 1 := by simp
    rw [dif_neg this]
    exact .mk_tup h2

theorem frameOf_get : ∀ (l : List V) (p : Pos) (t : T V) (q : Pos) (v : V), T.get q (frameOf l p t) = some v → (p.nat ≤ q.nat ∧ l[q.nat - p.nat]? = some v) ∨ T.get q t = some v
  | [], p, t, q, v, h => .inr h
  | x :: l, p, t, q, v, h => by
    have h : T.get q (frameOf l p.succ (T.set x p t)) = some v := h
    rcases frameOf_get l p.succ (T.set x p t) q v h with ⟨h1, h2⟩ | h1
    · rw [Pos.succ_nat] at h1 h2
      refine .inl ⟨by omega, ?_⟩
      have : q.nat - p.nat = (q.nat - (p.nat + 1)) + 1 := by omega
      rw [this, List.getElem?_cons_succ]
      exact h2
    · rw [T.get_set] at h1
      split at h1
      · rename_i e; subst e
        exact .inl ⟨Nat.le_refl _, by simpa using h1⟩
      · exact .inr h1
theorem FR.enter {n : Nat} {ι : Nm} {vs : List V} {args : Array Value} (hv : VRs ι vs args.toList) (hle : vs.length ≤ n) : FR n [] ι (frameOf vs .H .nil) { tmps := args ++ Array.replicate (n - args.size) undef, defers := [] } := by
  have hl : vs.length = args.size := by simpa using hv.1
  refine ⟨by simp; omega, rfl, fun p v t h1 h2 => ?_⟩
  rcases frameOf_get vs .H .nil p v h1 with ⟨h3, h4⟩ | h3
  · have hp : p.nat - Pos.H.nat = t := by show p.nat - 1 = t; omega
    rw [hp] at h4
    have ht : t < vs.length := (List.getElem?_eq_some_iff.1 h4).1
    have e : (args ++ Array.replicate (n - args.size) undef)[t]? = args[t]? := Array.getElem?_append_left (by omega)
    have e2 : args[t]? = some args[t] := Array.getElem?_eq_getElem (by omega)
    rw [Array.getD_eq_getD_getElem?, e, e2]
    refine hv.2 t v _ h4 ?_
    rw [Array.getElem?_toList]; exact e2
  · rw [T.get_nil] at h3; cases h3

/-- what is known of the functions of a machine -/
def FnIs (P : Program) (f : Pos) : Prop := ∃ fn, P.funcs[f.nat - 1]? = some fn ∧ fn.body.isSome = true ∧ (fn.name == "runtime.NumGoroutine") = false
structure MOk (P : Program) (E : Env P) (M : Mach) (okD : Nat → Nat → List RO → Array Oper → Bool) : Prop where
  pt : M.pt = E.pt
  mt : MtOk P M.mt
  rgd : ∀ n, RgdSound P E M n (okD n)
  code : ∀ f n b res, T.get f M.tab = some (.code n b res) → ∃ fn c, P.funcs[f.nat - 1]? = some fn ∧ fn.body = some c ∧ fn.ntmps = n ∧ (fn.name == "runtime.NumGoroutine") = false ∧ okC E n (okD n) b c = true ∧ okRVs E res fn.results.toList = true
  spec : ∀ f s, T.get f M.tab = some (.spec s) → FnIs P f ∧ ∀ vs σ v σ', M.spec s vs σ = some (v, σ') → ∀ (ι : Nm) (w : World) (args : Array Value), Gl E.ng ι → Rep ι σ w → VRs ι vs args.toList → Calls P (f.nat - 1) args w (Post ι σ w v σ')
theorem run_sound {E : Env P} {M : Mach} {okD : Nat → Nat → List RO → Array Oper → Bool} (K : MOk P E M okD) : ∀ k, CallOK P E.ng (runFn M k)
  | 0 => fun f vs σ v σ' h => by cases h
  | k + 1 => fun f vs σ v σ' h => by
    have ih := run_sound K k
    have h : runFn1 M (runFn M k) k f vs σ = some (v, σ') := h
    unfold runFn1 at h
    split at h
    · cases h
    · rename_i s hs
      obtain ⟨h1, h2⟩ := K.spec f s hs
      exact ⟨h1, h2 vs σ v σ' h⟩
    · rename_i n b res ht
      obtain ⟨fn, c, h1, h2, h3, h4, h5, h6⟩ := K.code f n b res ht
      refine ⟨⟨fn, h1, by rw [h2]; rfl, h4⟩, fun ι w args L R hv => ?_⟩
      split at h
      · cases h
      · rename_i hle
        have hle := ble_le hle
        rw [llen_eq] at hle
        split at h
        · cases h
        · rename_i x A σ1 hx
          refine calls_of_wp h1 h2 ?_
          rw [h3]
          refine exec_sound K.pt K.mt ih (K.rgd n) k b c h5 hx (FR.enter hv hle) L R ?_
          intro ι1 a1 w1 F1 R1 G1
          have fin : ∀ l, resF res A σ1 = some l → some (one l, σ1) = some (v, σ') → a1.defers = [] ∧ ∃ v', (results fn a1.tmps).run P w1 = .ok v' w1 ∧ Post ι σ w v σ' (.returned v') w1 := by
            intro l hl he
            cases he
            obtain ⟨v', r1, r2⟩ := results_sound F1 (L.mono G1.ext) R1 h6 hl
            exact ⟨F1.defers, v', r1, ι1, v', rfl, r2, R1, G1⟩
          cases x with
          | ext i => cases h
          | nrm =>
            simp only at h
            split at h
            · rename_i l hl; exact fin l hl h
            · cases h
          | ret =>
            simp only at h
            split at h
            · rename_i l hl; exact fin l hl h
            · cases h
end
end Go.Proofs.YtcecdaeceipbnaaGreatDoor

/-
  Regions that draw their order: what is checked beforehand. (Of no program.)
-/
namespace Go.Proofs.YtcecdaeceipbnaaGreatDoor
set_option linter.unusedVariables false
set_option linter.unusedSimpArgs false
set_option linter.unusedSectionVars false
open Go

theorem pbeq {p q : Pos} (h : p.beq q = true) : p = q := by rw [Pos.beq_eq] at h; simpa using h
theorem pbeq_ne {p q : Pos} (h : p.beq q = false) : p ≠ q := by rw [Pos.beq_eq] at h; simpa using h
theorem nbeq {a b : Nat} (h : Nat.beq a b = true) : a = b := Nat.eq_of_beq_eq_true h
theorem veq0_eq : ∀ {x y : V}, veq0 x y = true → x = y := by
  intro x y h
  cases x <;> simp only [veq0] at h
  case bool a =>
    cases y <;> simp only [Bool.false_eq_true] at h
    rename_i b; cases a <;> cases b <;> first | rfl | cases h
  case int k a =>
    cases y <;> simp only [Bool.false_eq_true] at h
    split at h
    · rename_i hk
      rw [ieq_eq] at h
      rw [beqK_eq hk, of_decide_eq_true h]
    · cases h
  case str a =>
    cases y <;> simp only [Bool.false_eq_true] at h
    rw [nateq_eq] at h; rw [of_decide_eq_true h]
  case nilp => cases y <;> first | rfl | cases h
  case ptr p o =>
    cases y <;> simp only [Bool.false_eq_true] at h
    split at h
    · rename_i hk; rw [pbeq hk, nbeq h]
    · cases h
  case nils => cases y <;> first | rfl | cases h
  case slice p o l c e =>
    cases y <;> simp only [Bool.false_eq_true] at h
    split at h
    · rename_i hk
      simp only [Bool.and_eq_true] at hk
      obtain ⟨⟨⟨h1, h2⟩, h3⟩, h4⟩ := hk
      rw [pbeq h1, nbeq h2, nbeq h3, nbeq h4]
      split at h
      · split at h
        · rfl
        · cases h
      · split at h
        · cases h
        · rw [nbeq h]
    · cases h
  case nilm => cases y <;> first | rfl | cases h
  case map p =>
    cases y <;> simp only [Bool.false_eq_true] at h
    rw [pbeq h]
  case nilf => cases y <;> first | rfl | cases h
  case fn f a b =>
    cases a <;> cases b <;> first | (cases h; done) | skip
    cases y <;> first | (cases h; done) | skip
    rename_i f' a' b'
    cases a' <;> cases b' <;> first | (cases h; done) | skip
    have h : Nat.beq f f' = true := h
    rw [nbeq h]
  case nili => cases y <;> first | rfl | cases h
  all_goals cases h
theorem veqL_eq {f : V → V → Bool} (hf : ∀ x y, f x y = true → x = y) : ∀ {x y : List V}, veqL f x y = true → x = y
  | [], [], _ => rfl
  | [], _ :: _, h => by cases h
  | _ :: _, [], h => by cases h
  | x :: l, y :: m, h => by
    have h : (match f x y with | true => veqL f l m | false => false) = true := h
    split at h
    · rename_i hh; rw [hf _ _ hh, veqL_eq hf h]
    · cases h
theorem veqS_eq {f : V → V → Bool} (hf : ∀ x y, f x y = true → x = y) : ∀ x y : V, veqS f x y = true → x = y := by
  intro x y h
  cases x
  case agg l =>
    cases y <;> first | (cases h; done) | skip
    have h : veqL f l _ = true := h
    rw [veqL_eq hf h]
  case tup l =>
    cases y <;> first | (cases h; done) | skip
    have h : veqL f l _ = true := h
    rw [veqL_eq hf h]
  case iface t v =>
    cases y <;> first | (cases h; done) | skip
    rename_i u w
    have h : (match Nat.beq t u with | true => f v w | false => false) = true := h
    split at h
    · rename_i hh; rw [nbeq hh, hf _ _ h]
    · cases h
  all_goals exact veq0_eq h
theorem veq_eq {x y : V} (h : veq x y = true) : x = y := veqS_eq (veqS_eq (veqS_eq (fun _ _ h => veq0_eq h))) x y h
noncomputable def argEq : Arg → Arg → Bool
  | .s p, .s q => p.beq q
  | .g p, .g q => p.beq q
  | .v x, .v y => veq x y
  | _, _ => false
theorem argEq_eq {a b : Arg} (h : argEq a b = true) : a = b := by
  cases a <;> cases b <;> first | (cases h; done) | skip
  · rw [pbeq h]
  · rw [veq_eq h]
  · rw [pbeq h]
noncomputable def optEq : Option Arg → Option Arg → Bool
  | none, none => true | some a, some b => argEq a b | _, _ => false
theorem optEq_eq {a b : Option Arg} (h : optEq a b = true) : a = b := by
  cases a <;> cases b <;> simp only [optEq, Bool.false_eq_true] at h
  · rfl
  · rw [argEq_eq h]
/-- looks at the memory -/
def isPure : QOp → Bool | .ld1 _ => false | .ldn _ _ => false | .lkp _ _ _ _ _ => false | .lenm _ => false | .wts _ => false | .eqp _ _ _ _ => false | .slca _ _ _ _ _ => false | _ => true
theorem qev_pure {q : QOp} (h : isPure q = true) (pt : List Nat) (A : T V) (σ σ2 : St) : qev pt q A σ = qev pt q A σ2 := by
  cases q <;> first | (cases h; done) | rfl
noncomputable def reEq : QOp → QOp → Bool
  | .ld1 a, .ld1 b => argEq a b
  | .ldn a n, .ldn b m => argEq a b && Nat.beq n m
  | .lkp m k ks z ok, .lkp m' k' ks' z' ok' => argEq m m' && argEq k k' && decide (ks = ks') && veq z z' && decide (ok = ok')
  | .lenm a, .lenm b => argEq a b
  | .wts a, .wts b => argEq a b
  | .eqp kd ne a c, .eqp kd' ne' a' c' => decide (kd = kd') && decide (ne = ne') && argEq a a' && argEq c c'
  | .slca a lo hi esz n, .slca a' lo' hi' esz' n' => argEq a a' && optEq lo lo' && optEq hi hi' && Nat.beq esz esz' && Nat.beq n n'
  | _, _ => false
theorem reEq_eq {a b : QOp} (h : reEq a b = true) : a = b := by
  cases a <;> first | (simp only [reEq, Bool.false_eq_true] at h; done) | skip
  all_goals cases b <;> first | (simp only [reEq, Bool.false_eq_true] at h; done) | skip
  all_goals simp only [reEq, Bool.and_eq_true, decide_eq_true_eq] at h
  · obtain ⟨⟨⟨rfl, rfl⟩, h1⟩, h2⟩ := h
    rw [argEq_eq h1, argEq_eq h2]
  · obtain ⟨⟨⟨⟨h1, h2⟩, h3⟩, h4⟩, h5⟩ := h
    rw [argEq_eq h1, optEq_eq h2, optEq_eq h3, nbeq h4, nbeq h5]
  · rw [argEq_eq h]
  · rw [argEq_eq h.1, nbeq h.2]
  · obtain ⟨⟨⟨⟨h1, h2⟩, rfl⟩, h4⟩, rfl⟩ := h
    rw [argEq_eq h1, argEq_eq h2, veq_eq h4]
  · rw [argEq_eq h]
  · rw [argEq_eq h]

/-! slots -/
def Arg.slot : Arg → List Pos | .s p => [p] | _ => []
def RO.gslot (r : RO) : List Pos := match r.gd with | some (p, _) => [p] | none => []
def RO.slots (r : RO) : List Pos := r.gslot ++ r.op.args.flatMap Arg.slot
noncomputable def restr : List Pos → T V → T V | [], _ => .nil | p :: l, A => match T.get p A with | some v => T.set v p (restr l A) | none => restr l A
theorem restr_get (l : List Pos) (A : T V) (q : Pos) : T.get q (restr l A) = if q ∈ l then T.get q A else none := by
  induction l with
  | nil => simp [restr, T.get_nil]
  | cons p l ih =>
    unfold restr
    split
    · rename_i v hv
      rw [T.get_set, ih]
      by_cases e : q = p
      · subst e; simp [hv]
      · simp [e]
    · rename_i hv
      rw [ih]
      by_cases e : q = p
      · subst e; simp [hv]
      · simp [e]
theorem ev_restr {l : List Pos} {A : T V} {x : Arg} (h : ∀ p ∈ x.slot, p ∈ l) : ev A x = ev (restr l A) x := by
  cases x with
  | s p =>
    have e : ∀ B : T V, ev B (.s p) = match T.get p B with | some v => v | none => .u := fun _ => rfl
    rw [e, e, restr_get, if_pos (h p (by simp [Arg.slot]))]
  | v x => rfl
  | g p => rfl
  | f n => rfl
theorem ev_slots {A B : T V} {x : Arg} (h : ∀ p ∈ x.slot, T.get p A = T.get p B) : ev A x = ev B x := by
  cases x with
  | s p =>
    have e : ∀ B : T V, ev B (.s p) = match T.get p B with | some v => v | none => .u := fun _ => rfl
    rw [e, e, h p (by simp [Arg.slot])]
  | v x => rfl
  | g p => rfl
  | f n => rfl
theorem xop_congr {M : Mach} {call : Pos → List V → St → Option (V × St)} {nms : List Pos} {x : XOp} {A A' : T V} {σ : St} (h : ∀ y ∈ x.args, ev A y = ev A' y) : xop M call nms x A σ = xop M call nms x A' σ := by
  have hl : ∀ l : List Arg, (∀ y ∈ l, ev A y = ev A' y) → lmap (ev A) l = lmap (ev A') l := fun l hl => by
    rw [lmap_eq, lmap_eq]; exact List.map_congr_left hl
  cases x with
  | q o => simp only [xop, xQ, xL, xCallv, xInv, qevF_eq, eevF_eq, qev_congr h]
  | e o => simp only [xop, xQ, xL, xCallv, xInv, qevF_eq, eevF_eq, eev_congr h]
  | l o j => simp only [xop, xQ, xL, xCallv, xInv, qevF_eq, eevF_eq, eev_congr h]
  | call f l => simp only [xop, xQ, xL, xCallv, xInv, qevF_eq, eevF_eq, hl l h]
  | callv g l => simp only [xop, xQ, xL, xCallv, xInv, qevF_eq, eevF_eq, hl l (fun y hy => h y (by simp [XOp.args, hy])), h g (by simp [XOp.args])]
  | inv r n l => simp only [xop, xQ, xL, xCallv, xInv, qevF_eq, eevF_eq, hl l (fun y hy => h y (by simp [XOp.args, hy])), h r (by simp [XOp.args])]
  | bad => rfl
theorem wantG_congr {A A' : T V} {g : Option (Pos × Bool)} (h : ∀ p c, g = some (p, c) → T.get p A = T.get p A') : wantG A g = wantG A' g := by
  cases g with
  | none => rfl
  | some x =>
    obtain ⟨p, b⟩ := x
    have := ev_slots (A := A) (B := A') (x := .s p) (fun q hq => by simp [Arg.slot] at hq; subst hq; exact h _ _ rfl)
    simp only [wantG, this]
theorem late_inv {e : EOp} (he : isLate e = true) {p : Pos} {A : T V} {σ σ' : St} {v : V} (h : eev e (some p) A σ = some (v, σ')) : ∃ ob : Ob, ob.kin = [] ∧ σ' = newB σ (some p) ob ∧ ∀ σ2, eev e (some p) A σ2 = some (v, newB σ2 (some p) ob) := by
  cases e <;> first | (cases he; done) | skip
  case alo z =>
    simp only [eev, Option.some.injEq, Prod.mk.injEq] at h
    obtain ⟨rfl, rfl⟩ := h
    exact ⟨_, rfl, rfl, fun _ => rfl⟩
  case box a n =>
    simp only [eev] at h
    split at h
    · rename_i l hl
      split at h
      · rename_i hb
        simp only [Option.some.injEq, Prod.mk.injEq] at h
        obtain ⟨rfl, rfl⟩ := h
        exact ⟨.cells l [] false false, rfl, rfl, fun _ => by simp only [eev, hl, hb]; rfl⟩
      · cases h
    · cases h
  case bsl z ps len esz =>
    simp only [eev] at h
    split at h
    · rename_i l hl
      simp only [Option.some.injEq, Prod.mk.injEq] at h
      obtain ⟨rfl, rfl⟩ := h
      exact ⟨.cells l [] false false, rfl, rfl, fun _ => by simp only [eev, hl]; rfl⟩
    · cases h
  case mkm ks =>
    simp only [eev, Option.some.injEq, Prod.mk.injEq] at h
    obtain ⟨rfl, rfl⟩ := h
    exact ⟨_, rfl, rfl, fun _ => rfl⟩
/-- an operation upon a block of the region's own looks at that alone, and turns that alone -/
theorem priv_inv {e : EOp} (he : isPv e = true) {p : Pos} {A : T V} {σ σ' : St} {v : V} (h : eev e (some p) A σ = some (v, σ')) : ∃ ob ob' : Ob, T.get p σ.h = some ob ∧ (ob.kin = [] → ob'.kin = []) ∧ σ'.nx = σ.nx ∧ (∀ q, T.get q σ'.h = if q = p then some ob' else T.get q σ.h) ∧
    ∀ σ2, T.get p σ2.h = some ob → ∃ σ2', eev e (some p) A σ2 = some (v, σ2') ∧ σ2'.nx = σ2.nx ∧ ∀ q, T.get q σ2'.h = if q = p then some ob' else T.get q σ2.h := by
  cases e <;> first | (cases he; done) | skip
  case prd a =>
    simp only [eev] at h
    split at h
    · rename_i q o hq
      split at h
      · rename_i hb
        split at h
        · rename_i l kin fz ro hg
          split at h
          · rename_i x hx
            simp only [Option.some.injEq, Prod.mk.injEq] at h
            obtain ⟨rfl, rfl⟩ := h
            refine ⟨_, _, hg, id, rfl, fun r => ?_, fun σ2 h2 => ⟨σ2, ?_, rfl, fun r => ?_⟩⟩
            · by_cases e : r = p
              · subst e; rw [if_pos rfl]; exact hg
              · rw [if_neg e]
            · simp only [eev, hq, hb, h2, hx]
            · by_cases e : r = p
              · subst e; rw [if_pos rfl]; exact h2
              · rw [if_neg e]
          · cases h
        · cases h
      · cases h
    · cases h
  case pin m k u ks =>
    simp only [eev] at h
    split at h
    · rename_i q' hm
      split at h
      · rename_i hb
        have hpq := pbeq hb
        subst hpq
        split at h
        · rename_i hsh
          split at h
          · rename_i q hm2
            cases hm2
            split at h
            · rename_i es ck ks' hg
              split at h
              · rename_i hks
                split at h
                · rename_i x hx
                  simp only [Option.some.injEq, Prod.mk.injEq] at h
                  obtain ⟨rfl, rfl⟩ := h
                  refine ⟨_, _, hg, fun _ => rfl, rfl, fun r => T.get_set .., fun σ2 h2 => ⟨⟨T.set (.map (mset (ev A k) (ev A u) es) ck ks) p σ2.h, σ2.nx⟩, ?_, rfl, fun r => T.get_set ..⟩⟩
                  simp only [eev, hm, hb, hsh, h2, hks, hx]
                · rename_i hx
                  simp only [Option.some.injEq, Prod.mk.injEq] at h
                  obtain ⟨rfl, rfl⟩ := h
                  refine ⟨_, _, hg, fun _ => rfl, rfl, fun r => T.get_set .., fun σ2 h2 => ⟨⟨T.set (.map (lapp es [⟨ev A k, ev A u, ck⟩]) (Nat.add ck 1) ks) p σ2.h, σ2.nx⟩, ?_, rfl, fun r => T.get_set ..⟩⟩
                  simp only [eev, hm, hb, hsh, h2, hks, hx]
              · cases h
            · cases h
          · rename_i hx
            exact absurd rfl (hx _)
        · cases h
      · cases h
    · cases h
theorem namesOf_get : ∀ (k : Nat) (p : Pos) (j : Nat) (q : Pos), (namesOf k p).1[j]? = some q → q.nat = p.nat + j ∧ j < k
  | 0, p, j, q, h => by have h : ([] : List Pos)[j]? = some q := h; simp at h
  | k + 1, p, j, q, h => by
    have h : (p :: (namesOf k p.succ).1)[j]? = some q := h
    cases j with
    | zero => simp at h; subst h; simp
    | succ j =>
      rw [List.getElem?_cons_succ] at h
      obtain ⟨h1, h2⟩ := namesOf_get k p.succ j q h
      rw [Pos.succ_nat] at h1
      exact ⟨by omega, by omega⟩
theorem namesOf_nx : ∀ (k : Nat) (p : Pos), (namesOf k p).2.nat = p.nat + k
  | 0, p => rfl
  | k + 1, p => by
    have : (namesOf (k + 1) p).2 = (namesOf k p.succ).2 := rfl
    rw [this, namesOf_nx k p.succ, Pos.succ_nat]
    omega

/-! what must have been done before -/
def edgesB (o : Oper) : List Nat := (o.after.toList.filter (Region.binds .any)).map (·.on)
def tget : List (Nat × Nat) → Nat → Option Nat | [], _ => none | x :: l, i => match Nat.beq x.1 i with | true => some x.2 | false => tget l i
def maskE (tbl : List (Nat × Nat)) : List Nat → Option Nat
  | [] => some 0
  | i :: l => match tget tbl i with | none => none | some m => (match maskE tbl l with | none => none | some r => some (Nat.lor (Nat.lor m (Nat.shiftLeft 1 i)) r))
structure AO where
  ro : RO
  o : Oper
  m : Nat
def annot (ops : Array Oper) : List (Nat × Nat) → List RO → Option (List AO)
  | _, [] => some []
  | tbl, r :: l => match ops[r.idx]? with
    | none => none
    | some o => (match maskE tbl (edgesB o) with | none => none | some m => (match annot ops ((r.idx, m) :: tbl) l with | none => none | some t => some (⟨r, o, m⟩ :: t)))
def Closed (ops : Array Oper) (S : Nat → Prop) : Prop := ∀ i o, ops[i]? = some o → S i → ∀ e ∈ edgesB o, S e
def MaskOk (ops : Array Oper) (m : Nat) (o : Oper) : Prop := ∀ S : Nat → Prop, Closed ops S → (∀ e ∈ edgesB o, S e) → ∀ i, m.testBit i = true → S i
def TblOk (ops : Array Oper) (tbl : List (Nat × Nat)) : Prop := ∀ i m, (i, m) ∈ tbl → ∃ o, ops[i]? = some o ∧ MaskOk ops m o
theorem tget_mem {tbl : List (Nat × Nat)} {i m : Nat} (h : tget tbl i = some m) : (i, m) ∈ tbl := by
  induction tbl with
  | nil => cases h
  | cons x l ih =>
    unfold tget at h
    split at h
    · rename_i hb; cases h; rw [← nbeq hb]; simp
    · exact List.mem_cons_of_mem _ (ih h)
theorem maskE_ok {ops : Array Oper} {tbl : List (Nat × Nat)} (ht : TblOk ops tbl) : ∀ (l : List Nat) (m : Nat), maskE tbl l = some m → (∀ S : Nat → Prop, Closed ops S → (∀ e ∈ l, S e) → ∀ i, m.testBit i = true → S i) ∧ ∀ e ∈ l, ∃ m, (e, m) ∈ tbl
  | [], m, h => by
    simp only [maskE, Option.some.injEq] at h
    subst h
    exact ⟨fun S _ _ i hi => by simp at hi, fun e he => by cases he⟩
  | j :: l, m, h => by
    simp only [maskE] at h
    split at h
    · cases h
    · rename_i m1 h1
      split at h
      · cases h
      · rename_i r hr
        cases h
        obtain ⟨k1, k2⟩ := maskE_ok ht l r hr
        obtain ⟨o, ho, hm⟩ := ht j m1 (tget_mem h1)
        refine ⟨fun S hS he i hi => ?_, fun e he => ?_⟩
        · have hi : ((m1 ||| 1 <<< j) ||| r).testBit i = true := hi
          rw [Nat.testBit_or, Nat.testBit_or] at hi
          simp only [Bool.or_eq_true] at hi
          have hj : S j := he j (by simp)
          rcases hi with (hi | hi) | hi
          · exact hm S hS (hS j o ho hj) i hi
          · rw [Nat.one_shiftLeft, Nat.testBit_two_pow] at hi
            have : j = i := by simpa using hi
            rw [← this]; exact hj
          · exact k1 S hS (fun e h => he e (by simp [h])) i hi
        · rcases List.mem_cons.1 he with rfl | he
          · exact ⟨m1, tget_mem h1⟩
          · exact k2 e he
theorem annot_ok {ops : Array Oper} : ∀ (l : List RO) (tbl : List (Nat × Nat)) (L : List AO), TblOk ops tbl → annot ops tbl l = some L → L.map (·.ro) = l ∧ ∀ (k : Nat) (a : AO), L[k]? = some a →
      ops[a.ro.idx]? = some a.o ∧ MaskOk ops a.m a.o ∧ ∀ e ∈ edgesB a.o, (∃ (j : Nat) (b : AO), j < k ∧ L[j]? = some b ∧ b.ro.idx = e) ∨ ∃ m, (e, m) ∈ tbl
  | [], tbl, L, ht, h => by
    simp only [annot, Option.some.injEq] at h
    subst h
    exact ⟨rfl, fun k a h => by simp at h⟩
  | r :: l, tbl, L, ht, h => by
    simp only [annot] at h
    split at h
    · cases h
    · rename_i o ho
      split at h
      · cases h
      · rename_i m hm
        split at h
        · cases h
        · rename_i t hl
          cases h
          obtain ⟨k1, k2⟩ := maskE_ok ht _ m hm
          have ht2 : TblOk ops ((r.idx, m) :: tbl) := fun i m' hi => by
            rcases List.mem_cons.1 hi with e | hi
            · cases e; exact ⟨o, ho, k1⟩
            · exact ht i m' hi
          obtain ⟨j1, j2⟩ := annot_ok l _ t ht2 hl
          refine ⟨by simp [j1], fun k a hk => ?_⟩
          cases k with
          | zero =>
            simp at hk; subst hk
            exact ⟨ho, k1, fun e he => .inr (k2 e he)⟩
          | succ k =>
            rw [List.getElem?_cons_succ] at hk
            obtain ⟨q1, q2, q3⟩ := j2 k a hk
            refine ⟨q1, q2, fun e he => ?_⟩
            rcases q3 e he with ⟨j, b, x1, x2, x3⟩ | ⟨m', hm'⟩
            · exact .inl ⟨j + 1, b, by omega, by rw [List.getElem?_cons_succ]; exact x2, x3⟩
            · rcases List.mem_cons.1 hm' with e' | hm'
              · cases e'
                exact .inl ⟨0, ⟨r, o, m⟩, by omega, rfl, rfl⟩
              · exact .inr ⟨m', hm'⟩

/-! which may be done either way about -/
noncomputable def pmem (p : Pos) : List Pos → Bool | [] => false | q :: l => p.beq q || pmem p l
theorem pmem_iff {p : Pos} {l : List Pos} : pmem p l = true ↔ p ∈ l := by
  induction l with
  | nil => simp [pmem]
  | cons q l ih => simp [pmem, ih, Pos.beq_eq]
noncomputable def dstIn (d : Option Pos) (l : List Pos) : Bool := match d with | some p => pmem p l | none => false
theorem dstIn_false {d : Option Pos} {l : List Pos} (h : dstIn d l = false) {p : Pos} (hd : d = some p) : p ∉ l := fun hp => by
  subst hd; simp only [dstIn] at h; rw [pmem_iff.2 hp] at h; cases h
noncomputable def dstNe (d e : Option Pos) : Bool := match d, e with | some p, some q => !(p.beq q) | _, _ => true
theorem dstNe_ne {d e : Option Pos} (h : dstNe d e = true) {p : Pos} (hd : d = some p) : e ≠ some p := fun he => by
  subst hd; subst he; simp [dstNe, Pos.beq_eq] at h
def kindN : XOp → Nat | .q q => (match isPure q with | true => 0 | false => 1) | .l e _ => (match isPv e with | true => 4 | false => 3) | _ => 2
noncomputable def apart (a b : RO) : Bool := !dstIn a.dst b.slots && !dstIn b.dst a.slots && dstNe a.dst b.dst
def gdEq (a b : Option (Pos × Bool)) : Bool := decide (a = b)
noncomputable def hasRe (a b : RO) : Bool := match a.dst, a.op with | some p, .q q => b.re.any (fun x => x.1.beq p && reEq x.2.1 q && gdEq x.2.2 a.gd) | _, _ => false
theorem hasRe_inv {a b : RO} (h : hasRe a b = true) : ∃ p q, a.dst = some p ∧ a.op = .q q ∧ (p, q, a.gd) ∈ b.re := by
  unfold hasRe at h
  split at h
  · rename_i p q h1 h2
    rw [List.any_eq_true] at h
    obtain ⟨x, hx, h⟩ := h
    simp only [Bool.and_eq_true] at h
    obtain ⟨⟨e1, e2⟩, e3⟩ := h
    refine ⟨p, q, h1, h2, ?_⟩
    obtain ⟨x1, x2, x3⟩ := x
    have : x3 = a.gd := of_decide_eq_true e3
    have e1 := pbeq e1
    have e2 := reEq_eq e2
    simp only at e1 e2
    rw [← e1, ← e2, ← this]
    exact hx
  · cases h
noncomputable def pairK (a b : RO) (clob : Bool) : Bool := match kindN a.op with
  | 0 => true
  | 1 => (match kindN b.op with | 0 => true | 1 => true | _ => hasRe a b && !clob)
  | _ => (match kindN b.op with | 0 => true | 3 => true | 4 => true | _ => false)
def lateJ : XOp → Option Nat | .l _ j => some j | _ => none
noncomputable def keeps (a : RO) (b : RO) : Bool := !dstIn b.dst ((match a.dst with | some p => [p] | none => []) ++ a.slots)
/-- looks at what all may know, or turns it -/
def isN (x : XOp) : Bool := match kindN x with | 1 => true | 2 => true | _ => false
/-- two upon the region's own blocks: another block, or in order, without another kind between -/
noncomputable def lateC (a b : AO) (g c : Bool) : Bool := match lateJ a.ro.op, lateJ b.ro.op with
  | some i, some j => !(Nat.beq i j) || (!g && !c && gdEq a.ro.gd b.ro.gd && Nat.testBit b.m a.ro.idx && Nat.beq (kindN b.ro.op) 4)
  | _, _ => true
noncomputable def sufOK (a : AO) : Bool → Bool → List AO → Bool
  | _, _, [] => true
  | c, g, b :: l => !(Nat.beq a.ro.idx b.ro.idx) && lateC a b g c && (Nat.testBit b.m a.ro.idx || (apart a.ro b.ro && pairK a.ro b.ro (c || !keeps a.ro b.ro))) && sufOK a (c || !keeps a.ro b.ro) (g || isN b.ro.op) l
noncomputable def pairsOK : List AO → Bool | [] => true | a :: l => sufOK a (dstIn a.ro.dst a.ro.slots) false l && pairsOK l
/-- two upon one block of the region's own -/
def Same (L : List AO) (p q : Nat) (a b : AO) : Prop := a.ro.gd = b.ro.gd ∧ Nat.testBit b.m a.ro.idx = true ∧ kindN b.ro.op = 4 ∧ dstIn a.ro.dst a.ro.slots = false ∧
  ∀ j d, p < j → j < q → L[j]? = some d → keeps a.ro d.ro = true ∧ isN d.ro.op = false
/-- what is known of two, the one listed ahead of the other -/
def Pair (L : List AO) (p q : Nat) (a b : AO) : Prop := a.ro.idx ≠ b.ro.idx ∧ (∀ i, lateJ a.ro.op = some i → lateJ b.ro.op = some i → Same L p q a b) ∧
  (Nat.testBit b.m a.ro.idx = true ∨ (apart a.ro b.ro = true ∧ ∃ c, pairK a.ro b.ro c = true ∧ (c = false → dstIn a.ro.dst a.ro.slots = false ∧ ∀ j d, p < j → j ≤ q → L[j]? = some d → keeps a.ro d.ro = true)))
theorem sufOK_spec {a : AO} {c0 g0 : Bool} : ∀ (l : List AO) (c g : Bool), (c = false → c0 = false) → (g = false → g0 = false) → sufOK a c g l = true → ∀ (q : Nat) (b : AO), l[q]? = some b → a.ro.idx ≠ b.ro.idx ∧
    (∀ i, lateJ a.ro.op = some i → lateJ b.ro.op = some i → a.ro.gd = b.ro.gd ∧ Nat.testBit b.m a.ro.idx = true ∧ kindN b.ro.op = 4 ∧ c0 = false ∧ g0 = false ∧ ∀ j d, j < q → l[j]? = some d → keeps a.ro d.ro = true ∧ isN d.ro.op = false) ∧
    (Nat.testBit b.m a.ro.idx = true ∨ (apart a.ro b.ro = true ∧ ∃ c', pairK a.ro b.ro c' = true ∧ (c' = false → c0 = false ∧ ∀ j d, j ≤ q → l[j]? = some d → keeps a.ro d.ro = true)))
  | [], c, g, h0, hg, h, q, b, hq => by simp at hq
  | x :: l, c, g, h0, hg, h, q, b, hq => by
    simp only [sufOK, Bool.and_eq_true] at h
    obtain ⟨⟨⟨h1, h2⟩, h3⟩, h4⟩ := h
    have h1 : a.ro.idx ≠ x.ro.idx := fun e => by rw [e, nbeq_eq] at h1; simp at h1
    cases q with
    | zero =>
      simp at hq; subst hq
      refine ⟨h1, fun i hi hj => ?_, ?_⟩
      · unfold lateC at h2
        rw [hi, hj] at h2
        simp only [nbeq_eq, decide_true, Bool.not_true, Bool.false_or, Bool.and_eq_true, Bool.not_eq_true'] at h2
        obtain ⟨⟨⟨⟨k1, k2⟩, k3⟩, k4⟩, k5⟩ := h2
        exact ⟨of_decide_eq_true k3, k4, by simpa [nbeq_eq] using k5, h0 k2, hg k1, fun j d hj => absurd hj (Nat.not_lt_zero _)⟩
      · simp only [Bool.or_eq_true, Bool.and_eq_true] at h3
        rcases h3 with h3 | ⟨h3, h5⟩
        · exact .inl h3
        · refine .inr ⟨h3, _, h5, fun hc => ?_⟩
          simp only [Bool.or_eq_false_iff, Bool.not_eq_false'] at hc
          refine ⟨h0 hc.1, fun j d hj hd => ?_⟩
          have : j = 0 := by omega
          subst this
          simp at hd; subst hd
          exact hc.2
    | succ q =>
      rw [List.getElem?_cons_succ] at hq
      obtain ⟨k1, k2, k3⟩ := sufOK_spec (c0 := (c || !keeps a.ro x.ro)) (g0 := (g || isN x.ro.op)) l _ _ (fun h => h) (fun h => h) h4 q b hq
      refine ⟨k1, fun i hi hj => ?_, ?_⟩
      · obtain ⟨m1, m2, m3, m4, m5, m6⟩ := k2 i hi hj
        simp only [Bool.or_eq_false_iff, Bool.not_eq_false'] at m4 m5
        refine ⟨m1, m2, m3, h0 m4.1, hg m5.1, fun j d hj hd => ?_⟩
        cases j with
        | zero => simp at hd; subst hd; exact ⟨m4.2, m5.2⟩
        | succ j => rw [List.getElem?_cons_succ] at hd; exact m6 j d (by omega) hd
      · rcases k3 with k3 | ⟨k3, c', k5, k6⟩
        · exact .inl k3
        · refine .inr ⟨k3, c', k5, fun hc => ?_⟩
          obtain ⟨m1, m2⟩ := k6 hc
          simp only [Bool.or_eq_false_iff, Bool.not_eq_false'] at m1
          refine ⟨h0 m1.1, fun j d hj hd => ?_⟩
          cases j with
          | zero => simp at hd; subst hd; exact m1.2
          | succ j => rw [List.getElem?_cons_succ] at hd; exact m2 j d (by omega) hd
theorem pairsOK_spec : ∀ (L : List AO), pairsOK L = true → ∀ (p q : Nat) (a b : AO), p < q → L[p]? = some a → L[q]? = some b → Pair L p q a b
  | [], h, p, q, a, b, hpq, hp, hq => by simp at hp
  | x :: l, h, p, q, a, b, hpq, hp, hq => by
    simp only [pairsOK, Bool.and_eq_true] at h
    obtain ⟨h1, h2⟩ := h
    cases q with
    | zero => omega
    | succ q =>
      rw [List.getElem?_cons_succ] at hq
      cases p with
      | zero =>
        simp at hp; subst hp
        obtain ⟨k1, k2, k3⟩ := sufOK_spec l _ _ (fun h => h) (fun h => h) h1 q b hq
        refine ⟨k1, fun i hi hj => ?_, ?_⟩
        · obtain ⟨m1, m2, m3, m4, m5, m6⟩ := k2 i hi hj
          refine ⟨m1, m2, m3, m4, fun j d hj1 hj2 hd => ?_⟩
          cases j with
          | zero => omega
          | succ j => rw [List.getElem?_cons_succ] at hd; exact m6 j d (by omega) hd
        · rcases k3 with k3 | ⟨k3, c', k5, k6⟩
          · exact .inl k3
          · refine .inr ⟨k3, c', k5, fun hc => ⟨(k6 hc).1, fun j d hj1 hj2 hd => ?_⟩⟩
            cases j with
            | zero => omega
            | succ j => rw [List.getElem?_cons_succ] at hd; exact (k6 hc).2 j d (by omega) hd
      | succ p =>
        rw [List.getElem?_cons_succ] at hp
        obtain ⟨k1, k2, k3⟩ := pairsOK_spec l h2 p q a b (by omega) hp hq
        refine ⟨k1, fun i hi hj => ?_, ?_⟩
        · obtain ⟨m1, m2, m3, m4, m6⟩ := k2 i hi hj
          refine ⟨m1, m2, m3, m4, fun j d hj1 hj2 hd => ?_⟩
          cases j with
          | zero => omega
          | succ j => rw [List.getElem?_cons_succ] at hd; exact m6 j d (by omega) (by omega) hd
        · rcases k3 with k3 | ⟨k3, c', k5, k6⟩
          · exact .inl k3
          · refine .inr ⟨k3, c', k5, fun hc => ⟨(k6 hc).1, fun j d hj1 hj2 hd => ?_⟩⟩
            cases j with
            | zero => omega
            | succ j => rw [List.getElem?_cons_succ] at hd; exact (k6 hc).2 j d (by omega) (by omega) hd
/-- whose block has been made ahead -/
noncomputable def crOK : List Nat → List AO → Bool
  | _, [] => true
  | s, a :: l => (match a.ro.op with
    | .l e j => (match isPv e with | true => s.any (Nat.beq j) && crOK s l | false => crOK (j :: s) l)
    | _ => crOK s l)
theorem crOK_spec : ∀ (L : List AO) (s : List Nat), crOK s L = true → ∀ (q : Nat) (b : AO) e j, L[q]? = some b → b.ro.op = .l e j → isPv e = true → j ∈ s ∨ ∃ p a e', p < q ∧ L[p]? = some a ∧ a.ro.op = .l e' j ∧ isPv e' = false
  | [], s, h, q, b, e, j, hq, _, _ => by simp at hq
  | x :: l, s, h, q, b, e, j, hq, ho, hp => by
    cases q with
    | zero =>
      simp at hq; subst hq
      unfold crOK at h
      rw [ho] at h
      simp only [hp, Bool.and_eq_true] at h
      obtain ⟨h, _⟩ := h
      rw [List.any_eq_true] at h
      obtain ⟨y, hy, h⟩ := h
      rw [nbeq h]; exact .inl hy
    | succ q =>
      rw [List.getElem?_cons_succ] at hq
      have key : ∀ s', crOK s' l = true → (∀ y ∈ s', y ∈ s ∨ (y = j → ∃ e', x.ro.op = .l e' y ∧ isPv e' = false)) → j ∈ s ∨ ∃ p a e', p < q + 1 ∧ (x :: l)[p]? = some a ∧ a.ro.op = .l e' j ∧ isPv e' = false := fun s' h1 h2 => by
        rcases crOK_spec l s' h1 q b e j hq ho hp with h | ⟨p, a, e', i1, i2, i3, i4⟩
        · rcases h2 j h with h | h
          · exact .inl h
          · obtain ⟨e', i1, i2⟩ := h rfl
            exact .inr ⟨0, x, e', by omega, rfl, i1, i2⟩
        · exact .inr ⟨p + 1, a, e', by omega, by rw [List.getElem?_cons_succ]; exact i2, i3, i4⟩
      unfold crOK at h
      split at h
      · rename_i e' j' hx
        split at h
        · simp only [Bool.and_eq_true] at h
          exact key s h.2 (fun y hy => .inl hy)
        · rename_i hpv
          refine key _ h (fun y hy => ?_)
          rcases List.mem_cons.1 hy with rfl | hy
          · exact .inr (fun _ => ⟨e', hx, hpv⟩)
          · exact .inl hy
      · exact key s h (fun y hy => .inl hy)
/-- the check of a region that draws its order -/
noncomputable def okD {P : Program} (E : Env P) (n k : Nat) (l : List RO) (ops : Array Oper) : Bool := match annot ops [] l with
  | none => false
  | some L => pairsOK L && crOK [] L && L.all (fun a => okRO E n ops a.ro a.o) && (List.range ops.size).all (fun i => l.any (fun r => Nat.beq r.idx i))
end Go.Proofs.YtcecdaeceipbnaaGreatDoor

/-
  Regions that draw their order are sound. (Of no program.)
-/
namespace Go.Proofs.YtcecdaeceipbnaaGreatDoor
set_option linter.unusedVariables false
set_option linter.unusedSimpArgs false
set_option linter.unusedSectionVars false
open Go

section
variable {P : Program} {E : Env P} {M : Mach} {call : Pos → List V → St → Option (V × St)} {n : Nat} {ops : Array Oper} {L : List AO} {nms : List Pos}

structure Stat (E : Env P) (n : Nat) (ops : Array Oper) (L : List AO) : Prop where
  op : ∀ (p : Nat) (a : AO), L[p]? = some a → ops[a.ro.idx]? = some a.o ∧ MaskOk ops a.m a.o ∧ okRO E n ops a.ro a.o = true ∧ ∀ e ∈ edgesB a.o, ∃ (j : Nat) (b : AO), j < p ∧ L[j]? = some b ∧ b.ro.idx = e
  pair : ∀ (p q : Nat) (a b : AO), p < q → L[p]? = some a → L[q]? = some b → Pair L p q a b
  cov : ∀ i, i < ops.size → ∃ (p : Nat) (a : AO), L[p]? = some a ∧ a.ro.idx = i
  cr : ∀ (q : Nat) (b : AO) e j, L[q]? = some b → b.ro.op = .l e j → ∃ p a e', p ≤ q ∧ L[p]? = some a ∧ a.ro.op = .l e' j ∧ isPv e' = false
theorem stat_of_okD {k : Nat} {l : List RO} (h : okD E n k l ops = true) : ∃ L : List AO, L.map (·.ro) = l ∧ Stat E n ops L := by
  unfold okD at h
  split at h
  · cases h
  · rename_i L hL
    simp only [Bool.and_eq_true] at h
    obtain ⟨⟨⟨h1, h0⟩, h2⟩, h3⟩ := h
    obtain ⟨k1, k2⟩ := annot_ok l [] L (fun i m hm => by cases hm) hL
    refine ⟨L, k1, ⟨fun p a ha => ?_, pairsOK_spec L h1, fun i hi => ?_, fun q b e j hq ho => ?_⟩⟩
    · obtain ⟨q1, q2, q3⟩ := k2 p a ha
      refine ⟨q1, q2, (List.all_eq_true.1 h2) a (List.mem_of_getElem? ha), fun e he => ?_⟩
      rcases q3 e he with q3 | ⟨m, hm⟩
      · exact q3
      · cases hm
    · have := (List.all_eq_true.1 h3) i (by simpa using hi)
      rw [List.any_eq_true] at this
      obtain ⟨r, hr, hb⟩ := this
      rw [← k1] at hr
      obtain ⟨a, ha, rfl⟩ := List.mem_map.1 hr
      obtain ⟨p, hp⟩ := List.getElem?_of_mem ha
      exact ⟨p, a, hp, nbeq hb⟩
    · cases hp : isPv e with
      | false => exact ⟨q, b, e, Nat.le_refl _, hq, ho, hp⟩
      | true =>
        rcases crOK_spec L [] h0 q b e j hq ho hp with h | ⟨p, a, e', i1, i2, i3, i4⟩
        · cases h
        · exact ⟨p, a, e', Nat.le_of_lt i1, i2, i3, i4⟩

structure Tr (M : Mach) (call : Pos → List V → St → Option (V × St)) (nms : List Pos) (L : List AO) (A : Nat → T V) (σ : Nat → St) : Prop where
  step : ∀ (p : Nat) (a : AO), L[p]? = some a → xstep M call nms a.ro (A p) (σ p) = some (A (p + 1), σ (p + 1))
theorem tr_of_run : ∀ (L : List AO) (A0 A' : T V) (σ0 σ' : St), runR M call nms (L.map (·.ro)) A0 σ0 = some (A', σ') → ∃ A σ, A 0 = A0 ∧ σ 0 = σ0 ∧ Tr M call nms L A σ ∧ A L.length = A' ∧ σ L.length = σ'
  | [], A0, A', σ0, σ', h => by
    have h : some (A0, σ0) = some (A', σ') := h
    cases h
    exact ⟨fun _ => A0, fun _ => σ0, rfl, rfl, ⟨fun p a h => by simp at h⟩, rfl, rfl⟩
  | x :: L, A0, A', σ0, σ', h => by
    have h : (match xstep M call nms x.ro A0 σ0 with | none => none | some (A', σ') => runR M call nms (L.map (·.ro)) A' σ') = some (A', σ') := h
    split at h
    · cases h
    · rename_i A1 σ1 hs
      obtain ⟨A, σ, h1, h2, h3, h4, h5⟩ := tr_of_run L A1 A' σ1 σ' h
      refine ⟨fun k => match k with | 0 => A0 | k + 1 => A k, fun k => match k with | 0 => σ0 | k + 1 => σ k, rfl, rfl, ⟨fun p a ha => ?_⟩, h4, h5⟩
      cases p with
      | zero =>
        simp at ha; subst ha
        show xstep M call nms x.ro A0 σ0 = some (A 0, σ 0)
        rw [h1, h2]; exact hs
      | succ p =>
        rw [List.getElem?_cons_succ] at ha
        exact h3.step p a ha
theorem xstep_inv {r : RO} {A A' : T V} {σ σ' : St} (h : xstep M call nms r A σ = some (A', σ')) : (wantG A r.gd = some false ∧ A' = putD A r.dst (.tup []) ∧ σ' = σ) ∨
    (wantG A r.gd = some true ∧ ∃ v, xop M call nms r.op A σ = some (v, σ') ∧ A' = putD A r.dst v ∧ rechk M.pt A' σ' r.re = true) := by
  unfold xstep at h
  split at h
  · cases h
  · rename_i hw; cases h; exact .inl ⟨hw, rfl, rfl⟩
  · rename_i hw
    unfold xfin at h
    split at h
    · cases h
    · rename_i v σ2 hx
      split at h
      · rename_i hr
        cases h
        exact .inr ⟨hw, v, hx, rfl, hr⟩
      · cases h
theorem rechk_inv {pt : List Nat} {A : T V} {σ : St} : ∀ {l : List (Pos × QOp × Option (Pos × Bool))}, rechk pt A σ l = true → ∀ x ∈ l, wantG A x.2.2 = some true → qev pt x.2.1 A σ = some (ev A (.s x.1))
  | [], _, x, hx, _ => by cases hx
  | r :: l, h, x, hx, hw => by
    have h : (match wantG A r.2.2 with
      | none => false
      | some false => rechk pt A σ l
      | some true => (match qevF pt r.2.1 A σ with | some v => (match veq v (ev A (.s r.1)) with | true => rechk pt A σ l | false => false) | none => false)) = true := h
    rw [qevF_eq] at h
    rcases List.mem_cons.1 hx with rfl | hx
    · rw [hw] at h
      simp only at h
      split at h
      · rename_i v hv
        split at h
        · rename_i he
          rw [hv, veq_eq he]
        · cases h
      · cases h
    · split at h
      · cases h
      · exact rechk_inv h x hx hw
      · split at h
        · split at h
          · exact rechk_inv h x hx hw
          · cases h
        · cases h

def Actv (A : Nat → T V) (p : Nat) (a : AO) : Prop := wantG (A p) a.ro.gd = some true ∧ 2 ≤ kindN a.ro.op
variable {A : Nat → T V} {σ : Nat → St}
theorem kindN_lt {x : XOp} (h : ¬ 2 ≤ kindN x) : ∃ q, x = .q q := by
  cases x <;> first | exact ⟨_, rfl⟩ | (exfalso; apply h; simp only [kindN]; first | omega | (split <;> omega))
theorem Tr.noact (T1 : Tr M call nms L A σ) {p : Nat} {a : AO} (ha : L[p]? = some a) (h : ¬ Actv A p a) : σ (p + 1) = σ p := by
  rcases xstep_inv (T1.step p a ha) with ⟨_, _, h3⟩ | ⟨h1, v, h2, _⟩
  · exact h3
  · have : ¬ 2 ≤ kindN a.ro.op := fun hk => h ⟨h1, hk⟩
    obtain ⟨q, hq⟩ := kindN_lt this
    rw [hq] at h2
    simp only [xop, xQ, xL, xCallv, xInv, qevF_eq, eevF_eq] at h2
    split at h2
    · simp only [Option.some.injEq, Prod.mk.injEq] at h2; exact h2.2.symm
    · cases h2
theorem putD_ne {A : T V} {d : Option Pos} {v : V} {s : Pos} (h : d ≠ some s) : T.get s (putD A d v) = T.get s A := by
  cases d with
  | none => rfl
  | some p =>
    simp only [putD, T.get_set]
    rw [if_neg]
    intro e; subst e; exact h rfl
theorem putD_self {A : T V} {v : V} {s : Pos} : T.get s (putD A (some s) v) = some v := by
  simp only [putD, T.get_set, if_pos]
theorem Tr.put (T1 : Tr M call nms L A σ) {p : Nat} {a : AO} (ha : L[p]? = some a) : ∃ v, A (p + 1) = putD (A p) a.ro.dst v := by
  rcases xstep_inv (T1.step p a ha) with ⟨_, h, _⟩ | ⟨_, v, _, h, _⟩
  · exact ⟨_, h⟩
  · exact ⟨v, h⟩
theorem Tr.slot (T1 : Tr M call nms L A σ) {s : Pos} {i : Nat} : ∀ (j : Nat), i ≤ j → j ≤ L.length → (∀ q a, i ≤ q → q < j → L[q]? = some a → a.ro.dst ≠ some s) → T.get s (A j) = T.get s (A i) := by
  intro j
  induction j with
  | zero => intro h1 h2 h3; have : i = 0 := by omega
            rw [this]
  | succ j ih =>
    intro h1 h2 h3
    by_cases hi : i = j + 1
    · rw [hi]
    · have hj : j < L.length := by omega
      have hget : L[j]? = some L[j] := List.getElem?_eq_getElem hj
      obtain ⟨v, hv⟩ := T1.put hget
      rw [hv, putD_ne (h3 j _ (by omega) (by omega) hget)]
      exact ih (by omega) (by omega) (fun q a x1 x2 x3 => h3 q a x1 (by omega) x3)
theorem gslot_slots {r : RO} {p : Pos} {c : Bool} (h : r.gd = some (p, c)) : p ∈ r.slots := by
  unfold RO.slots RO.gslot; rw [h]; simp
theorem arg_slots {r : RO} {x : Arg} (hx : x ∈ r.op.args) {p : Pos} (hp : p ∈ x.slot) : p ∈ r.slots := by
  unfold RO.slots
  exact List.mem_append_right _ (List.mem_flatMap.2 ⟨x, hx, hp⟩)
theorem keeps_inv {a b : RO} (h : keeps a b = true) {s : Pos} (hs : a.dst = some s ∨ s ∈ a.slots) : b.dst ≠ some s := by
  unfold keeps at h
  simp only [Bool.not_eq_true'] at h
  intro hd
  refine dstIn_false h hd ?_
  rcases hs with hs | hs
  · rw [hs]; simp
  · exact List.mem_append_right _ hs
/-- what has been looked at is still so -/
theorem read_stable (S : Stat E n ops L) (T1 : Tr M call nms L A σ) {p : Nat} {a : AO} {q : QOp} {v : V} (ha : L[p]? = some a) (hq : a.ro.op = .q q) (hk : isPure q = false) (hw : wantG (A p) a.ro.gd = some true) (hv : qev M.pt q (A p) (σ p) = some v) :
    ∀ (j : Nat), p ≤ j → j ≤ L.length → (∀ e b, p < e → e < j → L[e]? = some b → Actv A e b → b.m.testBit a.ro.idx = false) → qev M.pt q (A p) (σ j) = some v := by
  intro j
  induction j with
  | zero => intro h1 h2 h3; have : p = 0 := by omega
            subst this; exact hv
  | succ j ih =>
    intro h1 h2 h3
    by_cases hpj : p = j + 1
    · subst hpj; exact hv
    · have hj : j < L.length := by omega
      have hget : L[j]? = some L[j] := List.getElem?_eq_getElem hj
      have ih := ih (by omega) (by omega) (fun e b x1 x2 => h3 e b x1 (by omega))
      by_cases hact : Actv A j L[j]
      · by_cases hpj2 : p = j
        · exfalso
          subst hpj2
          rw [hget] at ha; cases ha
          have := hact.2
          rw [hq] at this
          simp [kindN, hk] at this
        · have hbit := h3 j _ (by omega) (by omega) hget hact
          obtain ⟨_, _, h5⟩ := S.pair p j a _ (by omega) ha hget
          rcases h5 with h5 | ⟨h5, c, h6, h7⟩
          · rw [hbit] at h5; cases h5
          · have hka : kindN a.ro.op = 1 := by rw [hq]; simp [kindN, hk]
            have h6 : hasRe a.ro L[j].ro = true ∧ c = false := by
              unfold pairK at h6
              rw [hka] at h6
              simp only at h6
              have := hact.2
              split at h6
              · omega
              · omega
              · simpa using h6
            obtain ⟨h6, hc⟩ := h6
            obtain ⟨h9, h8⟩ := h7 hc
            obtain ⟨d, q', e1, e2, e3⟩ := hasRe_inv h6
            rw [hq] at e2; cases e2
            have hst : ∀ s ∈ a.ro.slots, T.get s (A (j + 1)) = T.get s (A p) := fun s hs => T1.slot (j + 1) (by omega) (by omega) (fun x b x1 x2 x3 => by
              by_cases hx : x = p
              · subst hx
                rw [ha] at x3; cases x3
                intro hd; exact dstIn_false h9 hd hs
              · exact keeps_inv (h8 x b (by omega) (by omega) x3) (.inr hs))
            have hdst : T.get d (A (j + 1)) = some v := by
              rw [T1.slot (i := p + 1) (j + 1) (by omega) (by omega) (fun x b x1 x2 x3 => keeps_inv (h8 x b (by omega) (by omega) x3) (.inl e1))]
              rcases xstep_inv (T1.step p a ha) with ⟨k1, _, _⟩ | ⟨_, v1, k1, k2, _⟩
              · rw [hw] at k1; cases k1
              · rw [k2, e1, putD_self]
                rw [hq] at k1
                simp only [xop, xQ, xL, xCallv, xInv, qevF_eq, eevF_eq, hv, Option.some.injEq, Prod.mk.injEq] at k1
                rw [k1.1]
            rcases xstep_inv (T1.step j _ hget) with ⟨k1, _, _⟩ | ⟨_, v1, _, _, k2⟩
            · rw [hact.1] at k1; cases k1
            · have hw2 : wantG (A (j + 1)) a.ro.gd = some true := by
                rw [← hw]
                exact wantG_congr (fun p c h => hst p (gslot_slots h))
              have := rechk_inv k2 _ e3 hw2
              simp only at this
              have hev : ev (A (j + 1)) (.s d) = v := by
                have e : ev (A (j + 1)) (.s d) = match T.get d (A (j + 1)) with | some v => v | none => .u := rfl
                rw [e, hdst]
              rw [hev] at this
              rw [← this]
              exact qev_congr (fun x hx => (ev_slots (fun s hs => hst s (arg_slots (by rw [hq]; exact hx) hs))).symm)
      · rw [T1.noact hget hact]; exact ih

/-! two upon one block of the region's own -/
theorem Stat.same (S : Stat E n ops L) {p q : Nat} {a b : AO} {x y : EOp} {j : Nat} (hpq : p < q) (ha : L[p]? = some a) (hb : L[q]? = some b) (h1 : a.ro.op = .l x j) (h2 : b.ro.op = .l y j) : Same L p q a b :=
  (S.pair p q a b hpq ha hb).2.1 j (by rw [h1]; rfl) (by rw [h2]; rfl)
theorem kind_l {e : EOp} {j : Nat} : 3 ≤ kindN (.l e j) := by simp only [kindN]; split <;> omega
theorem isN_l {x : XOp} {e : EOp} {j : Nat} (h : x = .l e j) : isN x = false := by subst h; simp only [isN, kindN]; cases isPv e <;> rfl
theorem isN_kind {x : XOp} (h : isN x = false) : kindN x ≠ 1 ∧ kindN x ≠ 2 := by
  unfold isN at h
  split at h
  · cases h
  · cases h
  · rename_i h1 h2; exact ⟨h1, h2⟩
theorem kind_pv {e : EOp} {j : Nat} (h : kindN (.l e j) = 4) : isPv e = true := by
  simp only [kindN] at h
  split at h
  · assumption
  · cases h
theorem act_l {p : Nat} {a : AO} {e : EOp} {j : Nat} (h : a.ro.op = .l e j) : Actv A p a ↔ wantG (A p) a.ro.gd = some true :=
  ⟨fun h => h.1, fun h1 => ⟨h1, by rw [h]; exact Nat.le_trans (by omega) kind_l⟩⟩
theorem Tr.same (T1 : Tr M call nms L A σ) {p q : Nat} {a b : AO} {x y : EOp} {j : Nat} (hpq : p < q) (ha : L[p]? = some a) (hb : L[q]? = some b) (h1 : a.ro.op = .l x j) (h2 : b.ro.op = .l y j) (h : Same L p q a b) : Actv A p a ↔ Actv A q b := by
  have hq : q < L.length := (List.getElem?_eq_some_iff.1 hb).1
  rw [act_l h1, act_l h2, ← h.1]
  have : wantG (A q) a.ro.gd = wantG (A p) a.ro.gd := wantG_congr (fun s c hg => T1.slot q (by omega) (by omega) (fun r d i1 i2 i3 => by
    by_cases e : r = p
    · subst e
      rw [ha] at i3; cases i3
      intro hd; exact dstIn_false h.2.2.2.1 hd (gslot_slots hg)
    · exact keeps_inv (h.2.2.2.2 r d (by omega) i2 i3).1 (.inr (gslot_slots hg))))
  rw [this]
/-- one of them, wanted -/
theorem Tr.priv (T1 : Tr M call nms L A σ) (S : Stat E n ops L) {p : Nat} {b : AO} {x : EOp} {j : Nat} (hb : L[p]? = some b) (ho : b.ro.op = .l x j) (hw : Actv A p b) :
    ∃ nm, nms[j]? = some nm ∧ (isPv x = false → T.get nm (σ p).h = none) ∧ (σ (p + 1)).nx = (σ p).nx ∧ ∃ ob, (∀ q, T.get q (σ (p + 1)).h = if q = nm then some ob else T.get q (σ p).h) := by
  rcases xstep_inv (T1.step p b hb) with ⟨h1, _, _⟩ | ⟨_, v, h1, _, _⟩
  · rw [hw.1] at h1; cases h1
  · rw [ho] at h1
    simp only [xop, xQ, xL, xCallv, xInv, qevF_eq, eevF_eq] at h1
    split at h1
    · rename_i nm hn
      rw [lget_eq] at hn
      refine ⟨nm, hn, ?_⟩
      have hok := (S.op p b hb).2.2.1
      simp only [okRO, Bool.and_eq_true] at hok
      have hok := hok.1.1
      rw [ho] at hok
      simp only [okX, Bool.or_eq_true, Bool.and_eq_true] at hok
      split at h1
      · rename_i hfree
        rcases hok with ⟨_, hl⟩ | hl
        · obtain ⟨ob, _, h2, _⟩ := late_inv hl h1
          refine ⟨fun _ => hfree, by rw [h2]; rfl, ob, fun q => ?_⟩
          rw [h2]; exact T.get_set ..
        · have hpv : isPv x = true := by cases x <;> first | rfl | (simp only [okP, Bool.false_eq_true] at hl)
          obtain ⟨ob, ob', h2, _, _, _, _⟩ := priv_inv hpv h1
          rw [hfree] at h2; cases h2
      · split at h1
        · rename_i hpv
          obtain ⟨ob, ob', h2, _, h3, h4, _⟩ := priv_inv hpv h1
          refine ⟨fun h => ?_, h3, ob', h4⟩
          rw [hpv] at h; cases h
        · cases h1
    · cases h1
theorem act_kind {p : Nat} {a : AO} (h : Actv A p a) (hn : isN a.ro.op = false) : ∃ x j, a.ro.op = .l x j := by
  have h1 := (isN_kind hn)
  have h2 := h.2
  generalize a.ro.op = o at *
  cases o <;> first | exact ⟨_, _, rfl⟩ | (exfalso; exact h1.2 rfl) | skip
  rename_i q
  exfalso
  simp only [kindN] at h2
  split at h2 <;> omega
/-- where nobody touches it -/
theorem Tr.calm (T1 : Tr M call nms L A σ) (S : Stat E n ops L) {p : Nat} : ∀ (q : Nat), p ≤ q → q ≤ L.length → (∀ i c, p ≤ i → i < q → L[i]? = some c → isN c.ro.op = false) → (σ q).nx = (σ p).nx ∧
    ∀ r, (∀ i c x j, p ≤ i → i < q → L[i]? = some c → c.ro.op = .l x j → Actv A i c → nms[j]? ≠ some r) → T.get r (σ q).h = T.get r (σ p).h := by
  intro q
  induction q with
  | zero => intro h1 _ _; have : p = 0 := by omega
            subst this; exact ⟨rfl, fun _ _ => rfl⟩
  | succ q ih =>
    intro h1 h2 h3
    by_cases hp : p = q + 1
    · subst hp; exact ⟨rfl, fun _ _ => rfl⟩
    · have hq : q < L.length := by omega
      have hget : L[q]? = some L[q] := List.getElem?_eq_getElem hq
      obtain ⟨k1, k2⟩ := ih (by omega) (by omega) (fun i c x1 x2 => h3 i c x1 (by omega))
      by_cases hact : Actv A q L[q]
      · obtain ⟨x, j, ho⟩ := act_kind hact (h3 q _ (by omega) (by omega) hget)
        obtain ⟨nm, m1, m2, m3, ob, m4⟩ := T1.priv S hget ho hact
        refine ⟨m3.trans k1, fun r hr => ?_⟩
        rw [m4, if_neg]
        · exact k2 r (fun i c x j x1 x2 => hr i c x j x1 (by omega))
        · intro e; subst e
          exact hr q _ x j (by omega) (by omega) hget ho hact m1
      · rw [T1.noact hget hact]
        exact ⟨k1, fun r hr => k2 r (fun i c x j x1 x2 => hr i c x j x1 (by omega))⟩

/-! blocks that come in, or go out, of what is known -/
theorem Rep.adopts {ι : Nm} {s s' : St} {w : World} (R : Rep ι s w) (hnx : s'.nx = s.nx) (h1 : ∀ q o, T.get q s.h = some o → T.get q s'.h = some o)
    (h2 : ∀ q o, T.get q s'.h = some o → T.get q s.h = some o ∨ (T.get q s.h = none ∧ ∃ pl, ι q = some pl ∧ ObR ι w q o ∧ o.kin = [] ∧ ∀ r pr, ι r = some pr → pr.blk = pl.blk → r = q)) : Rep ι s' w where
  ob q o hq := by
    rcases h2 q o hq with h | ⟨_, pl, _, h, _, _⟩
    · exact R.ob q o h
    · exact h
  pl := R.pl
  dom q pl hq := by rw [hnx]; exact R.dom q pl hq
  hdom q o hq := by
    rw [hnx]
    rcases h2 q o hq with h | ⟨_, pl, h, _⟩
    · exact R.hdom q o h
    · exact R.dom q pl h
  sep2 q o q' o' a b hq hw hq' hl ha hb hab hqq := by
    rcases h2 q o hq with h | ⟨_, pl, h, _, _, halone⟩
    · rcases h2 q' o' hq' with h' | ⟨_, pl, h', _, _, halone⟩
      · exact R.sep2 q o q' o' a b h hw h' hl ha hb hab hqq
      · rw [h'] at hb; cases hb
        exact absurd (halone q a ha hab).symm hqq
    · rw [h] at ha; cases ha
      exact absurd (halone q' b hb hab.symm) hqq
  kin q o q' o' hq hk hq' := by
    rcases h2 q o hq with h | ⟨_, pl, _, _, h, _⟩
    · obtain ⟨o2, h3⟩ := R.kpres q o q' h hk
      have := h1 q' o2 h3
      rw [hq'] at this; cases this
      exact R.kin q o q' o' h hk h3
    · rw [h] at hk; cases hk
  kpres q o q' hq hk := by
    rcases h2 q o hq with h | ⟨_, pl, _, _, h, _⟩
    · obtain ⟨o2, h3⟩ := R.kpres q o q' h hk
      exact ⟨o2, h1 q' o2 h3⟩
    · rw [h] at hk; cases hk
  fin q o q' o' a b hq hw hk hq' hl ha hb hab := by
    rcases h2 q o hq with h | ⟨_, pl, _, _, h, _⟩
    · obtain ⟨o2, h3⟩ := R.kpres q o q' h hk
      have := h1 q' o2 h3
      rw [hq'] at this; cases this
      exact R.fin q o q' o' a b h hw hk h3 hl ha hb hab
    · rw [h] at hk; cases hk
theorem Rep.drop {ι : Nm} {s s' : St} {w : World} (R : Rep ι s' w) (hnx : s'.nx = s.nx) (h1 : ∀ q o, T.get q s.h = some o → T.get q s'.h = some o) (hk : ∀ q o r, T.get q s.h = some o → r ∈ o.kin → ∃ o', T.get r s.h = some o') : Rep ι s w where
  ob q o hq := R.ob q o (h1 q o hq)
  pl := R.pl
  dom q pl hq := by rw [← hnx]; exact R.dom q pl hq
  hdom q o hq := by rw [← hnx]; exact R.hdom q o (h1 q o hq)
  sep2 q o q' o' a b hq hw hq' hl ha hb hab hqq := R.sep2 q o q' o' a b (h1 _ _ hq) hw (h1 _ _ hq') hl ha hb hab hqq
  kin q o q' o' hq hkk hq' := R.kin q o q' o' (h1 _ _ hq) hkk (h1 _ _ hq')
  kpres q o q' hq hkk := hk q o q' hq hkk
  fin q o q' o' a b hq hw hkk hq' hl ha hb hab := R.fin q o q' o' a b (h1 _ _ hq) hw hkk (h1 _ _ hq') hl ha hb hab

/-! along the way -/
def Dn (listed : Array Bool) (i : Nat) : Prop := listed.getD i false = true
def Pend (ι : Nm) (w : World) (s : St) (nm : Pos) (ob : Ob) : Prop := ∃ pl, ι nm = some pl ∧ ObR ι w nm ob ∧ ob.kin = [] ∧ (∀ q pq, ι q = some pq → pq.blk = pl.blk → q = nm) ∧ ¬ Img ι s pl.blk
structure Inv (P : Program) (n : Nat) (ds : List Deferred) (N : Nat) (ops : Array Oper) (L : List AO) (nms : List Pos) (A : Nat → T V) (σ : Nat → St) (ι0 : Nm) (w0 : World) (ι : Nm) (k : Nat) (listed : Array Bool) (a : Act) (w : World) : Prop where
  size : listed.size = ops.size
  closed : Closed ops (Dn listed)
  fsize : a.tmps.size = n
  defers : a.defers = ds
  rep : Rep ι (σ k) w
  kle : k ≤ L.length
  before : ∀ (e : Nat) (b : AO), e < k → L[e]? = some b → Actv A e b → Dn listed b.ro.idx
  pend : ∀ (e : Nat) (b : AO), k ≤ e → L[e]? = some b → Actv A e b → Dn listed b.ro.idx → ∃ x j, b.ro.op = .l x j
  cont : ∀ (e : Nat) (b : AO) x j nm p, k ≤ e → L[e]? = some b → b.ro.op = .l x j → nms[j]? = some nm → Actv A e b → Dn listed b.ro.idx → e < p → p ≤ L.length → (∀ q c, e < q → q < p → L[q]? = some c → isN c.ro.op = false) →
    (∀ q c y, L[q]? = some c → c.ro.op = .l y j → (Dn listed c.ro.idx ↔ q < p)) → ∃ ob, T.get nm (σ p).h = some ob ∧ Pend ι w (σ k) nm ob
  clean : ∀ (e : Nat) (b : AO) x j, e < k → L[e]? = some b → b.ro.op = .l x j → Actv A e b → ∃ m, e < m ∧ m ≤ k ∧ (m = L.length ∨ ∃ c, L[m]? = some c ∧ isN c.ro.op = true)
  free : ∀ (e : Nat) (b : AO) x j nm, L[e]? = some b → b.ro.op = .l x j → isPv x = false → nms[j]? = some nm → ¬ Dn listed b.ro.idx → ι nm = none
  slots : ∀ (s : Pos) t j v, s.nat = t + 1 → j ≤ L.length → (∀ (q : Nat) (b : AO), L[q]? = some b → b.ro.dst = some s → (Dn listed b.ro.idx ↔ q < j)) → T.get s (A j) = some v → VR ι v (a.tmps.getD t undef)
  g : G N ι0 (σ 0) w0 ι (σ k) w
structure Names (N : Nat) (nms : List Pos) (s0 : St) (ι0 : Nm) : Prop where
  lo : ∀ (j : Nat) nm, nms[j]? = some nm → N ≤ nm.nat
  hi : ∀ (j : Nat) nm, nms[j]? = some nm → nm.nat < s0.nx.nat
  inj : ∀ (i j : Nat) nm, nms[i]? = some nm → nms[j]? = some nm → i = j
  none : ∀ (j : Nat) nm, nms[j]? = some nm → ι0 nm = none
end
end Go.Proofs.YtcecdaeceipbnaaGreatDoor

/-
  Regions that draw their order are sound: step by step. (Of no program.)
-/
namespace Go.Proofs.YtcecdaeceipbnaaGreatDoor
set_option linter.unusedVariables false
set_option linter.unusedSimpArgs false
set_option linter.unusedSectionVars false
open Go

section
variable {P : Program} {E : Env P} {M : Mach} {call : Pos → List V → St → Option (V × St)} {n N : Nat} {ds : List Deferred} {ops : Array Oper} {L : List AO} {nms : List Pos} {A : Nat → T V} {σ : Nat → St} {ι0 ι : Nm} {w0 w : World} {k : Nat} {listed : Array Bool} {a : Act}

theorem get_newB {s : St} {nm q : Pos} {ob : Ob} : T.get q (newB s (some nm) ob).h = if q = nm then some ob else T.get q s.h := by
  show T.get q (T.set ob nm s.h) = _
  rw [T.get_set]
theorem Stat.idx_inj (S : Stat E n ops L) {p q : Nat} {b c : AO} (hb : L[p]? = some b) (hc : L[q]? = some c) (h : b.ro.idx = c.ro.idx) : p = q := by
  rcases Nat.lt_trichotomy p q with h1 | h1 | h1
  · exact absurd h (S.pair p q b c h1 hb hc).1
  · exact h1
  · exact absurd h.symm (S.pair q p c b h1 hc hb).1
/-- where it stands that is not wanted -/
theorem Inv.skip (T1 : Tr M call nms L A σ) (I : Inv P n ds N ops L nms A σ ι0 w0 ι k listed a w) {b : AO} (hget : L[k]? = some b) (hact : ¬ Actv A k b) : Inv P n ds N ops L nms A σ ι0 w0 ι (k + 1) listed a w := by
  have hk : k < L.length := (List.getElem?_eq_some_iff.1 hget).1
  have e := T1.noact hget hact
  refine { I with rep := by rw [e]; exact I.rep, kle := hk, before := ?_, pend := ?_, cont := ?_, clean := ?_, g := by rw [e]; exact I.g }
  · intro e b' he hb ha
    by_cases hek : e = k
    · subst hek; rw [hget] at hb; cases hb; exact absurd ha hact
    · exact I.before e b' (by omega) hb ha
  · intro e' b' he hb ha hdn
    exact I.pend e' b' (by omega) hb ha hdn
  · intro e' b' x j nm p he hb h1 h2 h3 h4 h5 h6 h7 h8
    rw [e]
    exact I.cont e' b' x j nm p (by omega) hb h1 h2 h3 h4 h5 h6 h7 h8
  · intro e' b' x j he hb h1 h2
    by_cases hek : e' = k
    · subst hek; rw [hget] at hb; cases hb; exact absurd h2 hact
    · obtain ⟨m, h3, h4, h5⟩ := I.clean e' b' x j (by omega) hb h1 h2
      exact ⟨m, h3, by omega, h5⟩
theorem Inv.own (S : Stat E n ops L) (T1 : Tr M call nms L A σ) (U : Names N nms (σ 0) ι0) (I : Inv P n ds N ops L nms A σ ι0 w0 ι k listed a w) {h : Nat} (hh : h ≤ L.length)
    (hN : ∀ q c, k ≤ q → q < h → L[q]? = some c → isN c.ro.op = false) (hend : h = L.length ∨ ∃ c, L[h]? = some c ∧ isN c.ro.op = true) (hall : ∀ q c, k ≤ q → q < h → L[q]? = some c → Actv A q c → Dn listed c.ro.idx)
    {q : Nat} {c : AO} {x : EOp} {j : Nat} {nm : Pos} (hkq : k ≤ q) (hqh : q < h) (hc : L[q]? = some c) (ho : c.ro.op = .l x j) (hw : Actv A q c) (hn : nms[j]? = some nm) :
    T.get nm (σ k).h = none ∧ ∃ ob, T.get nm (σ h).h = some ob ∧ Pend ι w (σ k) nm ob := by
  obtain ⟨p, a0, e0, h1, h2, h3, h4⟩ := S.cr q c x j hc ho
  have hq : q < L.length := (List.getElem?_eq_some_iff.1 hc).1
  have hact : Actv A p a0 := by
    by_cases e : p = q
    · subst e; rw [hc] at h2; cases h2; exact hw
    · exact (T1.same (by omega) h2 hc h3 ho (S.same (by omega) h2 hc h3 ho)).2 hw
  have hkp : k ≤ p := Nat.le_of_not_lt fun hlt => by
    obtain ⟨m, m1, m2, m3⟩ := I.clean p a0 e0 j hlt h2 h3 hact
    rcases m3 with m3 | ⟨d, m3, m4⟩
    · omega
    · by_cases e : m = q
      · subst e; rw [hc] at m3; cases m3
        rw [isN_l ho] at m4; cases m4
      · have := ((S.same (by omega) h2 hc h3 ho).2.2.2.2 m d m1 (by omega) m3).2
        rw [this] at m4; cases m4
  have hfirst : ∀ i d y, L[i]? = some d → d.ro.op = .l y j → p ≤ i := fun i d y i1 i2 => Nat.le_of_not_lt fun hlt => by
    have := (S.same hlt i1 h2 i2 h3).2.2.1
    rw [h3] at this
    rw [kind_pv this] at h4; cases h4
  obtain ⟨nm', n1, n2, _⟩ := T1.priv S h2 h3 hact
  rw [hn] at n1; cases n1
  have hnone : T.get nm (σ k).h = none := by
    rw [← n2 h4]
    refine ((T1.calm S p hkp (by omega) (fun i d i1 i2 i3 => hN i d i1 (by omega) i3)).2 nm (fun i d y j' i1 i2 i3 i4 i5 i6 => ?_)).symm
    have := U.inj _ _ _ i6 hn
    subst this
    have := hfirst i d y i3 i4
    omega
  refine ⟨hnone, I.cont p a0 e0 j nm h hkp h2 h3 hn hact (hall p a0 hkp (by omega) h2 hact) (by omega) hh (fun i d i1 i2 i3 => hN i d (by omega) i2 i3) (fun i d y i1 i2 => ⟨fun hd => Nat.lt_of_not_le fun hle => ?_, fun hlt => ?_⟩)⟩
  · have hi : i < L.length := (List.getElem?_eq_some_iff.1 i1).1
    rcases hend with e | ⟨d', e1, e2⟩
    · omega
    · by_cases e : h = i
      · subst e; rw [i1] at e1; cases e1
        rw [isN_l i2] at e2; cases e2
      · have := ((S.same (by omega) h2 i1 h3 i2).2.2.2.2 h d' (by omega) (by omega) e1).2
        rw [this] at e2; cases e2
  · have hpi := hfirst i d y i1 i2
    by_cases e : p = i
    · subst e; rw [i1] at h2; cases h2
      exact hall p _ hkp (by omega) i1 hact
    · exact hall i d (by omega) hlt i1 ((T1.same (by omega) h2 i1 h3 i2 (S.same (by omega) h2 i1 h3 i2)).1 hact)
/-- the region's own blocks come in, as soon as all upon them is done -/
theorem Inv.jump (S : Stat E n ops L) (T1 : Tr M call nms L A σ) (U : Names N nms (σ 0) ι0) (I : Inv P n ds N ops L nms A σ ι0 w0 ι k listed a w) {h : Nat} (hkh : k < h) (hh : h ≤ L.length)
    (hN : ∀ q c, k ≤ q → q < h → L[q]? = some c → isN c.ro.op = false) (hend : h = L.length ∨ ∃ c, L[h]? = some c ∧ isN c.ro.op = true) (hall : ∀ q c, k ≤ q → q < h → L[q]? = some c → Actv A q c → Dn listed c.ro.idx) :
    Inv P n ds N ops L nms A σ ι0 w0 ι h listed a w := by
  have hown : ∀ r, (∃ q c x j, k ≤ q ∧ q < h ∧ L[q]? = some c ∧ c.ro.op = .l x j ∧ Actv A q c ∧ nms[j]? = some r) → T.get r (σ k).h = none ∧ ∃ ob, T.get r (σ h).h = some ob ∧ Pend ι w (σ k) r ob := by
    rintro r ⟨q, c, x, j, h1, h2, h3, h4, h5, h6⟩
    exact I.own S T1 U hh hN hend hall h1 h2 h3 h4 h5 h6
  obtain ⟨hnx, hcalm⟩ := T1.calm S h (by omega) hh hN
  have hsame : ∀ r, ¬ (∃ q c x j, k ≤ q ∧ q < h ∧ L[q]? = some c ∧ c.ro.op = .l x j ∧ Actv A q c ∧ nms[j]? = some r) → T.get r (σ h).h = T.get r (σ k).h := fun r hr => by
    refine hcalm r fun i c x j i1 i2 i3 i4 i5 i6 => hr ⟨i, c, x, j, i1, i2, i3, i4, i5, i6⟩
  refine { I with rep := ?_, kle := hh, before := ?_, pend := ?_, cont := ?_, clean := ?_, g := ?_ }
  · refine I.rep.adopts hnx (fun r o hr => ?_) (fun r o hr => ?_)
    · by_cases hex : (∃ q c x j, k ≤ q ∧ q < h ∧ L[q]? = some c ∧ c.ro.op = .l x j ∧ Actv A q c ∧ nms[j]? = some r)
      · rw [(hown r hex).1] at hr; cases hr
      · rw [hsame r hex]; exact hr
    · by_cases hex : (∃ q c x j, k ≤ q ∧ q < h ∧ L[q]? = some c ∧ c.ro.op = .l x j ∧ Actv A q c ∧ nms[j]? = some r)
      · obtain ⟨h1, ob, h2, pl, h3, h4, h5, h6, _⟩ := hown r hex
        rw [hr] at h2; cases h2
        exact .inr ⟨h1, pl, h3, h4, h5, h6⟩
      · rw [hsame r hex] at hr; exact .inl hr
  · intro e b he hb ha
    by_cases hek : e < k
    · exact I.before e b hek hb ha
    · exact hall e b (by omega) he hb ha
  · intro e b he hb ha hd
    exact I.pend e b (by omega) hb ha hd
  · intro e b x j nm p he hb h1 h2 h3 h4 h5 h6 h7 h8
    obtain ⟨ob, k1, pl, k2, k3, k4, k5, k6⟩ := I.cont e b x j nm p (by omega) hb h1 h2 h3 h4 h5 h6 h7 h8
    refine ⟨ob, k1, pl, k2, k3, k4, k5, ?_⟩
    rintro ⟨r, o, plr, i1, i2, i3, i4⟩
    have hr := k5 r plr i3 i4
    subst hr
    have hno : ¬ (∃ q c x j, k ≤ q ∧ q < h ∧ L[q]? = some c ∧ c.ro.op = .l x j ∧ Actv A q c ∧ nms[j]? = some r) := by
      rintro ⟨q, c, y, j', m1, m2, m3, m4, m5, m6⟩
      have := U.inj _ _ _ m6 h2
      subst this
      have he2 : e < L.length := (List.getElem?_eq_some_iff.1 hb).1
      rcases hend with e' | ⟨d', e1, e2⟩
      · omega
      · by_cases e' : h = e
        · subst e'; rw [hb] at e1; cases e1
          rw [isN_l h1] at e2; cases e2
        · have := ((S.same (by omega) m3 hb m4 h1).2.2.2.2 h d' (by omega) (by omega) e1).2
          rw [this] at e2; cases e2
    rw [hsame r hno] at i1
    exact k6 ⟨r, o, plr, i1, i2, i3, i4⟩
  · intro e b x j he hb h1 h2
    by_cases hek : e < k
    · obtain ⟨m, m1, m2, m3⟩ := I.clean e b x j hek hb h1 h2
      exact ⟨m, m1, by omega, m3⟩
    · exact ⟨h, he, Nat.le_refl _, hend⟩
  · refine { I.g with nx := by rw [hnx]; exact I.g.nx, img := ?_ }
    rintro r hr ⟨q, o, plq, i1, i2, i3, i4⟩
    by_cases hex : (∃ q' c x j, k ≤ q' ∧ q' < h ∧ L[q']? = some c ∧ c.ro.op = .l x j ∧ Actv A q' c ∧ nms[j]? = some q)
    · obtain ⟨_, _, _, _, _, _, _, _, _, hn⟩ := hex
      have := I.g.new q plq i3 (U.none _ _ hn) (by rw [i4]; exact hr)
      rw [i4] at this
      exact this
    · rw [hsame q hex] at i1
      exact I.g.img r hr ⟨q, o, plq, i1, i2, i3, i4⟩
theorem grp_end (L : List AO) : ∀ (d k : Nat), L.length - k = d → k < L.length → (∀ c, L[k]? = some c → isN c.ro.op = false) → ∃ h, k < h ∧ h ≤ L.length ∧ (∀ q c, k ≤ q → q < h → L[q]? = some c → isN c.ro.op = false) ∧ (h = L.length ∨ ∃ c, L[h]? = some c ∧ isN c.ro.op = true) := by
  intro d
  induction d with
  | zero => intro k hd hk; omega
  | succ d ih =>
    intro k hd hk hc
    have one : ∀ (q : Nat) (c : AO), k ≤ q → q < k + 1 → L[q]? = some c → isN c.ro.op = false := fun q c h1 h2 h3 => by
      have : q = k := by omega
      subst this
      exact hc c h3
    by_cases he : k + 1 = L.length
    · exact ⟨k + 1, by omega, by omega, one, .inl he⟩
    · have hk1 : k + 1 < L.length := by omega
      have hget : L[k + 1]? = some L[k + 1] := List.getElem?_eq_getElem hk1
      cases hN : isN L[k + 1].ro.op with
      | true =>
        exact ⟨k + 1, by omega, by omega, one, .inr ⟨_, hget, hN⟩⟩
      | false =>
        obtain ⟨h, h1, h2, h3, h4⟩ := ih (k + 1) (by omega) hk1 (fun c hc' => by rw [hget] at hc'; cases hc'; exact hN)
        refine ⟨h, by omega, h2, fun q c i1 i2 i3 => ?_, h4⟩
        by_cases e : q = k
        · subst e; exact hc c i3
        · exact h3 q c (by omega) i2 i3
theorem Inv.adv (S : Stat E n ops L) (T1 : Tr M call nms L A σ) (U : Names N nms (σ 0) ι0) : ∀ (d k : Nat), L.length - k ≤ d → Inv P n ds N ops L nms A σ ι0 w0 ι k listed a w →
    ∃ k', Inv P n ds N ops L nms A σ ι0 w0 ι k' listed a w ∧ (k' = L.length ∨ ∃ q b, k' ≤ q ∧ L[q]? = some b ∧ Actv A q b ∧ ¬ Dn listed b.ro.idx ∧ (q = k' ∨ ∀ i c, k' ≤ i → i ≤ q → L[i]? = some c → isN c.ro.op = false)) := by
  intro d
  induction d with
  | zero => intro k hd I; exact ⟨k, I, .inl (by have := I.kle; omega)⟩
  | succ d ih =>
    intro k hd I
    by_cases hkl : k = L.length
    · exact ⟨k, I, .inl hkl⟩
    have hk : k < L.length := by have := I.kle; omega
    have hget : L[k]? = some L[k] := List.getElem?_eq_getElem hk
    by_cases hact : Actv A k L[k]
    · by_cases hdn : Dn listed L[k].ro.idx
      · obtain ⟨x, j, ho⟩ := I.pend k _ (Nat.le_refl _) hget hact hdn
        obtain ⟨h, h1, h2, h3, h4⟩ := grp_end L _ k rfl hk (fun c hc => by rw [hget] at hc; cases hc; exact isN_l ho)
        by_cases hall : ∀ q c, k ≤ q → q < h → L[q]? = some c → Actv A q c → Dn listed c.ro.idx
        · exact ih h (by omega) (I.jump S T1 U h1 h2 h3 h4 hall)
        · have : ∃ q c, k ≤ q ∧ q < h ∧ L[q]? = some c ∧ Actv A q c ∧ ¬ Dn listed c.ro.idx := by
            refine Classical.byContradiction fun hno => hall fun q c i1 i2 i3 i4 => Classical.byContradiction fun i5 => hno ⟨q, c, i1, i2, i3, i4, i5⟩
          obtain ⟨q, c, i1, i2, i3, i4, i5⟩ := this
          exact ⟨k, I, .inr ⟨q, c, i1, i3, i4, i5, .inr fun i d m1 m2 m3 => h3 i d m1 (by omega) m3⟩⟩
      · exact ⟨k, I, .inr ⟨k, _, Nat.le_refl _, hget, hact, hdn, .inl rfl⟩⟩
    · exact ih (k + 1) (by omega) (I.skip T1 hget hact)

/-! one of those that are ready -/
structure Rdy (ops : Array Oper) (L : List AO) (listed : Array Bool) (p : Nat) (b : AO) : Prop where
  at_ : L[p]? = some b
  lt : b.ro.idx < ops.size
  not : ¬ Dn listed b.ro.idx
  edges : ∀ e ∈ edgesB b.o, Dn listed e
theorem Rdy.lower (S : Stat E n ops L) (I : Inv P n ds N ops L nms A σ ι0 w0 ι k listed a w) {p : Nat} {b : AO} (R : Rdy ops L listed p b) {q : Nat} {c : AO} (hq : q < p) (hc : L[q]? = some c) (h : ¬ Dn listed c.ro.idx) :
    apart c.ro b.ro = true ∧ ∃ x, pairK c.ro b.ro x = true := by
  obtain ⟨_, _, h3⟩ := S.pair q p c b hq hc R.at_
  rcases h3 with h3 | ⟨h3, x, h4, _⟩
  · exact absurd ((S.op p b R.at_).2.1 (Dn listed) I.closed R.edges _ h3) h
  · exact ⟨h3, x, h4⟩
theorem Rdy.upper (S : Stat E n ops L) (I : Inv P n ds N ops L nms A σ ι0 w0 ι k listed a w) {p : Nat} {b : AO} (R : Rdy ops L listed p b) {q : Nat} {c : AO} (hq : p < q) (hc : L[q]? = some c) (h : Dn listed c.ro.idx) :
    apart b.ro c.ro = true ∧ c.m.testBit b.ro.idx = false := by
  obtain ⟨_, _, h3⟩ := S.pair p q b c hq R.at_ hc
  have hbit : c.m.testBit b.ro.idx = false := by
    cases hb : c.m.testBit b.ro.idx with
    | false => rfl
    | true => exact absurd ((S.op q c hc).2.1 (Dn listed) I.closed (I.closed _ _ (S.op q c hc).1 h) _ hb) R.not
  rcases h3 with h3 | ⟨h3, _⟩
  · rw [hbit] at h3; cases h3
  · exact ⟨h3, hbit⟩
theorem apart_inv {x y : RO} (h : apart x y = true) : (∀ s, x.dst = some s → s ∉ y.slots) ∧ (∀ s, y.dst = some s → s ∉ x.slots) ∧ ∀ s, x.dst = some s → y.dst ≠ some s := by
  simp only [apart, Bool.and_eq_true, Bool.not_eq_true'] at h
  exact ⟨fun s hs => dstIn_false h.1.1 hs, fun s hs => dstIn_false h.1.2 hs, fun s hs => dstNe_ne h.2 hs⟩
theorem Rdy.slot (S : Stat E n ops L) (I : Inv P n ds N ops L nms A σ ι0 w0 ι k listed a w) {p : Nat} {b : AO} (R : Rdy ops L listed p b) {s : Pos} {t : Nat} (hs : s ∈ b.ro.slots) (ht : s.nat = t + 1) {v : V} (hv : T.get s (A p) = some v) : VR ι v (a.tmps.getD t undef) := by
  have hp : p < L.length := (List.getElem?_eq_some_iff.1 R.at_).1
  refine I.slots s t p v ht (by omega) (fun q c hc hd => ?_) hv
  rcases Nat.lt_trichotomy q p with h | h | h
  · refine ⟨fun _ => h, fun _ => ?_⟩
    by_cases hdn : Dn listed c.ro.idx
    · exact hdn
    · exact absurd hs ((apart_inv (R.lower S I h hc hdn).1).1 s hd)
  · subst h
    rw [R.at_] at hc; cases hc
    exact ⟨fun h => absurd h R.not, fun h => absurd h (Nat.lt_irrefl _)⟩
  · refine ⟨fun hdn => ?_, fun h' => absurd h' (by omega)⟩
    exact absurd hs ((apart_inv (R.upper S I h hc hdn).1).2.1 s hd)
theorem Rdy.frame (S : Stat E n ops L) (I : Inv P n ds N ops L nms A σ ι0 w0 ι k listed a w) {p : Nat} {b : AO} (R : Rdy ops L listed p b) : FR n ds ι (restr b.ro.slots (A p)) a := by
  refine ⟨I.fsize, I.defers, fun s v t h1 h2 => ?_⟩
  rw [restr_get] at h1
  split at h1
  · rename_i hs; exact R.slot S I hs h2 h1
  · cases h1
theorem dn_set {i x : Nat} (hs : i < listed.size) : Dn (listed.setIfInBounds i true) x ↔ x = i ∨ Dn listed x := by
  unfold Dn
  rw [Array.getD_eq_getD_getElem?, Array.getElem?_setIfInBounds, Array.getD_eq_getD_getElem?]
  by_cases h : i = x
  · subst h; simp [hs]
  · have : ¬ x = i := fun e => h e.symm
    simp [h, this]
/-- the frame behind it -/
theorem Rdy.slots (S : Stat E n ops L) (T1 : Tr M call nms L A σ) (I : Inv P n ds N ops L nms A σ ι0 w0 ι k listed a w) {p : Nat} {b : AO} (R : Rdy ops L listed p b) {ι' : Nm} (hx : Ext ι ι') {v : V} {v' : Value} (hv : VR ι' v v') (hA : A (p + 1) = putD (A p) b.ro.dst v) (hok : okDst n b.ro.dst b.o.dst = true) :
    ∀ (s : Pos) t j uu, s.nat = t + 1 → j ≤ L.length → (∀ (q : Nat) (c : AO), L[q]? = some c → c.ro.dst = some s → (Dn (listed.setIfInBounds b.ro.idx true) c.ro.idx ↔ q < j)) → T.get s (A j) = some uu → VR ι' uu ((a.put b.o.dst v').tmps.getD t undef) := by
  intro s t j uu hst hj hw hu
  have hlt : b.ro.idx < listed.size := by rw [I.size]; exact R.lt
  by_cases hd : b.ro.dst = some s
  · have hpj : p < j := (hw p b R.at_ hd).1 ((dn_set hlt).2 (.inl rfl))
    have : T.get s (A j) = T.get s (A (p + 1)) := T1.slot j (by omega) hj (fun q c h1 h2 h3 hdc => by
      have hdn := (hw q c h3 hdc).2 h2
      rw [dn_set hlt] at hdn
      rcases hdn with e | hdn
      · have := S.idx_inj h3 R.at_ e
        omega
      · exact (apart_inv (R.upper S I (by omega) h3 hdn).1).2.2 s hd hdc)
    rw [this, hA, hd, putD_self] at hu
    cases hu
    rw [hd] at hok
    cases ho : b.o.dst with
    | none => rw [ho] at hok; simp [okDst] at hok
    | some t' =>
      rw [ho] at hok
      simp only [okDst, Bool.and_eq_true, beq_iff_eq, decide_eq_true_eq] at hok
      obtain ⟨k1, k2⟩ := hok
      have k1 : s.nat = t' + 1 := k1
      have k2 : t' < n := k2
      have e : t' = t := by simp only [Tmp] at *; omega
      subst e
      have hsz := I.fsize
      simp only [Act.put, Array.getD_eq_getD_getElem?, Array.getElem?_setIfInBounds]
      rw [if_pos trivial, if_pos (by simp only [Tmp] at *; omega)]
      exact hv
  · have h1 := I.slots s t j uu hst hj (fun q c h1 h2 => by
      rw [← hw q c h1 h2, dn_set hlt]
      refine ⟨.inr, fun h => h.resolve_left fun e => ?_⟩
      have := S.idx_inj h1 R.at_ e
      subst this
      rw [R.at_] at h1; cases h1
      exact hd h2) hu
    have h2 : (a.put b.o.dst v').tmps.getD t undef = a.tmps.getD t undef := by
      cases ho : b.o.dst with
      | none => rfl
      | some t' =>
        have hne : t' ≠ t := fun e => by
          subst e
          cases hd2 : b.ro.dst with
          | none => rw [hd2, ho] at hok; simp [okDst] at hok
          | some s' =>
            rw [hd2, ho] at hok
            simp only [okDst, Bool.and_eq_true, beq_iff_eq, decide_eq_true_eq] at hok
            obtain ⟨k1, _⟩ := hok
            have k1 : s'.nat = t' + 1 := k1
            have : s' = s := Pos.nat_inj (by simp only [Tmp] at *; omega)
            subst this
            exact hd hd2
        simp only [Act.put, Array.getD_eq_getD_getElem?, Array.getElem?_setIfInBounds_ne hne]
    rw [h2]
    exact h1.mono hx
theorem Rdy.closed (S : Stat E n ops L) (I : Inv P n ds N ops L nms A σ ι0 w0 ι k listed a w) {p : Nat} {b : AO} (R : Rdy ops L listed p b) : Closed ops (Dn (listed.setIfInBounds b.ro.idx true)) := by
  have hlt : b.ro.idx < listed.size := by rw [I.size]; exact R.lt
  intro i o hi hd e he
  rw [dn_set hlt] at hd ⊢
  rcases hd with rfl | hd
  · rw [(S.op p b R.at_).1] at hi; cases hi
    exact .inr (R.edges e he)
  · exact .inr (I.closed i o hi hd e he)
theorem put_size {a : Act} {d : Option Tmp} {v : Value} : (a.put d v).tmps.size = a.tmps.size := by cases d <;> simp [Act.put]
theorem put_defers2 {a : Act} {d : Option Tmp} {v : Value} : (a.put d v).defers = a.defers := by cases d <;> simp [Act.put]
/-- the world and the names need not turn -/
theorem Rdy.still (S : Stat E n ops L) (T1 : Tr M call nms L A σ) (I : Inv P n ds N ops L nms A σ ι0 w0 ι k listed a w) {p : Nat} {b : AO} (R : Rdy ops L listed p b) (hact : ¬ Actv A p b) {v : V} {v' : Value} (hv : VR ι v v') (hA : A (p + 1) = putD (A p) b.ro.dst v) (hok : okDst n b.ro.dst b.o.dst = true) :
    Inv P n ds N ops L nms A σ ι0 w0 ι k (listed.setIfInBounds b.ro.idx true) (a.put b.o.dst v') w := by
  have hlt : b.ro.idx < listed.size := by rw [I.size]; exact R.lt
  refine { size := by simp [I.size], closed := R.closed S I, fsize := by rw [put_size]; exact I.fsize, defers := by rw [put_defers2]; exact I.defers, rep := I.rep, kle := I.kle, before := ?_, pend := ?_, cont := ?_, clean := I.clean, free := ?_, slots := R.slots S T1 I (.refl ι) hv hA hok, g := I.g }
  · intro e c he hc ha
    exact (dn_set hlt).2 (.inr (I.before e c he hc ha))
  · intro e c he hc ha hd
    rw [dn_set hlt] at hd
    rcases hd with hd | hd
    · have := S.idx_inj hc R.at_ hd
      subst this
      rw [R.at_] at hc; cases hc
      exact absurd ha hact
    · exact I.pend e c he hc ha hd
  · intro e c x j nm p' he hc h1 h2 h3 h4 h5 h6 h7 h8
    have hbj : ∀ y, b.ro.op ≠ .l y j := fun y hy => by
      rcases Nat.lt_trichotomy e p with h | h | h
      · exact hact ((T1.same h hc R.at_ h1 hy (S.same h hc R.at_ h1 hy)).1 h3)
      · subst h; rw [R.at_] at hc; cases hc; exact hact h3
      · exact hact ((T1.same h R.at_ hc hy h1 (S.same h R.at_ hc hy h1)).2 h3)
    have hdn : ∀ (q : Nat) (d : AO) (y : EOp), L[q]? = some d → d.ro.op = .l y j → (Dn (listed.setIfInBounds b.ro.idx true) d.ro.idx ↔ Dn listed d.ro.idx) := fun q d y i1 i2 => by
      rw [dn_set hlt]
      refine ⟨fun h => h.resolve_left fun e' => ?_, .inr⟩
      have := S.idx_inj i1 R.at_ e'
      subst this
      rw [R.at_] at i1; cases i1
      exact hbj y i2
    exact I.cont e c x j nm p' he hc h1 h2 h3 ((hdn e c x hc h1).1 h4) h5 h6 h7 (fun q d y i1 i2 => by rw [← hdn q d y i1 i2]; exact h8 q d y i1 i2)
  · intro e c x j nm hc h1 h0 h2 h3
    exact I.free e c x j nm hc h1 h0 h2 (fun h => h3 ((dn_set hlt).2 (.inr h)))
end
end Go.Proofs.YtcecdaeceipbnaaGreatDoor
