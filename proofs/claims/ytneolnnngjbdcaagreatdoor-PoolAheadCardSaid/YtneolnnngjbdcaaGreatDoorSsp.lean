/-
  slices.SortedFunc over a map's keys by digest.Compare, as a contract of the machine.
-/
import Derived.Test.YtneolnnngjbdcaaGreatDoorSis
import Derived.Test.YtneolnnngjbdcaaGreatDoorEnThree
import Derived.Test.YtneolnnngjbdcaaGreatDoorPaB
namespace Go.Proofs.YtneolnnngjbdcaaGreatDoor.Ir
set_option linter.unusedVariables false
set_option linter.unusedSimpArgs false
set_option maxRecDepth 100000
open Go Go.Proofs Go.Proofs.YtneolnnngjbdcaaGreatDoor Go.RowKit Go.Shelf Go.Sort
def vB (n : Nat) : V := .int .u8 (.ofNat n)
noncomputable def unU (l : List V) : Option (List Nat) := List.rec (motive := fun _ => Option (List Nat)) (some []) (fun v _ ih => match v with
  | .int k n => (match k, n with | .u8, .ofNat n => (match Nat.blt n 256 with | true => (match ih with | some r => some (n :: r) | none => none) | false => none) | _, _ => none)
  | _ => none) l
theorem unU_eq : ∀ (l : List V) (r : List Nat), unU l = some r → l = r.map vB ∧ ∀ x ∈ r, x < 256
  | [], r, h => by
    cases (show some [] = some r from h)
    exact ⟨rfl, by simp⟩
  | v :: l, r, h => by
    have h : (match (generalizing := false) v with
      | .int k n => (match (generalizing := false) k, n with | .u8, .ofNat n => (match Nat.blt n 256 with | true => (match unU l with | some r => some (n :: r) | none => none) | false => none) | _, _ => none)
      | _ => none) = some r := h
    split at h
    · split at h
      · split at h
        · rename_i n hb
          split at h
          · rename_i r' hr
            cases h
            obtain ⟨h1, h2⟩ := unU_eq l r' hr
            rw [blt_eq] at hb
            refine ⟨by rw [h1]; rfl, fun x hx => ?_⟩
            rcases List.mem_cons.1 hx with rfl | hx
            · simpa using hb
            · exact h2 x hx
          · cases h
        · cases h
      · cases h
    · cases h
noncomputable def unK (es : List ME) : Option (List (List Nat)) := List.rec (motive := fun _ => Option (List (List Nat))) (some []) (fun e _ ih => match e.k with
  | .agg l => (match unU l with | some r => (match Nat.beq (llen r) 32 with | true => (match ih with | some rs => some (r :: rs) | none => none) | false => none) | none => none)
  | _ => none) es
theorem unK_eq : ∀ (es : List ME) (rs : List (List Nat)), unK es = some rs → ∃ hs : List HB, rs = hs.map (·.l) ∧ es.map (·.k) = hs.map (fun x => V.agg (x.l.map vB))
  | [], rs, h => by
    cases (show some [] = some rs from h)
    exact ⟨[], rfl, rfl⟩
  | e :: es, rs, h => by
    have h : (match (generalizing := false) e.k with
      | .agg l => (match unU l with | some r => (match Nat.beq (llen r) 32 with | true => (match unK es with | some rs => some (r :: rs) | none => none) | false => none) | none => none)
      | _ => none) = some rs := h
    split at h
    · rename_i l hk
      split at h
      · rename_i r hr
        split at h
        · rename_i hl
          split at h
          · rename_i rs' hrs
            cases h
            obtain ⟨h1, h2⟩ := unU_eq l r hr
            obtain ⟨hs, h3, h4⟩ := unK_eq es rs' hrs
            have hl := Nat.eq_of_beq_eq_true hl
            rw [llen_eq] at hl
            refine ⟨⟨r, hl, h2⟩ :: hs, by rw [h3]; rfl, ?_⟩
            rw [List.map_cons, List.map_cons, h4, hk, h1]
          · cases h
        · cases h
      · cases h
    · cases h
noncomputable def bornOk (ck : Nat) (es : List ME) : Bool := List.rec (motive := fun _ => Bool) true (fun e es ih => Nat.blt e.b ck && (lall (fun x => !(Nat.beq x.b e.b)) es && ih)) es
theorem bornOk_eq {ck : Nat} : ∀ es : List ME, bornOk ck es = true → (∀ x ∈ es, x.b < ck) ∧ (es.map (·.b)).Nodup
  | [], _ => by simp
  | e :: es, h => by
    have h : (Nat.blt e.b ck && (lall (fun x => !(Nat.beq x.b e.b)) es && bornOk ck es)) = true := h
    simp only [Bool.and_eq_true, blt_eq, lall_eq, decide_eq_true_eq] at h
    obtain ⟨h1, h2, h3⟩ := h
    obtain ⟨k1, k2⟩ := bornOk_eq es h3
    refine ⟨fun x hx => ?_, ?_⟩
    · rcases List.mem_cons.1 hx with rfl | hx
      · exact h1
      · exact k1 x hx
    · rw [List.map_cons, List.nodup_cons]
      refine ⟨fun hm => ?_, k2⟩
      obtain ⟨x, hx, he⟩ := List.mem_map.1 hm
      have := List.all_eq_true.1 h2 x hx
      rw [nbeq_eq] at this
      simp [he] at this
noncomputable def cellsN (rs : List (List Nat)) : List V := List.rec (motive := fun _ => List V) [] (fun r _ ih => lapp (lmap vB r) ih) rs
theorem cellsN_eq : ∀ rs, cellsN rs = rs.flatMap (·.map vB)
  | [] => rfl
  | r :: rs => by
    show lapp (lmap vB r) (cellsN rs) = _
    rw [cellsN_eq rs, lapp_eq, lmap_eq]
    rfl
noncomputable def ssSpec (vs : List V) (σ : St) : Option (V × St) := match vs with
  | [.fn f [] [.ptr q 0], .fn f2 [] []] => (match Nat.beq f 90 && Nat.beq f2 61 with
    | true => (match T.get q σ.h with
      | some (.cells [.map p] _ _ _) => (match T.get p σ.h with
        | some (.map (e :: es) ck _) => (match bornOk ck (e :: es) && Nat.ble (llen es) 800000, unK (e :: es) with
          | true, some rs => some (.slice σ.nx 0 (llen (e :: es)) none 32, ⟨T.set (.cells (cellsN (isoN rs)) [] false false) σ.nx σ.h, σ.nx.succ⟩)
          | _, _ => none)
        | _ => none)
      | _ => none)
    | false => none)
  | _ => none
theorem vrs_bytes {ι : Nm} : ∀ (l : List Nat), (∀ x ∈ l, x < 256) → VRs ι (l.map vB) (l.map fun n => Value.int .u8 (.ofNat n)) := by
  intro l hl
  refine ⟨by simp, fun i a b ha hb => ?_⟩
  rw [List.getElem?_map] at ha hb
  cases hx : l[i]? with
  | none => rw [hx] at ha; cases ha
  | some n =>
    rw [hx] at ha hb
    cases ha; cases hb
    have := hl n (List.mem_of_getElem? hx)
    exact .int _ _ (by
      have h1 : IntKind.u8.min = 0 := rfl
      have h2 : IntKind.u8.max = 255 := rfl
      constructor
      · rw [h1]; exact Int.natCast_nonneg n
      · rw [h2]; show (n : Int) ≤ 255; omega)
open Classical in
noncomputable def hbOf (y : MapEntry) : HB := if h : ∃ x : HB, y.key = .agg x.enc.toArray then h.choose else default
theorem hbOf_eq {y : MapEntry} {x : HB} (h : y.key = .agg x.enc.toArray) : y.key = (hbOf y).row.enc ∧ (hbOf y).enc = x.enc := by
  have hx : ∃ x : HB, y.key = .agg x.enc.toArray := ⟨x, h⟩
  unfold hbOf
  rw [dif_pos hx]
  have h2 := hx.choose_spec
  refine ⟨h2, ?_⟩
  have := (Value.agg.inj (h.symm.trans h2))
  exact (List.toArray_inj this).symm
theorem enc_inj {x y : HB} (h : x.enc = y.enc) : x = y := by
  apply HB.ext
  have : ∀ l m : List Nat, l.map (fun n => Value.int .u8 (.ofNat n)) = m.map (fun n => Value.int .u8 (.ofNat n)) → l = m := by
    intro l
    induction l with
    | nil => intro m hm; cases m with | nil => rfl | cons => cases hm
    | cons a l ih => intro m hm; cases m with
      | nil => cases hm
      | cons b m =>
        simp only [List.map_cons, List.cons.injEq] at hm
        obtain ⟨h1, h2⟩ := hm
        cases h1
        rw [ih m h2]
  exact this _ _ h
theorem key_of_vr {ι : Nm} {x : HB} {v : Value} (h : VR ι (.agg (x.l.map vB)) v) : v = .agg x.enc.toArray := by
  cases h with
  | agg l c hl hh =>
    congr 1
    apply Array.ext'
    apply List.ext_getElem?
    intro i
    simp only [List.length_map] at hl
    by_cases hi : i < x.l.length
    · have hc : i < c.size := by omega
      have := hh i (vB (x.l[i]'hi)) (c[i]'hc) (by simp [hi]) (Array.getElem?_eq_getElem hc)
      rw [Array.getElem?_toList, Array.getElem?_eq_getElem hc]
      generalize c[i]'hc = z at this
      cases this
      simp [HB.enc, hi]
    · rw [List.getElem?_eq_none (by simp; omega), List.getElem?_eq_none (by simp [HB.enc]; omega)]
theorem ss_ok {vs : List V} {σ : St} {v : V} {σ' : St} (h : ssSpec vs σ = some (v, σ')) {ι : Nm} {w : World} {args : Array Value} (R : Rep ι σ w) (hv : VRs ι vs args.toList) : Calls Tryz.prog (p59.nat - 1) args w (Post ι σ w v σ') := by
  unfold ssSpec at h
  split at h
  · rename_i f q f2
    split at h
    · rename_i hf
      simp only [Bool.and_eq_true] at hf
      have hf1 := Nat.eq_of_beq_eq_true hf.1
      have hf2 := Nat.eq_of_beq_eq_true hf.2
      subst hf1; subst hf2
      split at h
      · rename_i p kin fz ro hq
        split at h
        · rename_i e es ck ks hp
          split at h
          · rename_i rs hc hK
            cases h
            simp only [Bool.and_eq_true, llen_eq] at hc
            obtain ⟨hB, hlen⟩ := hc
            have hlen : es.length ≤ 800000 := Nat.le_of_ble_eq_true hlen
            obtain ⟨hb1, hb2⟩ := bornOk_eq _ hB
            obtain ⟨hs, rfl, hks⟩ := unK_eq _ _ hK
            obtain ⟨al⟩ := args
            have hl : 2 = al.length := hv.1
            match al, hl, hv with
            | [x, y], _, hv =>
              have hx := hv.head
              have hy := hv.tail.head
              obtain ⟨plq, c, e', j1, j2, j3, j4, j5, j6⟩ := R.ob q _ hq
              obtain ⟨plp, es', k1, k2, k3, k4, k5, _, _⟩ := R.ob p _ hp
              have hlt : plq.st < c.size := by
                have : plq.st + 1 ≤ c.size := j5
                omega
              have hcell := j6 0 (.map p) (c[plq.st]'hlt) rfl (by rw [Nat.add_zero]; exact Array.getElem?_eq_getElem hlt)
              have hval : c[plq.st]'hlt = .map (some plp.blk) := by
                generalize c[plq.st]'hlt = z at hcell
                cases hcell with
                | map _ pl h1 _ => rw [k1] at h1; cases h1; rfl
              have hc : w.cell? ⟨plq.blk, plq.st, none⟩ = some (.map (some plp.blk)) := by
                simp only [World.cell?, j3]
                rw [Array.getElem?_eq_getElem hlt, hval]
                simp
              have hxv : x = .func (.func 90) #[] #[.pointer (some ⟨plq.blk, plq.st, none⟩)] := by
                cases hx with
                | fn _ _ _ x' y' hx' hy' h1 h2 =>
                  have e1 : x' = #[] := Array.eq_empty_of_size_eq_zero hx'.symm
                  subst e1
                  obtain ⟨ly⟩ := y'
                  have hly : 1 = ly.length := hy'
                  match ly, hly, h2 with
                  | [z], _, h2 =>
                    have := h2 0 (.ptr q 0) z rfl rfl
                    cases this with
                    | ptr _ _ pl h3 _ => rw [j1] at h3; cases h3; rfl
              have hyv : y = .func (.func 61) #[] #[] := by
                cases hy with
                | fn _ _ _ x' y' hx' hy' h1 h2 =>
                  have e1 : x' = #[] := Array.eq_empty_of_size_eq_zero hx'.symm
                  have e2 : y' = #[] := Array.eq_empty_of_size_eq_zero hy'.symm
                  subst e1; subst e2; rfl
              subst hxv; subst hyv
              have hqlt : plq.blk < w.heap.size := (Array.getElem?_eq_some_iff.1 j3).1
              have hsl : hs.length = (e :: es).length := by have := congrArg List.length hks; simpa using this.symm
              have hkey : ∀ (i : Nat) (hh : HB) (y : MapEntry), hs[i]? = some hh → es'[i]? = some y → y.key = .agg hh.enc.toArray := by
                intro i hh y h1 h2
                have hi : i < (e :: es).length := by rw [← hsl]; exact (List.getElem?_eq_some_iff.1 h1).1
                have h3 : (e :: es)[i]? = some ((e :: es)[i]'hi) := List.getElem?_eq_getElem hi
                have h4 := (k5 i _ y h3 h2).1
                have h5 := congrArg (fun l => l[i]?) hks
                simp only [List.getElem?_map, h3, h1, Option.map_some] at h5
                rw [Option.some.inj h5] at h4
                exact key_of_vr h4
              have hget : ∀ y ∈ es'.toList, ∃ (i : Nat) (hh : HB), hs[i]? = some hh ∧ es'[i]? = some y ∧ ∃ x : ME, (e :: es)[i]? = some x ∧ x.b = y.born := by
                intro y hy
                obtain ⟨i, hi, rfl⟩ := List.getElem_of_mem hy
                have hi' : i < es'.size := by simpa using hi
                have hi2 : i < hs.length := by omega
                have hi3 : i < (e :: es).length := by omega
                refine ⟨i, _, List.getElem?_eq_getElem hi2, by simp [hi'], _, List.getElem?_eq_getElem hi3, ?_⟩
                exact (k5 i _ _ (List.getElem?_eq_getElem hi3) (by simp [hi'])).2.2
              have hborn : es'.toList.map (·.born) = (e :: es).map (·.b) := by
                apply List.ext_getElem?
                intro i
                rw [List.getElem?_map, List.getElem?_map, Array.getElem?_toList]
                by_cases hi : i < es'.size
                · have hi3 : i < (e :: es).length := by omega
                  rw [Array.getElem?_eq_getElem hi, List.getElem?_eq_getElem hi3]
                  have := (k5 i _ _ (List.getElem?_eq_getElem hi3) (Array.getElem?_eq_getElem hi)).2.2
                  simp only [Option.map_some, this]
                · rw [Array.getElem?_eq_none (by omega), List.getElem?_eq_none (by omega)]; rfl
              have hmap : es'.toList.map hbOf = hs := by
                apply List.ext_getElem?
                intro i
                rw [List.getElem?_map, Array.getElem?_toList]
                by_cases hi : i < es'.size
                · have hi2 : i < hs.length := by omega
                  rw [Array.getElem?_eq_getElem hi, List.getElem?_eq_getElem hi2]
                  have := (hbOf_eq (hkey i _ _ (List.getElem?_eq_getElem hi2) (Array.getElem?_eq_getElem hi))).2
                  simp only [Option.map_some, enc_inj this]
                · rw [Array.getElem?_eq_none (by omega), List.getElem?_eq_none (by omega)]; rfl
              have hz : es'.size = es.length + 1 := by rw [← k4]; rfl
              refine (sorted_keys plp.blk ck ⟨plq.blk, plq.st, none⟩ es' hbOf w hc hqlt k3 (fun y hy => ?_) (by rw [hborn]; exact hb2) (fun y hy => ?_) (by omega) (by omega)).mono ?_
              · obtain ⟨i, hh, _, _, x, h3, h4⟩ := hget y hy
                rw [← h4]; exact hb1 x (List.mem_of_getElem? h3)
              · obtain ⟨i, hh, h1, h2, _⟩ := hget y hy
                exact (hbOf_eq (hkey i hh y h1 h2)).1
              · rintro e2 w' ⟨v', rfl, hbl, hrow⟩
                rw [hmap] at hrow
                rcases hrow.2 with ⟨_, h0⟩ | ⟨g, cap2, cur, rfl, hg, hgb, hn1, hn2, hcs, htk⟩
                · omega
                · have hL : (sortH hs).flatMap HB.enc = ((sortH hs).flatMap (·.l)).map fun n => Value.int .u8 (.ofNat n) := by rw [List.map_flatMap]; rfl
                  have hC : cellsN (isoN (hs.map (·.l))) = ((sortH hs).flatMap (·.l)).map vB := by
                    rw [isoN_eq, cellsN_eq, List.flatMap_map, List.map_flatMap]
                  have hlL : ((sortH hs).flatMap (·.l)).length = es'.size * 32 := by
                    have := hrow.1
                    rw [hL, List.length_map] at this
                    exact this
                  have hVs : VRs ι (((sortH hs).flatMap (·.l)).map vB) (cur.toList.take (((sortH hs).flatMap (·.l)).map vB).length) := by
                    rw [List.length_map, hlL, htk, hL]
                    refine vrs_bytes _ (fun x hx => ?_)
                    obtain ⟨z, _, hz2⟩ := List.mem_flatMap.1 hx
                    exact z.lt x hz2
                  have hm := R.meet hbl hg hgb hVs (by rw [List.length_map, hlL, hcs]; exact Nat.mul_le_mul_right _ hn1)
                  rw [hC, llen_eq]
                  refine ⟨_, _, rfl, ?_, hm.1, hm.2⟩
                  have hz' : (e :: es).length = es'.size := k4
                  rw [hz']
                  exact .slice _ _ _ _ _ ⟨g, 0, cur.size, 0⟩ _ _ (nmSet_self _ _ _) rfl (fun _ hn => by cases hn) hn1 (fun _ => rfl) (by simp only [Nat.zero_add, Nat.add_zero]; rw [hcs]; exact Nat.le_refl _)
          · cases h
        · cases h
      · cases h
    · cases h
  · cases h
end Go.Proofs.YtneolnnngjbdcaaGreatDoor.Ir
