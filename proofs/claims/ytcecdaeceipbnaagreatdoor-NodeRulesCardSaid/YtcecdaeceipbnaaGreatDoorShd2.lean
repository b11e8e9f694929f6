/-
  digest.mix: a block mixed into the eight words, whatever the block and the words.
-/
import Derived.Test.YtcecdaeceipbnaaGreatDoorShd1
namespace Go.Proofs.YtcecdaeceipbnaaGreatDoor.Ir
set_option linter.unusedVariables false
set_option maxRecDepth 100000
open Go Go.Proofs.YtcecdaeceipbnaaGreatDoor

/-- bytes, if these are bytes -/
noncomputable def natU8 (v : V) : Option Nat := match v with | .int k n => (match k with | .u8 => natOf n | _ => none) | _ => none
noncomputable def natU32 (v : V) : Option Nat := match v with | .int k n => (match k with | .u32 => natOf n | _ => none) | _ => none
noncomputable def natsF (f : V → Option Nat) (l : List V) : Option (List Nat) := List.rec (motive := fun _ => Option (List Nat)) (some []) (fun v _ ih => match f v with | some n => (match ih with | some r => some (n :: r) | none => none) | none => none) l
theorem natsF_eq (f : V → Option Nat) (g : Nat → V) (hf : ∀ v n, f v = some n → v = g n) : ∀ {l : List V} {m : List Nat}, natsF f l = some m → l = lmap g m
  | [], m, h => by cases h; rfl
  | v :: l, m, h => by
    have h : (match f v with | some n => (match natsF f l with | some r => some (n :: r) | none => none) | none => none) = some m := h
    split at h
    · rename_i n hn
      split at h
      · rename_i r hr
        cases h
        show _ = g n :: lmap g r
        rw [hf v n hn, natsF_eq f g hf hr]
      · cases h
    · cases h
theorem natOf_eq {i : Int} {n : Nat} (h : natOf i = some n) : i = .ofNat n := by cases i with | ofNat m => cases h; rfl | negSucc m => cases h
theorem natU8_eq (v : V) (n : Nat) (h : natU8 v = some n) : v = .int .u8 (.ofNat n) := by
  cases v <;> try (cases h; done)
  rename_i k i
  cases k <;> try (cases h; done)
  have h : natOf i = some n := h
  rw [natOf_eq h]
theorem natU32_eq (v : V) (n : Nat) (h : natU32 v = some n) : v = .int .u32 (.ofNat n) := by
  cases v <;> try (cases h; done)
  rename_i k i
  cases k <;> try (cases h; done)
  have h : natOf i = some n := h
  rw [natOf_eq h]
/-- the bytes of a slice, if there are so many -/
noncomputable def sliceB (σ : St) (p : Pos) (o n : Nat) : Option (List Nat) := match T.get p σ.h with
  | some (.cells L _ _ _) => (match natsF natU8 (ltake (ldrop L o) n) with | some bl => (match Nat.beq (llen bl) n with | true => some bl | false => none) | none => none)
  | _ => none
theorem sliceB_eq {σ : St} {p : Pos} {o n : Nat} {bl : List Nat} (h : sliceB σ p o n = some bl) : ∃ L kin fz ro, T.get p σ.h = some (.cells L kin fz ro) ∧ (L.drop o).take n = bs bl ∧ bl.length = n := by
  unfold sliceB at h
  split at h
  · rename_i L kin fz ro hp
    split at h
    · rename_i m hm
      split at h
      · rename_i hl
        cases h
        have hl := Nat.eq_of_beq_eq_true hl
        rw [llen_eq] at hl
        refine ⟨L, kin, fz, ro, hp, ?_, hl⟩
        have := natsF_eq natU8 (fun n => V.int .u8 (.ofNat n)) natU8_eq hm
        rw [ltake_eq, ldrop_eq] at this
        exact this
      · cases h
    · cases h
  · cases h
theorem bs_len (l : List Nat) : (bs l).length = l.length := by unfold bs; rw [lmap_eq, List.length_map]
theorem ix64_get : ∀ j, j < 64 → ix64[j]? = some j := fun j hj => by
  have hall : (List.range 64).all (fun j => decide (ix64[j]? = some j)) = true := by decide +kernel
  exact of_decide_eq_true (List.all_eq_true.1 hall j (List.mem_range.2 hj))
noncomputable def lookN (n : Nat) (t : List (Nat × Nat)) : Option Nat := List.rec (motive := fun _ => Option Nat) none (fun x _ ih => Bool.rec (motive := fun _ => Option Nat) ih (some x.2) (Nat.beq x.1 n)) t
/-- the digest of a slice of bytes, at some lengths; of none -/
noncomputable def shSpec (t : List (Nat × Nat)) (z : Option V) (vs : List V) (σ : St) : Option (V × St) := match vs with
  | [.slice p o n _ 1] => (match lookN n t with | some nb => (match sliceB σ p o n with | some bl => some (.agg (bs (shaQ n nb bl)), σ) | none => none) | none => none)
  | [.nils] => (match z with | some v => some (v, σ) | none => none)
  | _ => none
theorem shSpec_inv {t : List (Nat × Nat)} {z : Option V} {vs : List V} {σ σ' : St} {v : V} (h : shSpec t z vs σ = some (v, σ')) : (∃ p o n cap nb bl, vs = [.slice p o n cap 1] ∧ lookN n t = some nb ∧ sliceB σ p o n = some bl ∧ v = .agg (bs (shaQ n nb bl)) ∧ σ' = σ) ∨ (vs = [.nils] ∧ ∃ v0, z = some v0 ∧ v = v0 ∧ σ' = σ) := by
  unfold shSpec at h
  split at h
  · rename_i p o n cap
    split at h
    · rename_i nb h1
      split at h
      · rename_i bl h2
        cases h
        exact .inl ⟨p, o, n, cap, nb, bl, rfl, h1, h2, rfl, rfl⟩
      · cases h
    · cases h
  · split at h
    · rename_i v0 h0
      cases h
      exact .inr ⟨rfl, _, rfl, rfl, rfl⟩
    · cases h
  · cases h
theorem bs_b8 {bl : List Nat} (h : bl.length = 64) : bs bl = b8 (getN bl) ix64 := by
  unfold bs b8
  rw [lmap_eq, lmap_eq]
  refine List.ext_getElem (by simp [h, ix64]) (fun i h1 h2 => ?_)
  simp only [List.getElem_map]
  have hi : i < 64 := by simpa [h] using h1
  have e : ∀ j, j < 64 → ix64[j]? = some j := fun j hj => by
    have hall : (List.range 64).all (fun j => decide (ix64[j]? = some j)) = true := by decide +kernel
    exact of_decide_eq_true (List.all_eq_true.1 hall j (List.mem_range.2 hj))
  have e1 : ix64[i]'(by simpa [ix64] using hi) = i := by
    have := e i hi
    rw [List.getElem?_eq_getElem (by simpa [ix64] using hi)] at this
    exact Option.some.inj this
  rw [e1, getN_eq (List.getElem?_eq_getElem (by rw [h]; exact hi))]
noncomputable def spSpec (vs : List V) (σ : St) : Option (V × St) := match vs with
  | [.slice p o n _ 1] => (match Nat.beq n 64 with | true => (match sliceB σ p o 64 with | some bl => some (spO (getN bl), σ) | none => none) | false => none)
  | _ => none
theorem w32_bare (W : Nat → Nat) (l : List Nat) : ∀ x ∈ w32 W l, Bare x := by
  intro x hx
  unfold w32 at hx
  rw [lmap_eq, List.mem_map] at hx
  obtain ⟨n, _, rfl⟩ := hx
  exact bare_int _ _
theorem bH_ro (B : Nat → Nat) : ∀ p o, T.get p (bH B) = some o → o.wr = false := by
  intro p o h
  unfold bH at h
  rw [T.get_set] at h
  split at h
  · cases h; rfl
  · rw [T.get_nil] at h; cases h
theorem spread_ok {vs : List V} {σ : St} {v : V} {σ' : St} (h : spSpec vs σ = some (v, σ')) {ι : Nm} {w : World} {args : Array Value} (hG : Gl gs ι) (R : Rep ι σ w) (hv : VRs ι vs args.toList) : Calls Tryz.prog (p110.nat - 1) args w (Post ι σ w v σ') := by
  unfold spSpec at h
  split at h
  · rename_i p o n cap
    split at h
    · rename_i hn
      have hn := Nat.eq_of_beq_eq_true hn
      subst hn
      split at h
      · rename_i bl hb
        cases h
        obtain ⟨L, kin, fz, ro, h1, h2, h3⟩ := sliceB_eq hb
        obtain ⟨l⟩ := args
        have hl : 1 = l.length := hv.1
        match l, hl, hv with
        | [y], _, hv =>
          obtain ⟨ι2, G2, R2, V2⟩ := win_view (q := p60) hG R gs_lt' (by omega) (by rw [bs_len, h3]) (bs_bare bl) h1 h2 hv.head
          rw [bs_b8 h3] at R2
          exact fn_pure okA (f := p110) (nt := 80) (body := spI) (res := resI f110) (vs2 := [.slice p60 0 64 none 1]) (s2 := ⟨bH (getN bl), p61⟩) (by kernel_rfl) (by decide) (bare_agg (w32_bare _ _)) R G2 R2 (bH_ro _) (.cons V2 .nil) (sp_tri (getN bl) w)
      · cases h
    · cases h
  · cases h

/-! mix -/
noncomputable def specM (s : Nat) : List V → St → Option (V × St) := match s with | 5 => spSpec | _ => fun _ _ => none
noncomputable def machM : Mach := ⟨T.set (.spec 5) p110 tabA, specM, E.pt, []⟩
theorem tabM_is : TabIs E machM.tab := TabIs.set (t := tabA) (e := .spec 5) (p := p110) (tabIs_of tabA_ok) (by decide +kernel)
theorem okM : MOk Tryz.prog E machM (okD E) := mok_of2 rfl mtA mixed tabM_is (fun f s h vs σ v σ' hs ι w args hG R hv => by
  have h : T.get f (T.set (.spec 5) p110 tabA) = some (.spec s) := h
  rw [T.get_set] at h
  split at h
  · rename_i e; cases h; subst e; exact spread_ok hs hG R hv
  · exact absurd h (noSpec_get tabA_no f s))
noncomputable def h8V (x : H8) : List V := H8.rec (motive := fun _ => List V) (fun a b c d e f g h => [.int .u32 (.ofNat a), .int .u32 (.ofNat b), .int .u32 (.ofNat c), .int .u32 (.ofNat d), .int .u32 (.ofNat e), .int .u32 (.ofNat f), .int .u32 (.ofNat g), .int .u32 (.ofNat h)]) x
noncomputable def mxI : IR := bodyI f72
noncomputable def mx0 : IR := fstI mxI
noncomputable def mx1 : IR := fstI (sndI mxI)
noncomputable def mx2 : IR := fstI (sndI (sndI mxI))
noncomputable def mxL : IR := fstI (sndI (sndI (sndI mxI)))
noncomputable def mx3 : IR := fstI mxL
noncomputable def mxB : IR := lopI (blkI (sndI mxL))
noncomputable def mxT : IR := sndI (sndI (sndI (sndI mxI)))
noncomputable def mxF (t : Nat) : T V := T.set (.ptr p61 0) p2 (T.set (.ptr p62 0) p4 (T.set (.ptr p63 0) p5 (T.set (.ptr p64 0) p6 (T.set (.ptr p65 0) p7 (T.set (.int .i64 (.ofNat t)) p18 .nil)))))
noncomputable def mxH (S X : H8) (W : Nat → Nat) : T Ob := T.set (.cells (h8V S) [] false false) p61 (T.set (.cells (zz (.int .u32 (.ofNat 0)) 8) [] false false) p62 (T.set (.cells (w32 W ix64) [] false false) p63 (T.set (.cells (w32 (getN kW) ix64) [] false false) p64 (T.set (.cells (h8V X) [] false false) p65 .nil))))
noncomputable def mxK : List Pos := [p2, p4, p5, p6, p7, p18]
noncomputable def v5 : Vw := [(p61, p61), (p62, p62), (p63, p63), (p64, p64), (p65, p65)]
noncomputable def mxA (S : H8) : T V := frameOf [.agg (h8V S), .slice p60 0 64 none 1] .H .nil
theorem mx_0 (S X : H8) (W : Nat → Nat) (w0 : World) (Q : Exit → Act → World → Prop) : Tri Tryz.prog E 111 mxB (At gs 111 w0 (mxF 0) ⟨mxH S X W, p66⟩) (Exit.then (At gs 111 w0 (mxF 1) ⟨mxH S (rnd (getN kW 0) (W 0) X) W, p66⟩) Q) :=
  Tri.stepV okM (k := 40) (fuel := 40) (l := v5) (ks := mxK) gs_lt' (by kernel_rfl) (by unfold Alike; kernel_rfl) (by kernel_rfl) (by kernel_rfl) (by kernel_rfl)
theorem mx_1 (S X : H8) (W : Nat → Nat) (w0 : World) (Q : Exit → Act → World → Prop) : Tri Tryz.prog E 111 mxB (At gs 111 w0 (mxF 1) ⟨mxH S X W, p66⟩) (Exit.then (At gs 111 w0 (mxF 2) ⟨mxH S (rnd (getN kW 1) (W 1) X) W, p66⟩) Q) :=
  Tri.stepV okM (k := 40) (fuel := 40) (l := v5) (ks := mxK) gs_lt' (by kernel_rfl) (by unfold Alike; kernel_rfl) (by kernel_rfl) (by kernel_rfl) (by kernel_rfl)
theorem mx_2 (S X : H8) (W : Nat → Nat) (w0 : World) (Q : Exit → Act → World → Prop) : Tri Tryz.prog E 111 mxB (At gs 111 w0 (mxF 2) ⟨mxH S X W, p66⟩) (Exit.then (At gs 111 w0 (mxF 3) ⟨mxH S (rnd (getN kW 2) (W 2) X) W, p66⟩) Q) :=
  Tri.stepV okM (k := 40) (fuel := 40) (l := v5) (ks := mxK) gs_lt' (by kernel_rfl) (by unfold Alike; kernel_rfl) (by kernel_rfl) (by kernel_rfl) (by kernel_rfl)
theorem mx_3 (S X : H8) (W : Nat → Nat) (w0 : World) (Q : Exit → Act → World → Prop) : Tri Tryz.prog E 111 mxB (At gs 111 w0 (mxF 3) ⟨mxH S X W, p66⟩) (Exit.then (At gs 111 w0 (mxF 4) ⟨mxH S (rnd (getN kW 3) (W 3) X) W, p66⟩) Q) :=
  Tri.stepV okM (k := 40) (fuel := 40) (l := v5) (ks := mxK) gs_lt' (by kernel_rfl) (by unfold Alike; kernel_rfl) (by kernel_rfl) (by kernel_rfl) (by kernel_rfl)
theorem mx_4 (S X : H8) (W : Nat → Nat) (w0 : World) (Q : Exit → Act → World → Prop) : Tri Tryz.prog E 111 mxB (At gs 111 w0 (mxF 4) ⟨mxH S X W, p66⟩) (Exit.then (At gs 111 w0 (mxF 5) ⟨mxH S (rnd (getN kW 4) (W 4) X) W, p66⟩) Q) :=
  Tri.stepV okM (k := 40) (fuel := 40) (l := v5) (ks := mxK) gs_lt' (by kernel_rfl) (by unfold Alike; kernel_rfl) (by kernel_rfl) (by kernel_rfl) (by kernel_rfl)
theorem mx_5 (S X : H8) (W : Nat → Nat) (w0 : World) (Q : Exit → Act → World → Prop) : Tri Tryz.prog E 111 mxB (At gs 111 w0 (mxF 5) ⟨mxH S X W, p66⟩) (Exit.then (At gs 111 w0 (mxF 6) ⟨mxH S (rnd (getN kW 5) (W 5) X) W, p66⟩) Q) :=
  Tri.stepV okM (k := 40) (fuel := 40) (l := v5) (ks := mxK) gs_lt' (by kernel_rfl) (by unfold Alike; kernel_rfl) (by kernel_rfl) (by kernel_rfl) (by kernel_rfl)
theorem mx_6 (S X : H8) (W : Nat → Nat) (w0 : World) (Q : Exit → Act → World → Prop) : Tri Tryz.prog E 111 mxB (At gs 111 w0 (mxF 6) ⟨mxH S X W, p66⟩) (Exit.then (At gs 111 w0 (mxF 7) ⟨mxH S (rnd (getN kW 6) (W 6) X) W, p66⟩) Q) :=
  Tri.stepV okM (k := 40) (fuel := 40) (l := v5) (ks := mxK) gs_lt' (by kernel_rfl) (by unfold Alike; kernel_rfl) (by kernel_rfl) (by kernel_rfl) (by kernel_rfl)
theorem mx_7 (S X : H8) (W : Nat → Nat) (w0 : World) (Q : Exit → Act → World → Prop) : Tri Tryz.prog E 111 mxB (At gs 111 w0 (mxF 7) ⟨mxH S X W, p66⟩) (Exit.then (At gs 111 w0 (mxF 8) ⟨mxH S (rnd (getN kW 7) (W 7) X) W, p66⟩) Q) :=
  Tri.stepV okM (k := 40) (fuel := 40) (l := v5) (ks := mxK) gs_lt' (by kernel_rfl) (by unfold Alike; kernel_rfl) (by kernel_rfl) (by kernel_rfl) (by kernel_rfl)
theorem mx_8 (S X : H8) (W : Nat → Nat) (w0 : World) (Q : Exit → Act → World → Prop) : Tri Tryz.prog E 111 mxB (At gs 111 w0 (mxF 8) ⟨mxH S X W, p66⟩) (Exit.then (At gs 111 w0 (mxF 9) ⟨mxH S (rnd (getN kW 8) (W 8) X) W, p66⟩) Q) :=
  Tri.stepV okM (k := 40) (fuel := 40) (l := v5) (ks := mxK) gs_lt' (by kernel_rfl) (by unfold Alike; kernel_rfl) (by kernel_rfl) (by kernel_rfl) (by kernel_rfl)
theorem mx_9 (S X : H8) (W : Nat → Nat) (w0 : World) (Q : Exit → Act → World → Prop) : Tri Tryz.prog E 111 mxB (At gs 111 w0 (mxF 9) ⟨mxH S X W, p66⟩) (Exit.then (At gs 111 w0 (mxF 10) ⟨mxH S (rnd (getN kW 9) (W 9) X) W, p66⟩) Q) :=
  Tri.stepV okM (k := 40) (fuel := 40) (l := v5) (ks := mxK) gs_lt' (by kernel_rfl) (by unfold Alike; kernel_rfl) (by kernel_rfl) (by kernel_rfl) (by kernel_rfl)
theorem mx_10 (S X : H8) (W : Nat → Nat) (w0 : World) (Q : Exit → Act → World → Prop) : Tri Tryz.prog E 111 mxB (At gs 111 w0 (mxF 10) ⟨mxH S X W, p66⟩) (Exit.then (At gs 111 w0 (mxF 11) ⟨mxH S (rnd (getN kW 10) (W 10) X) W, p66⟩) Q) :=
  Tri.stepV okM (k := 40) (fuel := 40) (l := v5) (ks := mxK) gs_lt' (by kernel_rfl) (by unfold Alike; kernel_rfl) (by kernel_rfl) (by kernel_rfl) (by kernel_rfl)
theorem mx_11 (S X : H8) (W : Nat → Nat) (w0 : World) (Q : Exit → Act → World → Prop) : Tri Tryz.prog E 111 mxB (At gs 111 w0 (mxF 11) ⟨mxH S X W, p66⟩) (Exit.then (At gs 111 w0 (mxF 12) ⟨mxH S (rnd (getN kW 11) (W 11) X) W, p66⟩) Q) :=
  Tri.stepV okM (k := 40) (fuel := 40) (l := v5) (ks := mxK) gs_lt' (by kernel_rfl) (by unfold Alike; kernel_rfl) (by kernel_rfl) (by kernel_rfl) (by kernel_rfl)
theorem mx_12 (S X : H8) (W : Nat → Nat) (w0 : World) (Q : Exit → Act → World → Prop) : Tri Tryz.prog E 111 mxB (At gs 111 w0 (mxF 12) ⟨mxH S X W, p66⟩) (Exit.then (At gs 111 w0 (mxF 13) ⟨mxH S (rnd (getN kW 12) (W 12) X) W, p66⟩) Q) :=
  Tri.stepV okM (k := 40) (fuel := 40) (l := v5) (ks := mxK) gs_lt' (by kernel_rfl) (by unfold Alike; kernel_rfl) (by kernel_rfl) (by kernel_rfl) (by kernel_rfl)
theorem mx_13 (S X : H8) (W : Nat → Nat) (w0 : World) (Q : Exit → Act → World → Prop) : Tri Tryz.prog E 111 mxB (At gs 111 w0 (mxF 13) ⟨mxH S X W, p66⟩) (Exit.then (At gs 111 w0 (mxF 14) ⟨mxH S (rnd (getN kW 13) (W 13) X) W, p66⟩) Q) :=
  Tri.stepV okM (k := 40) (fuel := 40) (l := v5) (ks := mxK) gs_lt' (by kernel_rfl) (by unfold Alike; kernel_rfl) (by kernel_rfl) (by kernel_rfl) (by kernel_rfl)
theorem mx_14 (S X : H8) (W : Nat → Nat) (w0 : World) (Q : Exit → Act → World → Prop) : Tri Tryz.prog E 111 mxB (At gs 111 w0 (mxF 14) ⟨mxH S X W, p66⟩) (Exit.then (At gs 111 w0 (mxF 15) ⟨mxH S (rnd (getN kW 14) (W 14) X) W, p66⟩) Q) :=
  Tri.stepV okM (k := 40) (fuel := 40) (l := v5) (ks := mxK) gs_lt' (by kernel_rfl) (by unfold Alike; kernel_rfl) (by kernel_rfl) (by kernel_rfl) (by kernel_rfl)
theorem mx_15 (S X : H8) (W : Nat → Nat) (w0 : World) (Q : Exit → Act → World → Prop) : Tri Tryz.prog E 111 mxB (At gs 111 w0 (mxF 15) ⟨mxH S X W, p66⟩) (Exit.then (At gs 111 w0 (mxF 16) ⟨mxH S (rnd (getN kW 15) (W 15) X) W, p66⟩) Q) :=
  Tri.stepV okM (k := 40) (fuel := 40) (l := v5) (ks := mxK) gs_lt' (by kernel_rfl) (by unfold Alike; kernel_rfl) (by kernel_rfl) (by kernel_rfl) (by kernel_rfl)
theorem mx_16 (S X : H8) (W : Nat → Nat) (w0 : World) (Q : Exit → Act → World → Prop) : Tri Tryz.prog E 111 mxB (At gs 111 w0 (mxF 16) ⟨mxH S X W, p66⟩) (Exit.then (At gs 111 w0 (mxF 17) ⟨mxH S (rnd (getN kW 16) (W 16) X) W, p66⟩) Q) :=
  Tri.stepV okM (k := 40) (fuel := 40) (l := v5) (ks := mxK) gs_lt' (by kernel_rfl) (by unfold Alike; kernel_rfl) (by kernel_rfl) (by kernel_rfl) (by kernel_rfl)
theorem mx_17 (S X : H8) (W : Nat → Nat) (w0 : World) (Q : Exit → Act → World → Prop) : Tri Tryz.prog E 111 mxB (At gs 111 w0 (mxF 17) ⟨mxH S X W, p66⟩) (Exit.then (At gs 111 w0 (mxF 18) ⟨mxH S (rnd (getN kW 17) (W 17) X) W, p66⟩) Q) :=
  Tri.stepV okM (k := 40) (fuel := 40) (l := v5) (ks := mxK) gs_lt' (by kernel_rfl) (by unfold Alike; kernel_rfl) (by kernel_rfl) (by kernel_rfl) (by kernel_rfl)
theorem mx_18 (S X : H8) (W : Nat → Nat) (w0 : World) (Q : Exit → Act → World → Prop) : Tri Tryz.prog E 111 mxB (At gs 111 w0 (mxF 18) ⟨mxH S X W, p66⟩) (Exit.then (At gs 111 w0 (mxF 19) ⟨mxH S (rnd (getN kW 18) (W 18) X) W, p66⟩) Q) :=
  Tri.stepV okM (k := 40) (fuel := 40) (l := v5) (ks := mxK) gs_lt' (by kernel_rfl) (by unfold Alike; kernel_rfl) (by kernel_rfl) (by kernel_rfl) (by kernel_rfl)
theorem mx_19 (S X : H8) (W : Nat → Nat) (w0 : World) (Q : Exit → Act → World → Prop) : Tri Tryz.prog E 111 mxB (At gs 111 w0 (mxF 19) ⟨mxH S X W, p66⟩) (Exit.then (At gs 111 w0 (mxF 20) ⟨mxH S (rnd (getN kW 19) (W 19) X) W, p66⟩) Q) :=
  Tri.stepV okM (k := 40) (fuel := 40) (l := v5) (ks := mxK) gs_lt' (by kernel_rfl) (by unfold Alike; kernel_rfl) (by kernel_rfl) (by kernel_rfl) (by kernel_rfl)
theorem mx_20 (S X : H8) (W : Nat → Nat) (w0 : World) (Q : Exit → Act → World → Prop) : Tri Tryz.prog E 111 mxB (At gs 111 w0 (mxF 20) ⟨mxH S X W, p66⟩) (Exit.then (At gs 111 w0 (mxF 21) ⟨mxH S (rnd (getN kW 20) (W 20) X) W, p66⟩) Q) :=
  Tri.stepV okM (k := 40) (fuel := 40) (l := v5) (ks := mxK) gs_lt' (by kernel_rfl) (by unfold Alike; kernel_rfl) (by kernel_rfl) (by kernel_rfl) (by kernel_rfl)
theorem mx_21 (S X : H8) (W : Nat → Nat) (w0 : World) (Q : Exit → Act → World → Prop) : Tri Tryz.prog E 111 mxB (At gs 111 w0 (mxF 21) ⟨mxH S X W, p66⟩) (Exit.then (At gs 111 w0 (mxF 22) ⟨mxH S (rnd (getN kW 21) (W 21) X) W, p66⟩) Q) :=
  Tri.stepV okM (k := 40) (fuel := 40) (l := v5) (ks := mxK) gs_lt' (by kernel_rfl) (by unfold Alike; kernel_rfl) (by kernel_rfl) (by kernel_rfl) (by kernel_rfl)
theorem mx_22 (S X : H8) (W : Nat → Nat) (w0 : World) (Q : Exit → Act → World → Prop) : Tri Tryz.prog E 111 mxB (At gs 111 w0 (mxF 22) ⟨mxH S X W, p66⟩) (Exit.then (At gs 111 w0 (mxF 23) ⟨mxH S (rnd (getN kW 22) (W 22) X) W, p66⟩) Q) :=
  Tri.stepV okM (k := 40) (fuel := 40) (l := v5) (ks := mxK) gs_lt' (by kernel_rfl) (by unfold Alike; kernel_rfl) (by kernel_rfl) (by kernel_rfl) (by kernel_rfl)
theorem mx_23 (S X : H8) (W : Nat → Nat) (w0 : World) (Q : Exit → Act → World → Prop) : Tri Tryz.prog E 111 mxB (At gs 111 w0 (mxF 23) ⟨mxH S X W, p66⟩) (Exit.then (At gs 111 w0 (mxF 24) ⟨mxH S (rnd (getN kW 23) (W 23) X) W, p66⟩) Q) :=
  Tri.stepV okM (k := 40) (fuel := 40) (l := v5) (ks := mxK) gs_lt' (by kernel_rfl) (by unfold Alike; kernel_rfl) (by kernel_rfl) (by kernel_rfl) (by kernel_rfl)
theorem mx_24 (S X : H8) (W : Nat → Nat) (w0 : World) (Q : Exit → Act → World → Prop) : Tri Tryz.prog E 111 mxB (At gs 111 w0 (mxF 24) ⟨mxH S X W, p66⟩) (Exit.then (At gs 111 w0 (mxF 25) ⟨mxH S (rnd (getN kW 24) (W 24) X) W, p66⟩) Q) :=
  Tri.stepV okM (k := 40) (fuel := 40) (l := v5) (ks := mxK) gs_lt' (by kernel_rfl) (by unfold Alike; kernel_rfl) (by kernel_rfl) (by kernel_rfl) (by kernel_rfl)
theorem mx_25 (S X : H8) (W : Nat → Nat) (w0 : World) (Q : Exit → Act → World → Prop) : Tri Tryz.prog E 111 mxB (At gs 111 w0 (mxF 25) ⟨mxH S X W, p66⟩) (Exit.then (At gs 111 w0 (mxF 26) ⟨mxH S (rnd (getN kW 25) (W 25) X) W, p66⟩) Q) :=
  Tri.stepV okM (k := 40) (fuel := 40) (l := v5) (ks := mxK) gs_lt' (by kernel_rfl) (by unfold Alike; kernel_rfl) (by kernel_rfl) (by kernel_rfl) (by kernel_rfl)
theorem mx_26 (S X : H8) (W : Nat → Nat) (w0 : World) (Q : Exit → Act → World → Prop) : Tri Tryz.prog E 111 mxB (At gs 111 w0 (mxF 26) ⟨mxH S X W, p66⟩) (Exit.then (At gs 111 w0 (mxF 27) ⟨mxH S (rnd (getN kW 26) (W 26) X) W, p66⟩) Q) :=
  Tri.stepV okM (k := 40) (fuel := 40) (l := v5) (ks := mxK) gs_lt' (by kernel_rfl) (by unfold Alike; kernel_rfl) (by kernel_rfl) (by kernel_rfl) (by kernel_rfl)
theorem mx_27 (S X : H8) (W : Nat → Nat) (w0 : World) (Q : Exit → Act → World → Prop) : Tri Tryz.prog E 111 mxB (At gs 111 w0 (mxF 27) ⟨mxH S X W, p66⟩) (Exit.then (At gs 111 w0 (mxF 28) ⟨mxH S (rnd (getN kW 27) (W 27) X) W, p66⟩) Q) :=
  Tri.stepV okM (k := 40) (fuel := 40) (l := v5) (ks := mxK) gs_lt' (by kernel_rfl) (by unfold Alike; kernel_rfl) (by kernel_rfl) (by kernel_rfl) (by kernel_rfl)
theorem mx_28 (S X : H8) (W : Nat → Nat) (w0 : World) (Q : Exit → Act → World → Prop) : Tri Tryz.prog E 111 mxB (At gs 111 w0 (mxF 28) ⟨mxH S X W, p66⟩) (Exit.then (At gs 111 w0 (mxF 29) ⟨mxH S (rnd (getN kW 28) (W 28) X) W, p66⟩) Q) :=
  Tri.stepV okM (k := 40) (fuel := 40) (l := v5) (ks := mxK) gs_lt' (by kernel_rfl) (by unfold Alike; kernel_rfl) (by kernel_rfl) (by kernel_rfl) (by kernel_rfl)
theorem mx_29 (S X : H8) (W : Nat → Nat) (w0 : World) (Q : Exit → Act → World → Prop) : Tri Tryz.prog E 111 mxB (At gs 111 w0 (mxF 29) ⟨mxH S X W, p66⟩) (Exit.then (At gs 111 w0 (mxF 30) ⟨mxH S (rnd (getN kW 29) (W 29) X) W, p66⟩) Q) :=
  Tri.stepV okM (k := 40) (fuel := 40) (l := v5) (ks := mxK) gs_lt' (by kernel_rfl) (by unfold Alike; kernel_rfl) (by kernel_rfl) (by kernel_rfl) (by kernel_rfl)
theorem mx_30 (S X : H8) (W : Nat → Nat) (w0 : World) (Q : Exit → Act → World → Prop) : Tri Tryz.prog E 111 mxB (At gs 111 w0 (mxF 30) ⟨mxH S X W, p66⟩) (Exit.then (At gs 111 w0 (mxF 31) ⟨mxH S (rnd (getN kW 30) (W 30) X) W, p66⟩) Q) :=
  Tri.stepV okM (k := 40) (fuel := 40) (l := v5) (ks := mxK) gs_lt' (by kernel_rfl) (by unfold Alike; kernel_rfl) (by kernel_rfl) (by kernel_rfl) (by kernel_rfl)
theorem mx_31 (S X : H8) (W : Nat → Nat) (w0 : World) (Q : Exit → Act → World → Prop) : Tri Tryz.prog E 111 mxB (At gs 111 w0 (mxF 31) ⟨mxH S X W, p66⟩) (Exit.then (At gs 111 w0 (mxF 32) ⟨mxH S (rnd (getN kW 31) (W 31) X) W, p66⟩) Q) :=
  Tri.stepV okM (k := 40) (fuel := 40) (l := v5) (ks := mxK) gs_lt' (by kernel_rfl) (by unfold Alike; kernel_rfl) (by kernel_rfl) (by kernel_rfl) (by kernel_rfl)
theorem mx_32 (S X : H8) (W : Nat → Nat) (w0 : World) (Q : Exit → Act → World → Prop) : Tri Tryz.prog E 111 mxB (At gs 111 w0 (mxF 32) ⟨mxH S X W, p66⟩) (Exit.then (At gs 111 w0 (mxF 33) ⟨mxH S (rnd (getN kW 32) (W 32) X) W, p66⟩) Q) :=
  Tri.stepV okM (k := 40) (fuel := 40) (l := v5) (ks := mxK) gs_lt' (by kernel_rfl) (by unfold Alike; kernel_rfl) (by kernel_rfl) (by kernel_rfl) (by kernel_rfl)
theorem mx_33 (S X : H8) (W : Nat → Nat) (w0 : World) (Q : Exit → Act → World → Prop) : Tri Tryz.prog E 111 mxB (At gs 111 w0 (mxF 33) ⟨mxH S X W, p66⟩) (Exit.then (At gs 111 w0 (mxF 34) ⟨mxH S (rnd (getN kW 33) (W 33) X) W, p66⟩) Q) :=
  Tri.stepV okM (k := 40) (fuel := 40) (l := v5) (ks := mxK) gs_lt' (by kernel_rfl) (by unfold Alike; kernel_rfl) (by kernel_rfl) (by kernel_rfl) (by kernel_rfl)
theorem mx_34 (S X : H8) (W : Nat → Nat) (w0 : World) (Q : Exit → Act → World → Prop) : Tri Tryz.prog E 111 mxB (At gs 111 w0 (mxF 34) ⟨mxH S X W, p66⟩) (Exit.then (At gs 111 w0 (mxF 35) ⟨mxH S (rnd (getN kW 34) (W 34) X) W, p66⟩) Q) :=
  Tri.stepV okM (k := 40) (fuel := 40) (l := v5) (ks := mxK) gs_lt' (by kernel_rfl) (by unfold Alike; kernel_rfl) (by kernel_rfl) (by kernel_rfl) (by kernel_rfl)
theorem mx_35 (S X : H8) (W : Nat → Nat) (w0 : World) (Q : Exit → Act → World → Prop) : Tri Tryz.prog E 111 mxB (At gs 111 w0 (mxF 35) ⟨mxH S X W, p66⟩) (Exit.then (At gs 111 w0 (mxF 36) ⟨mxH S (rnd (getN kW 35) (W 35) X) W, p66⟩) Q) :=
  Tri.stepV okM (k := 40) (fuel := 40) (l := v5) (ks := mxK) gs_lt' (by kernel_rfl) (by unfold Alike; kernel_rfl) (by kernel_rfl) (by kernel_rfl) (by kernel_rfl)
theorem mx_36 (S X : H8) (W : Nat → Nat) (w0 : World) (Q : Exit → Act → World → Prop) : Tri Tryz.prog E 111 mxB (At gs 111 w0 (mxF 36) ⟨mxH S X W, p66⟩) (Exit.then (At gs 111 w0 (mxF 37) ⟨mxH S (rnd (getN kW 36) (W 36) X) W, p66⟩) Q) :=
  Tri.stepV okM (k := 40) (fuel := 40) (l := v5) (ks := mxK) gs_lt' (by kernel_rfl) (by unfold Alike; kernel_rfl) (by kernel_rfl) (by kernel_rfl) (by kernel_rfl)
theorem mx_37 (S X : H8) (W : Nat → Nat) (w0 : World) (Q : Exit → Act → World → Prop) : Tri Tryz.prog E 111 mxB (At gs 111 w0 (mxF 37) ⟨mxH S X W, p66⟩) (Exit.then (At gs 111 w0 (mxF 38) ⟨mxH S (rnd (getN kW 37) (W 37) X) W, p66⟩) Q) :=
  Tri.stepV okM (k := 40) (fuel := 40) (l := v5) (ks := mxK) gs_lt' (by kernel_rfl) (by unfold Alike; kernel_rfl) (by kernel_rfl) (by kernel_rfl) (by kernel_rfl)
theorem mx_38 (S X : H8) (W : Nat → Nat) (w0 : World) (Q : Exit → Act → World → Prop) : Tri Tryz.prog E 111 mxB (At gs 111 w0 (mxF 38) ⟨mxH S X W, p66⟩) (Exit.then (At gs 111 w0 (mxF 39) ⟨mxH S (rnd (getN kW 38) (W 38) X) W, p66⟩) Q) :=
  Tri.stepV okM (k := 40) (fuel := 40) (l := v5) (ks := mxK) gs_lt' (by kernel_rfl) (by unfold Alike; kernel_rfl) (by kernel_rfl) (by kernel_rfl) (by kernel_rfl)
theorem mx_39 (S X : H8) (W : Nat → Nat) (w0 : World) (Q : Exit → Act → World → Prop) : Tri Tryz.prog E 111 mxB (At gs 111 w0 (mxF 39) ⟨mxH S X W, p66⟩) (Exit.then (At gs 111 w0 (mxF 40) ⟨mxH S (rnd (getN kW 39) (W 39) X) W, p66⟩) Q) :=
  Tri.stepV okM (k := 40) (fuel := 40) (l := v5) (ks := mxK) gs_lt' (by kernel_rfl) (by unfold Alike; kernel_rfl) (by kernel_rfl) (by kernel_rfl) (by kernel_rfl)
theorem mx_40 (S X : H8) (W : Nat → Nat) (w0 : World) (Q : Exit → Act → World → Prop) : Tri Tryz.prog E 111 mxB (At gs 111 w0 (mxF 40) ⟨mxH S X W, p66⟩) (Exit.then (At gs 111 w0 (mxF 41) ⟨mxH S (rnd (getN kW 40) (W 40) X) W, p66⟩) Q) :=
  Tri.stepV okM (k := 40) (fuel := 40) (l := v5) (ks := mxK) gs_lt' (by kernel_rfl) (by unfold Alike; kernel_rfl) (by kernel_rfl) (by kernel_rfl) (by kernel_rfl)
theorem mx_41 (S X : H8) (W : Nat → Nat) (w0 : World) (Q : Exit → Act → World → Prop) : Tri Tryz.prog E 111 mxB (At gs 111 w0 (mxF 41) ⟨mxH S X W, p66⟩) (Exit.then (At gs 111 w0 (mxF 42) ⟨mxH S (rnd (getN kW 41) (W 41) X) W, p66⟩) Q) :=
  Tri.stepV okM (k := 40) (fuel := 40) (l := v5) (ks := mxK) gs_lt' (by kernel_rfl) (by unfold Alike; kernel_rfl) (by kernel_rfl) (by kernel_rfl) (by kernel_rfl)
theorem mx_42 (S X : H8) (W : Nat → Nat) (w0 : World) (Q : Exit → Act → World → Prop) : Tri Tryz.prog E 111 mxB (At gs 111 w0 (mxF 42) ⟨mxH S X W, p66⟩) (Exit.then (At gs 111 w0 (mxF 43) ⟨mxH S (rnd (getN kW 42) (W 42) X) W, p66⟩) Q) :=
  Tri.stepV okM (k := 40) (fuel := 40) (l := v5) (ks := mxK) gs_lt' (by kernel_rfl) (by unfold Alike; kernel_rfl) (by kernel_rfl) (by kernel_rfl) (by kernel_rfl)
theorem mx_43 (S X : H8) (W : Nat → Nat) (w0 : World) (Q : Exit → Act → World → Prop) : Tri Tryz.prog E 111 mxB (At gs 111 w0 (mxF 43) ⟨mxH S X W, p66⟩) (Exit.then (At gs 111 w0 (mxF 44) ⟨mxH S (rnd (getN kW 43) (W 43) X) W, p66⟩) Q) :=
  Tri.stepV okM (k := 40) (fuel := 40) (l := v5) (ks := mxK) gs_lt' (by kernel_rfl) (by unfold Alike; kernel_rfl) (by kernel_rfl) (by kernel_rfl) (by kernel_rfl)
theorem mx_44 (S X : H8) (W : Nat → Nat) (w0 : World) (Q : Exit → Act → World → Prop) : Tri Tryz.prog E 111 mxB (At gs 111 w0 (mxF 44) ⟨mxH S X W, p66⟩) (Exit.then (At gs 111 w0 (mxF 45) ⟨mxH S (rnd (getN kW 44) (W 44) X) W, p66⟩) Q) :=
  Tri.stepV okM (k := 40) (fuel := 40) (l := v5) (ks := mxK) gs_lt' (by kernel_rfl) (by unfold Alike; kernel_rfl) (by kernel_rfl) (by kernel_rfl) (by kernel_rfl)
theorem mx_45 (S X : H8) (W : Nat → Nat) (w0 : World) (Q : Exit → Act → World → Prop) : Tri Tryz.prog E 111 mxB (At gs 111 w0 (mxF 45) ⟨mxH S X W, p66⟩) (Exit.then (At gs 111 w0 (mxF 46) ⟨mxH S (rnd (getN kW 45) (W 45) X) W, p66⟩) Q) :=
  Tri.stepV okM (k := 40) (fuel := 40) (l := v5) (ks := mxK) gs_lt' (by kernel_rfl) (by unfold Alike; kernel_rfl) (by kernel_rfl) (by kernel_rfl) (by kernel_rfl)
theorem mx_46 (S X : H8) (W : Nat → Nat) (w0 : World) (Q : Exit → Act → World → Prop) : Tri Tryz.prog E 111 mxB (At gs 111 w0 (mxF 46) ⟨mxH S X W, p66⟩) (Exit.then (At gs 111 w0 (mxF 47) ⟨mxH S (rnd (getN kW 46) (W 46) X) W, p66⟩) Q) :=
  Tri.stepV okM (k := 40) (fuel := 40) (l := v5) (ks := mxK) gs_lt' (by kernel_rfl) (by unfold Alike; kernel_rfl) (by kernel_rfl) (by kernel_rfl) (by kernel_rfl)
theorem mx_47 (S X : H8) (W : Nat → Nat) (w0 : World) (Q : Exit → Act → World → Prop) : Tri Tryz.prog E 111 mxB (At gs 111 w0 (mxF 47) ⟨mxH S X W, p66⟩) (Exit.then (At gs 111 w0 (mxF 48) ⟨mxH S (rnd (getN kW 47) (W 47) X) W, p66⟩) Q) :=
  Tri.stepV okM (k := 40) (fuel := 40) (l := v5) (ks := mxK) gs_lt' (by kernel_rfl) (by unfold Alike; kernel_rfl) (by kernel_rfl) (by kernel_rfl) (by kernel_rfl)
theorem mx_48 (S X : H8) (W : Nat → Nat) (w0 : World) (Q : Exit → Act → World → Prop) : Tri Tryz.prog E 111 mxB (At gs 111 w0 (mxF 48) ⟨mxH S X W, p66⟩) (Exit.then (At gs 111 w0 (mxF 49) ⟨mxH S (rnd (getN kW 48) (W 48) X) W, p66⟩) Q) :=
  Tri.stepV okM (k := 40) (fuel := 40) (l := v5) (ks := mxK) gs_lt' (by kernel_rfl) (by unfold Alike; kernel_rfl) (by kernel_rfl) (by kernel_rfl) (by kernel_rfl)
theorem mx_49 (S X : H8) (W : Nat → Nat) (w0 : World) (Q : Exit → Act → World → Prop) : Tri Tryz.prog E 111 mxB (At gs 111 w0 (mxF 49) ⟨mxH S X W, p66⟩) (Exit.then (At gs 111 w0 (mxF 50) ⟨mxH S (rnd (getN kW 49) (W 49) X) W, p66⟩) Q) :=
  Tri.stepV okM (k := 40) (fuel := 40) (l := v5) (ks := mxK) gs_lt' (by kernel_rfl) (by unfold Alike; kernel_rfl) (by kernel_rfl) (by kernel_rfl) (by kernel_rfl)
theorem mx_50 (S X : H8) (W : Nat → Nat) (w0 : World) (Q : Exit → Act → World → Prop) : Tri Tryz.prog E 111 mxB (At gs 111 w0 (mxF 50) ⟨mxH S X W, p66⟩) (Exit.then (At gs 111 w0 (mxF 51) ⟨mxH S (rnd (getN kW 50) (W 50) X) W, p66⟩) Q) :=
  Tri.stepV okM (k := 40) (fuel := 40) (l := v5) (ks := mxK) gs_lt' (by kernel_rfl) (by unfold Alike; kernel_rfl) (by kernel_rfl) (by kernel_rfl) (by kernel_rfl)
theorem mx_51 (S X : H8) (W : Nat → Nat) (w0 : World) (Q : Exit → Act → World → Prop) : Tri Tryz.prog E 111 mxB (At gs 111 w0 (mxF 51) ⟨mxH S X W, p66⟩) (Exit.then (At gs 111 w0 (mxF 52) ⟨mxH S (rnd (getN kW 51) (W 51) X) W, p66⟩) Q) :=
  Tri.stepV okM (k := 40) (fuel := 40) (l := v5) (ks := mxK) gs_lt' (by kernel_rfl) (by unfold Alike; kernel_rfl) (by kernel_rfl) (by kernel_rfl) (by kernel_rfl)
theorem mx_52 (S X : H8) (W : Nat → Nat) (w0 : World) (Q : Exit → Act → World → Prop) : Tri Tryz.prog E 111 mxB (At gs 111 w0 (mxF 52) ⟨mxH S X W, p66⟩) (Exit.then (At gs 111 w0 (mxF 53) ⟨mxH S (rnd (getN kW 52) (W 52) X) W, p66⟩) Q) :=
  Tri.stepV okM (k := 40) (fuel := 40) (l := v5) (ks := mxK) gs_lt' (by kernel_rfl) (by unfold Alike; kernel_rfl) (by kernel_rfl) (by kernel_rfl) (by kernel_rfl)
theorem mx_53 (S X : H8) (W : Nat → Nat) (w0 : World) (Q : Exit → Act → World → Prop) : Tri Tryz.prog E 111 mxB (At gs 111 w0 (mxF 53) ⟨mxH S X W, p66⟩) (Exit.then (At gs 111 w0 (mxF 54) ⟨mxH S (rnd (getN kW 53) (W 53) X) W, p66⟩) Q) :=
  Tri.stepV okM (k := 40) (fuel := 40) (l := v5) (ks := mxK) gs_lt' (by kernel_rfl) (by unfold Alike; kernel_rfl) (by kernel_rfl) (by kernel_rfl) (by kernel_rfl)
theorem mx_54 (S X : H8) (W : Nat → Nat) (w0 : World) (Q : Exit → Act → World → Prop) : Tri Tryz.prog E 111 mxB (At gs 111 w0 (mxF 54) ⟨mxH S X W, p66⟩) (Exit.then (At gs 111 w0 (mxF 55) ⟨mxH S (rnd (getN kW 54) (W 54) X) W, p66⟩) Q) :=
  Tri.stepV okM (k := 40) (fuel := 40) (l := v5) (ks := mxK) gs_lt' (by kernel_rfl) (by unfold Alike; kernel_rfl) (by kernel_rfl) (by kernel_rfl) (by kernel_rfl)
theorem mx_55 (S X : H8) (W : Nat → Nat) (w0 : World) (Q : Exit → Act → World → Prop) : Tri Tryz.prog E 111 mxB (At gs 111 w0 (mxF 55) ⟨mxH S X W, p66⟩) (Exit.then (At gs 111 w0 (mxF 56) ⟨mxH S (rnd (getN kW 55) (W 55) X) W, p66⟩) Q) :=
  Tri.stepV okM (k := 40) (fuel := 40) (l := v5) (ks := mxK) gs_lt' (by kernel_rfl) (by unfold Alike; kernel_rfl) (by kernel_rfl) (by kernel_rfl) (by kernel_rfl)
theorem mx_56 (S X : H8) (W : Nat → Nat) (w0 : World) (Q : Exit → Act → World → Prop) : Tri Tryz.prog E 111 mxB (At gs 111 w0 (mxF 56) ⟨mxH S X W, p66⟩) (Exit.then (At gs 111 w0 (mxF 57) ⟨mxH S (rnd (getN kW 56) (W 56) X) W, p66⟩) Q) :=
  Tri.stepV okM (k := 40) (fuel := 40) (l := v5) (ks := mxK) gs_lt' (by kernel_rfl) (by unfold Alike; kernel_rfl) (by kernel_rfl) (by kernel_rfl) (by kernel_rfl)
theorem mx_57 (S X : H8) (W : Nat → Nat) (w0 : World) (Q : Exit → Act → World → Prop) : Tri Tryz.prog E 111 mxB (At gs 111 w0 (mxF 57) ⟨mxH S X W, p66⟩) (Exit.then (At gs 111 w0 (mxF 58) ⟨mxH S (rnd (getN kW 57) (W 57) X) W, p66⟩) Q) :=
  Tri.stepV okM (k := 40) (fuel := 40) (l := v5) (ks := mxK) gs_lt' (by kernel_rfl) (by unfold Alike; kernel_rfl) (by kernel_rfl) (by kernel_rfl) (by kernel_rfl)
theorem mx_58 (S X : H8) (W : Nat → Nat) (w0 : World) (Q : Exit → Act → World → Prop) : Tri Tryz.prog E 111 mxB (At gs 111 w0 (mxF 58) ⟨mxH S X W, p66⟩) (Exit.then (At gs 111 w0 (mxF 59) ⟨mxH S (rnd (getN kW 58) (W 58) X) W, p66⟩) Q) :=
  Tri.stepV okM (k := 40) (fuel := 40) (l := v5) (ks := mxK) gs_lt' (by kernel_rfl) (by unfold Alike; kernel_rfl) (by kernel_rfl) (by kernel_rfl) (by kernel_rfl)
theorem mx_59 (S X : H8) (W : Nat → Nat) (w0 : World) (Q : Exit → Act → World → Prop) : Tri Tryz.prog E 111 mxB (At gs 111 w0 (mxF 59) ⟨mxH S X W, p66⟩) (Exit.then (At gs 111 w0 (mxF 60) ⟨mxH S (rnd (getN kW 59) (W 59) X) W, p66⟩) Q) :=
  Tri.stepV okM (k := 40) (fuel := 40) (l := v5) (ks := mxK) gs_lt' (by kernel_rfl) (by unfold Alike; kernel_rfl) (by kernel_rfl) (by kernel_rfl) (by kernel_rfl)
theorem mx_60 (S X : H8) (W : Nat → Nat) (w0 : World) (Q : Exit → Act → World → Prop) : Tri Tryz.prog E 111 mxB (At gs 111 w0 (mxF 60) ⟨mxH S X W, p66⟩) (Exit.then (At gs 111 w0 (mxF 61) ⟨mxH S (rnd (getN kW 60) (W 60) X) W, p66⟩) Q) :=
  Tri.stepV okM (k := 40) (fuel := 40) (l := v5) (ks := mxK) gs_lt' (by kernel_rfl) (by unfold Alike; kernel_rfl) (by kernel_rfl) (by kernel_rfl) (by kernel_rfl)
theorem mx_61 (S X : H8) (W : Nat → Nat) (w0 : World) (Q : Exit → Act → World → Prop) : Tri Tryz.prog E 111 mxB (At gs 111 w0 (mxF 61) ⟨mxH S X W, p66⟩) (Exit.then (At gs 111 w0 (mxF 62) ⟨mxH S (rnd (getN kW 61) (W 61) X) W, p66⟩) Q) :=
  Tri.stepV okM (k := 40) (fuel := 40) (l := v5) (ks := mxK) gs_lt' (by kernel_rfl) (by unfold Alike; kernel_rfl) (by kernel_rfl) (by kernel_rfl) (by kernel_rfl)
theorem mx_62 (S X : H8) (W : Nat → Nat) (w0 : World) (Q : Exit → Act → World → Prop) : Tri Tryz.prog E 111 mxB (At gs 111 w0 (mxF 62) ⟨mxH S X W, p66⟩) (Exit.then (At gs 111 w0 (mxF 63) ⟨mxH S (rnd (getN kW 62) (W 62) X) W, p66⟩) Q) :=
  Tri.stepV okM (k := 40) (fuel := 40) (l := v5) (ks := mxK) gs_lt' (by kernel_rfl) (by unfold Alike; kernel_rfl) (by kernel_rfl) (by kernel_rfl) (by kernel_rfl)
theorem mx_63 (S X : H8) (W : Nat → Nat) (w0 : World) (Q : Exit → Act → World → Prop) : Tri Tryz.prog E 111 mxB (At gs 111 w0 (mxF 63) ⟨mxH S X W, p66⟩) (Exit.then (At gs 111 w0 (mxF 64) ⟨mxH S (rnd (getN kW 63) (W 63) X) W, p66⟩) Q) :=
  Tri.stepV okM (k := 40) (fuel := 40) (l := v5) (ks := mxK) gs_lt' (by kernel_rfl) (by unfold Alike; kernel_rfl) (by kernel_rfl) (by kernel_rfl) (by kernel_rfl)
theorem mx_all (S X : H8) (W : Nat → Nat) (w0 : World) (Q : Exit → Act → World → Prop) : ∀ t, t < 64 → Tri Tryz.prog E 111 mxB (At gs 111 w0 (mxF t) ⟨mxH S X W, p66⟩) (Exit.then (At gs 111 w0 (mxF (t + 1)) ⟨mxH S (rnd (getN kW t) (W t) X) W, p66⟩) Q)
  | 0, _ => mx_0 S X W w0 Q
  | 1, _ => mx_1 S X W w0 Q
  | 2, _ => mx_2 S X W w0 Q
  | 3, _ => mx_3 S X W w0 Q
  | 4, _ => mx_4 S X W w0 Q
  | 5, _ => mx_5 S X W w0 Q
  | 6, _ => mx_6 S X W w0 Q
  | 7, _ => mx_7 S X W w0 Q
  | 8, _ => mx_8 S X W w0 Q
  | 9, _ => mx_9 S X W w0 Q
  | 10, _ => mx_10 S X W w0 Q
  | 11, _ => mx_11 S X W w0 Q
  | 12, _ => mx_12 S X W w0 Q
  | 13, _ => mx_13 S X W w0 Q
  | 14, _ => mx_14 S X W w0 Q
  | 15, _ => mx_15 S X W w0 Q
  | 16, _ => mx_16 S X W w0 Q
  | 17, _ => mx_17 S X W w0 Q
  | 18, _ => mx_18 S X W w0 Q
  | 19, _ => mx_19 S X W w0 Q
  | 20, _ => mx_20 S X W w0 Q
  | 21, _ => mx_21 S X W w0 Q
  | 22, _ => mx_22 S X W w0 Q
  | 23, _ => mx_23 S X W w0 Q
  | 24, _ => mx_24 S X W w0 Q
  | 25, _ => mx_25 S X W w0 Q
  | 26, _ => mx_26 S X W w0 Q
  | 27, _ => mx_27 S X W w0 Q
  | 28, _ => mx_28 S X W w0 Q
  | 29, _ => mx_29 S X W w0 Q
  | 30, _ => mx_30 S X W w0 Q
  | 31, _ => mx_31 S X W w0 Q
  | 32, _ => mx_32 S X W w0 Q
  | 33, _ => mx_33 S X W w0 Q
  | 34, _ => mx_34 S X W w0 Q
  | 35, _ => mx_35 S X W w0 Q
  | 36, _ => mx_36 S X W w0 Q
  | 37, _ => mx_37 S X W w0 Q
  | 38, _ => mx_38 S X W w0 Q
  | 39, _ => mx_39 S X W w0 Q
  | 40, _ => mx_40 S X W w0 Q
  | 41, _ => mx_41 S X W w0 Q
  | 42, _ => mx_42 S X W w0 Q
  | 43, _ => mx_43 S X W w0 Q
  | 44, _ => mx_44 S X W w0 Q
  | 45, _ => mx_45 S X W w0 Q
  | 46, _ => mx_46 S X W w0 Q
  | 47, _ => mx_47 S X W w0 Q
  | 48, _ => mx_48 S X W w0 Q
  | 49, _ => mx_49 S X W w0 Q
  | 50, _ => mx_50 S X W w0 Q
  | 51, _ => mx_51 S X W w0 Q
  | 52, _ => mx_52 S X W w0 Q
  | 53, _ => mx_53 S X W w0 Q
  | 54, _ => mx_54 S X W w0 Q
  | 55, _ => mx_55 S X W w0 Q
  | 56, _ => mx_56 S X W w0 Q
  | 57, _ => mx_57 S X W w0 Q
  | 58, _ => mx_58 S X W w0 Q
  | 59, _ => mx_59 S X W w0 Q
  | 60, _ => mx_60 S X W w0 Q
  | 61, _ => mx_61 S X W w0 Q
  | 62, _ => mx_62 S X W w0 Q
  | 63, _ => mx_63 S X W w0 Q
  | t + 64, h => by omega
theorem mx_loop (S X : H8) (W : Nat → Nat) (w0 : World) (Q : Exit → Act → World → Prop) : Tri Tryz.prog E 111 (.blk 0 (.loop mxB)) (At gs 111 w0 (mxF 0) ⟨mxH S X W, p66⟩) (Exit.then (At gs 111 w0 (mxF 64) ⟨mxH S (rnds W X 64) W, p66⟩) Q) :=
  Tri.blk (Tri.loop (I := fun t => At gs 111 w0 (mxF t) ⟨mxH S (rnds W X t) W, p66⟩) 64
    (fun t ht => mx_all S (rnds W X t) W w0 _ t ht)
    (Tri.lastV okM (k := 40) (fuel := 40) (l := v5) (ks := mxK) gs_lt' (by kernel_rfl) (by unfold Alike; kernel_rfl) (by kernel_rfl) (by kernel_rfl) (by kernel_rfl) (fun _ _ h => h)))
noncomputable def z8 : H8 := ⟨0, 0, 0, 0, 0, 0, 0, 0⟩
noncomputable def y0 (S : H8) (B : Nat → Nat) := xr machM 40 40 mx0 (mxA S) ⟨bH B, p61⟩
theorem y0_x (S : H8) (B : Nat → Nat) : isX .nrm (y0 S B) = true := by kernel_rfl
theorem y0_c (S : H8) (B : Nat → Nat) : Alike (rC (y0 S B)) := by unfold Alike; kernel_rfl
noncomputable def y1 (S : H8) (B : Nat → Nat) := xr machM 40 40 mx1 (rA (y0 S B)) (rS (y0 S B))
theorem y1_x (S : H8) (B : Nat → Nat) : isX .nrm (y1 S B) = true := by kernel_rfl
theorem y1_c (S : H8) (B : Nat → Nat) : Alike (rC (y1 S B)) := by unfold Alike; kernel_rfl
noncomputable def y2 (S : H8) (B : Nat → Nat) := xr machM 40 40 mx2 (rA (y1 S B)) (rS (y1 S B))
theorem y2_x (S : H8) (B : Nat → Nat) : isX .nrm (y2 S B) = true := by kernel_rfl
theorem y2_c (S : H8) (B : Nat → Nat) : Alike (rC (y2 S B)) := by unfold Alike; kernel_rfl
noncomputable def nmP (v : Option V) : Pos := match v with | some (.ptr p _) => p | _ => .H
/-- the names behind the beginning -/
noncomputable def v5b : Vw := [(p61, nmP (T.get p2 (rA (y2 z8 (fun _ => 0))))), (p62, nmP (T.get p4 (rA (y2 z8 (fun _ => 0))))), (p63, nmP (T.get p5 (rA (y2 z8 (fun _ => 0))))), (p64, nmP (T.get p6 (rA (y2 z8 (fun _ => 0))))), (p65, nmP (T.get p7 (rA (y2 z8 (fun _ => 0)))))]
theorem b8_self (B : Nat → Nat) : natsF natU8 (b8 B ix64) = some (lmap B ix64) := by kernel_rfl
theorem wAt_self (B : Nat → Nat) : w32 (wAt (getN (lmap B ix64)) 64) ix64 = w32 (wAt B 64) ix64 := by kernel_rfl
theorem mx_shape : mxI = .seq mx0 (.seq mx1 (.seq mx2 (.seq (.seq mx3 (.blk 0 (.loop mxB))) mxT))) := by kernel_rfl
theorem mx_tri (S : H8) (B : Nat → Nat) (w0 : World) : Tri Tryz.prog E 111 mxI (At gs 111 w0 (mxA S) ⟨bH B, p61⟩) (fun e a' w' => e = .ret ∧ ∃ A' σ', At gs 111 w0 A' σ' a' w' ∧ resF (resI f72) A' σ' = some [.agg (h8V (mixF S (getN (lmap B ix64))))]) := by
  rw [mx_shape]
  refine Tri.seq (J := At gs 111 w0 (rA (y0 S B)) (rS (y0 S B))) (Tri.runX okM (y0_x S B) (y0_c S B) (fun a w h => h)) ?_
  refine Tri.seq (J := At gs 111 w0 (rA (y1 S B)) (rS (y1 S B))) (Tri.runX okM (y1_x S B) (y1_c S B) (fun a w h => h)) ?_
  refine Tri.seq (J := At gs 111 w0 (rA (y2 S B)) (rS (y2 S B))) (Tri.runX okM (y2_x S B) (y2_c S B) (fun a w h => h)) ?_
  refine Tri.seq (J := At gs 111 w0 (mxF 64) ⟨mxH S (rnds (wAt (getN (lmap B ix64)) 64) S 64) (wAt (getN (lmap B ix64)) 64), p66⟩) ?_ ?_
  · refine Tri.seq (J := At gs 111 w0 (mxF 0) ⟨mxH S S (wAt (getN (lmap B ix64)) 64), p66⟩) ?_ (mx_loop S S _ w0 _)
    exact Tri.stepV okM (k := 40) (fuel := 40) (l := v5b) (ks := mxK) gs_lt' (by kernel_rfl) (by unfold Alike; kernel_rfl) (by kernel_rfl) (by kernel_rfl) (by kernel_rfl)
  · exact Tri.retV okM (k := 40) (fuel := 40) (by kernel_rfl) (by unfold Alike; kernel_rfl) (by kernel_rfl)
end Go.Proofs.YtcecdaeceipbnaaGreatDoor.Ir
