/-
  digest.Sha of the nil row and of whole messages of some lengths, whatever their bytes.
-/
import Derived.Test.YtcecdaeceipbnaaGreatDoorShd2
namespace Go.Proofs.YtcecdaeceipbnaaGreatDoor.Ir
set_option linter.unusedVariables false
set_option maxRecDepth 100000
open Go Go.Proofs.YtcecdaeceipbnaaGreatDoor

noncomputable def enF (n : Nat) : T V := frameOf [.slice p60 0 n none 1] .H .nil
noncomputable def enH (n : Nat) (B : Nat → Nat) : T Ob := T.set (.cells (b8 B (iota n 0)) [] false true) p60 .nil

theorem len_mem {n nb : Nat} : ∀ {t : List (Nat × Nat)}, lookN n t = some nb → (n, nb) ∈ t
  | [], h => by cases h
  | x :: t, h => by
    have h : Bool.rec (motive := fun _ => Option Nat) (lookN n t) (some x.2) (Nat.beq x.1 n) = some nb := h
    cases hb : Nat.beq x.1 n with
    | true =>
      rw [hb] at h
      have h : some x.2 = some nb := h
      have := Nat.eq_of_beq_eq_true hb
      cases h
      subst this
      simp
    | false => rw [hb] at h; exact List.mem_cons_of_mem _ (len_mem h)
noncomputable def lens : List (Nat × Nat) := [(32, 1), (80, 2), (95, 2)]
theorem enH_eq {bl : List Nat} {n : Nat} (h : bl.length = n) : T.set (Ob.cells (bs bl) [] false true) p60 .nil = enH n (getN bl) := by
  unfold enH b8
  rw [bs_iota h]
theorem enH_ro (n : Nat) (B : Nat → Nat) : ∀ p o, T.get p (enH n B) = some o → o.wr = false := by
  intro p o h
  unfold enH at h
  rw [T.get_set] at h
  split at h
  · cases h; rfl
  · rw [T.get_nil] at h; cases h
theorem lens_pos : lens.all (fun x => Nat.blt 0 x.1) = true := by decide +kernel

/-! digest -/
noncomputable def h8of (l : List Nat) : H8 := match l with | [a, b, c, d, e, f, g, h] => ⟨a, b, c, d, e, f, g, h⟩ | _ => h8zero
noncomputable def mxSpec (vs : List V) (σ : St) : Option (V × St) := match vs with
  | [.agg l, .slice p o n _ 1] => (match Nat.beq n 64 with
    | true => (match natsF natU32 l with
      | some m => (match Nat.beq (llen m) 8 with
        | true => (match sliceB σ p o 64 with | some bl => some (.agg (h8V (mixF (h8of m) (getN bl))), σ) | none => none)
        | false => none)
      | none => none)
    | false => none)
  | _ => none
theorem h8V_of {m : List Nat} (h : m.length = 8) : h8V (h8of m) = lmap (fun n => V.int .u32 (.ofNat n)) m := by
  match m, h with
  | [a, b, c, d, e, f, g, x], _ => rfl
theorem h8V_bare (x : H8) : ∀ v ∈ h8V x, Bare v := by
  intro v hv
  obtain ⟨a, b, c, d, e, f, g, h⟩ := x
  have hv : v ∈ lmap (fun n => V.int .u32 (.ofNat n)) [a, b, c, d, e, f, g, h] := hv
  rw [lmap_eq, List.mem_map] at hv
  obtain ⟨n, _, rfl⟩ := hv
  exact bare_int _ _
theorem mx_get : T.get p72 machM.tab = some (.code 111 mxI (resI f72)) := by kernel_rfl
theorem mix_ok {vs : List V} {σ : St} {v : V} {σ' : St} (h : mxSpec vs σ = some (v, σ')) {ι : Nm} {w : World} {args : Array Value} (hG : Gl gs ι) (R : Rep ι σ w) (hv : VRs ι vs args.toList) : Calls Tryz.prog (p72.nat - 1) args w (Post ι σ w v σ') := by
  unfold mxSpec at h
  split at h
  · rename_i l p o n cap
    split at h
    · rename_i hn
      have hn := Nat.eq_of_beq_eq_true hn
      subst hn
      split at h
      · rename_i m hm
        split at h
        · rename_i hl8
          have hl8 := Nat.eq_of_beq_eq_true hl8
          rw [llen_eq] at hl8
          split at h
          · rename_i bl hb
            cases h
            obtain ⟨L, kin, fz, ro, h1, h2, h3⟩ := sliceB_eq hb
            have hlm := natsF_eq natU32 (fun n => V.int .u32 (.ofNat n)) natU32_eq hm
            rw [← h8V_of hl8] at hlm
            obtain ⟨al⟩ := args
            have hl : 2 = al.length := hv.1
            match al, hl, hv with
            | [x, y], _, hv =>
              obtain ⟨ι2, G2, R2, V2⟩ := win_view (q := p60) hG R gs_lt' (by omega) (by rw [bs_len, h3]) (bs_bare bl) h1 h2 hv.tail.head
              have V1 : VR ι2 (.agg (h8V (h8of m))) x := by
                have := hv.head
                rw [hlm] at this
                exact bare_agg (h8V_bare _) ι ι2 x this
              rw [bs_b8 h3] at R2
              have e : mixF (h8of m) (getN bl) = mixF (h8of m) (getN (lmap (getN bl) ix64)) := mixF_ext (fun i hi => by
                rw [lmap_eq, getN_lget (List.map _ _), List.getElem?_map, ix64_get i hi]; rfl) _
              rw [e]
              exact fn_pure okM (f := p72) mx_get (vs2 := [.agg (h8V (h8of m)), .slice p60 0 64 none 1]) (s2 := ⟨bH (getN bl), p61⟩) (by show 2 ≤ 111; omega) (bare_agg (h8V_bare _)) R G2 R2 (bH_ro _) (.cons V1 (.cons V2 .nil)) (mx_tri (h8of m) (getN bl) w)
          · cases h
        · cases h
      · cases h
    · cases h
  · cases h
noncomputable def specD (s : Nat) : List V → St → Option (V × St) := match s with | 6 => mxSpec | _ => fun _ _ => none
noncomputable def machD : Mach := ⟨T.set (.spec 6) p72 tabA, specD, E.pt, []⟩
theorem tabD_is : TabIs E machD.tab := TabIs.set (t := tabA) (e := .spec 6) (p := p72) (tabIs_of tabA_ok) (by decide +kernel)
theorem okDg : MOk Tryz.prog E machD (okD E) := mok_of2 rfl mtA mixed tabD_is (fun f s h vs σ v σ' hs ι w args hG R hv => by
  have h : T.get f (T.set (.spec 6) p72 tabA) = some (.spec s) := h
  rw [T.get_set] at h
  split at h
  · rename_i e; cases h; subst e; exact mix_ok hs hG R hv
  · exact absurd h (noSpec_get tabA_no f s))
theorem callD : CallOK Tryz.prog gs (runFn machD 300) := run_sound okDg 300
noncomputable def dgR (n : Nat) (B : Nat → Nat) := runFnP machD 300 p95 [.slice p60 0 n none 1] ⟨enH n B, p61⟩
noncomputable def vO (r : Option (V × St × PS)) : Option V := match r with | some (v, _) => some v | none => none
noncomputable def vC (r : Option (V × St × PS)) : PS := match r with | some (_, _, cs) => cs | none => []
theorem vO_run {f : Pos} {vs : List V} {σ : St} {v : V} {k : Nat} (h : vO (runFnP machD k f vs σ) = some v) (hC : Alike (vC (runFnP machD k f vs σ))) : ∃ σ2, runFn machD k f vs σ = some (v, σ2) := by
  cases hr : runFnP machD k f vs σ with
  | none => rw [hr] at h; cases h
  | some x =>
    obtain ⟨v1, σ1, cs⟩ := x
    rw [hr] at h hC
    cases h
    exact ⟨σ1, runFnP_ok machD k _ _ _ _ _ _ hr (good_of hC)⟩
theorem dg_32 (B : Nat → Nat) : vO (dgR 32 B) = some (.agg (bs (outL (hDt (padL 32 B) 1)))) := by kernel_rfl
theorem dc_32 (B : Nat → Nat) : Alike (vC (dgR 32 B)) := by unfold Alike; kernel_rfl
theorem dg_80 (B : Nat → Nat) : vO (dgR 80 B) = some (.agg (bs (outL (hDt (padL 80 B) 2)))) := by kernel_rfl
theorem dc_80 (B : Nat → Nat) : Alike (vC (dgR 80 B)) := by unfold Alike; kernel_rfl
theorem dg_95 (B : Nat → Nat) : vO (dgR 95 B) = some (.agg (bs (outL (hDt (padL 95 B) 2)))) := by kernel_rfl
theorem dc_95 (B : Nat → Nat) : Alike (vC (dgR 95 B)) := by unfold Alike; kernel_rfl
theorem dg_any (x : Nat × Nat) (hx : x ∈ lens) (B : Nat → Nat) : ∃ σ2, runFn machD 300 p95 [.slice p60 0 x.1 none 1] ⟨enH x.1 B, p61⟩ = some (.agg (bs (outL (hAt (padM x.1 B) x.2))), σ2) := by
  simp only [lens, List.mem_cons, List.mem_nil_iff, or_false] at hx
  rcases hx with rfl | rfl | rfl
  · have h1 := vO_run (dg_32 B) (dc_32 B); rw [hDt_eq] at h1; exact h1
  · have h1 := vO_run (dg_80 B) (dc_80 B); rw [hDt_eq] at h1; exact h1
  · have h1 := vO_run (dg_95 B) (dc_95 B); rw [hDt_eq] at h1; exact h1
noncomputable def shE : V := .agg (bs [227, 176, 196, 66, 152, 252, 28, 20, 154, 251, 244, 200, 153, 111, 185, 36, 39, 174, 65, 228, 100, 155, 147, 76, 164, 149, 153, 27, 120, 82, 184, 85])
theorem dg_nil : vO (runFnP machD 300 p95 [.nils] ⟨.nil, p60⟩) = some shE := by kernel_rfl
theorem dc_nil : Alike (vC (runFnP machD 300 p95 [.nils] ⟨.nil, p60⟩)) := by unfold Alike; kernel_rfl
theorem sha_dig {vs : List V} {σ : St} {v : V} {σ' : St} (h : shSpec lens (some shE) vs σ = some (v, σ')) {ι : Nm} {w : World} {args : Array Value} (hG : Gl gs ι) (R : Rep ι σ w) (hv : VRs ι vs args.toList) : Calls Tryz.prog (p95.nat - 1) args w (Post ι σ w v σ') := by
  obtain ⟨p, o, n, cap, nb, bl, rfl, h1, h2, rfl, rfl⟩ | ⟨rfl, v0, h0, rfl, rfl⟩ := shSpec_inv h
  · obtain ⟨L, kin, fz, ro, k1, k2, k3⟩ := sliceB_eq h2
    have hpos : 0 < n := by
      have := List.all_eq_true.1 lens_pos _ (len_mem h1)
      rw [blt_eq] at this
      simpa using this
    obtain ⟨σ2, hr⟩ := dg_any (n, nb) (len_mem h1) (getN bl)
    rw [shaQ_eq]
    refine call_bytes callD (f := p95) gs_lt' hpos (by rw [bs_len, k3]) (bs_bare bl) (σ2 := σ2) ?_ (bare_agg (bs_bare _)) hG R k1 k2 hv
    rw [enH_eq k3]
    exact hr
  · cases h0
    obtain ⟨σ2, hr⟩ := vO_run dg_nil dc_nil
    obtain ⟨l⟩ := args
    have hl : 1 = l.length := hv.1
    match l, hl, hv with
    | [y], _, hv =>
      have hy := hv.head
      cases hy
      exact call_forget callD (f := p95) (s2 := ⟨.nil, p60⟩) gs_lt' (fun p o h => by rw [T.get_nil] at h; cases h) hr (bare_agg (bs_bare _)) hG R (fun p o h => by rw [T.get_nil] at h; cases h) (.cons .nils .nil)

end Go.Proofs.YtcecdaeceipbnaaGreatDoor.Ir
