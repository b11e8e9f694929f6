/-
  The machine with its contracts: the hashes, slices.Grow, what an iterator gives, the marked blocks; first() run once; Number.
-/
import Derived.Test.YtcecdaeceipbnaaGreatDoorNrG
import Derived.Test.YtcecdaeceipbnaaGreatDoorNrP
import Derived.Test.YtcecdaeceipbnaaGreatDoorShr2
import Derived.Test.YtcecdaeceipbnaaGreatDoorShs
import Derived.Test.YtcecdaeceipbnaaGreatDoorNum
import Derived.Test.YtcecdaeceipbnaaGreatDoorNsp
import Derived.Test.YtcecdaeceipbnaaGreatDoorEnFour
import Derived.Test.YtcecdaeceipbnaaGreatDoorMcl
import Derived.Test.YtcecdaeceipbnaaGreatDoorGrg
import Derived.Test.YtcecdaeceipbnaaGreatDoorGrL
namespace Go.Proofs.YtcecdaeceipbnaaGreatDoor.Ir
set_option linter.unusedVariables false
set_option maxRecDepth 100000
open Go Go.Proofs.YtcecdaeceipbnaaGreatDoor
noncomputable def machI : Mach := ⟨tabA, fun _ _ _ => none, E.pt, mts⟩
theorem okI : MOk Tryz.prog E machI (okD E) := mok_of rfl mts_ok mixed tabA_ok (fun f s h => absurd h (noSpec_get tabA_no f s))
noncomputable def agH (vs : List V) (σ : St) : Option (V × St) := runG machI (Hot.runJ machI 300) 300 13 g114 g114r vs σ
theorem agH_ok {vs : List V} {σ : St} {v : V} {σ' : St} (h : agH vs σ = some (v, σ')) {ι : Nm} {w : World} {args : Array Value} (hG : Gl gs ι) (R : Rep ι σ w) (hv : VRs ι vs args.toList) : Calls Tryz.prog (p114.nat - 1) args w (Post ι σ w v σ') := by
  unfold agH at h
  rw [Hot.runJ_eq] at h
  exact runG_sound (fn := Tryz.f114) (c := (Tryz.f114.body).get!) okI.pt okI.mt (run_sound okI 300) Tryz.func114 rfl (okI.rgd _) (by decide +kernel) (by decide +kernel) h hG R hv
noncomputable def agP (vs : List V) (σ : St) : Option (V × St) := runG machI (Hot.runJ machI 300) 300 13 g135 g135r vs σ
theorem agP_ok {vs : List V} {σ : St} {v : V} {σ' : St} (h : agP vs σ = some (v, σ')) {ι : Nm} {w : World} {args : Array Value} (hG : Gl gs ι) (R : Rep ι σ w) (hv : VRs ι vs args.toList) : Calls Tryz.prog (p135.nat - 1) args w (Post ι σ w v σ') := by
  unfold agP at h
  rw [Hot.runJ_eq] at h
  exact runG_sound (fn := Tryz.f135) (c := (Tryz.f135.body).get!) okI.pt okI.mt (run_sound okI 300) Tryz.func135 rfl (okI.rgd _) (by decide +kernel) (by decide +kernel) h hG R hv
noncomputable def tabP : T FnE := T.set (.spec 7) p114 tabA
noncomputable def machP : Mach := ⟨tabP, fun s => match s with | 7 => agH | _ => fun _ _ => none, E.pt, mts⟩
theorem tabP_is : TabIs E tabP := TabIs.set (p := p114) (e := .spec 7) (tabIs_of tabA_ok) (by decide +kernel)
theorem okP_ : MOk Tryz.prog E machP (okD E) := mok_of2 rfl mts_ok mixed tabP_is (fun f s h vs σ v σ' hs ι w args hG R hv => by
  have h : T.get f (T.set (.spec 7) p114 tabA) = some (.spec s) := h
  rw [T.get_set] at h
  split at h
  · rename_i e; cases h; subst e; exact agH_ok hs hG R hv
  · exact absurd h (noSpec_get tabA_no f s))
noncomputable def ptd (vs : List V) (σ : St) : Option (V × St) := runG machP (Hot.runJ machP 300) 300 60 g82 g82r vs σ
theorem ptd_ok {vs : List V} {σ : St} {v : V} {σ' : St} (h : ptd vs σ = some (v, σ')) {ι : Nm} {w : World} {args : Array Value} (hG : Gl gs ι) (R : Rep ι σ w) (hv : VRs ι vs args.toList) : Calls Tryz.prog (p82.nat - 1) args w (Post ι σ w v σ') := by
  unfold ptd at h
  rw [Hot.runJ_eq] at h
  exact runG_sound (fn := Tryz.f82) (c := (Tryz.f82.body).get!) okP_.pt okP_.mt (run_sound okP_ 300) Tryz.func82 rfl (okP_.rgd _) (by decide +kernel) (by decide +kernel) h hG R hv
theorem gr_ok {vs : List V} {σ : St} {v : V} {σ' : St} (h : ggSpec 1 vs σ = some (v, σ')) {ι : Nm} {w : World} {args : Array Value} (R : Rep ι σ w) (hv : VRs ι vs args.toList) : Calls Tryz.prog (p132.nat - 1) args w (Post ι σ w v σ') :=
  gg_ok (i0 := (Tryz.prog.info? 5).get!) (z := ((Tryz.prog.info? 5).get!.zero).get!) (es := 1) Tryz.growB (by kernel_rfl) (by kernel_rfl) (by kernel_rfl) (by kernel_rfl) (by decide) (Nat.le_of_ble_eq_true (by kernel_rfl)) h R hv
noncomputable def specB (s : Nat) : List V → St → Option (V × St) := match s with
  | 0 => shSpecK lens (some shE)
  | 2 => ggSpec 1
  | 4 => numSpecN
  | 7 => agH
  | 8 => agP
  | 6 => ptd
  | 9 => mcSpec
  | 3 => onceSpec sg0 (.bool true)
  | _ => fun _ _ => none
noncomputable def tabB : T FnE := T.set (.spec 0) p95 (T.set (.spec 2) p132 (T.set (.spec 4) p7 (T.set (.spec 7) p114 (T.set (.spec 8) p135 (T.set (.spec 6) p82 (T.set (.spec 9) p52 tabA))))))
noncomputable def machB : Mach := ⟨tabB, specB, E.pt, mts⟩
theorem tabB_is : TabIs E tabB := TabIs.set (p := p95) (e := .spec 0) (TabIs.set (p := p132) (e := .spec 2) (TabIs.set (p := p7) (e := .spec 4) (TabIs.set (p := p114) (e := .spec 7) (TabIs.set (p := p135) (e := .spec 8) (TabIs.set (p := p82) (e := .spec 6) (TabIs.set (p := p52) (e := .spec 9) (tabIs_of tabA_ok) (by decide +kernel)) (by decide +kernel)) (by decide +kernel)) (by decide +kernel)) (by decide +kernel)) (by decide +kernel)) (by decide +kernel)
theorem specB_ok {f : Pos} {s : Nat} (h : T.get f tabB = some (.spec s)) {vs : List V} {σ : St} {v : V} {σ' : St} (hs : specB s vs σ = some (v, σ')) {ι : Nm} {w : World} {args : Array Value} (hG : Gl gs ι) (R : Rep ι σ w) (hv : VRs ι vs args.toList) : Calls Tryz.prog (f.nat - 1) args w (Post ι σ w v σ') := by
  unfold tabB at h
  rw [T.get_set, T.get_set, T.get_set, T.get_set, T.get_set, T.get_set, T.get_set] at h
  split at h
  · rename_i e; cases h; subst e; exact sha_dig (by rw [← shSpecK_eq]; exact hs) hG R hv
  · split at h
    · rename_i e; cases h; subst e; exact gr_ok hs R hv
    · split at h
      · rename_i e; cases h; subst e; exact num_sound (f := p7) (fun n b h1 h2 h3 h4 w => number_calls n b h1 h2 h3 h4 w) (numSpecN_eq hs) R hv
      · split at h
        · rename_i e; cases h; subst e; exact agH_ok hs hG R hv
        · split at h
          · rename_i e; cases h; subst e; exact agP_ok hs hG R hv
          · split at h
            · rename_i e; cases h; subst e; exact ptd_ok hs hG R hv
            · split at h
              · rename_i e; cases h; subst e; exact mc_ok Tryz.cloneI hs R hv
              · exact absurd h (noSpec_get tabA_no f s)
theorem okB : MOk Tryz.prog E machB (okD E) := mok_of2 rfl mts_ok mixed tabB_is (fun f s h vs σ v σ' hs ι w args hG R hv => specB_ok h hs hG R hv)
noncomputable def tabC : T FnE := T.set (.spec 3) p4 tabB
noncomputable def machC : Mach := ⟨tabC, specB, E.pt, mts⟩
theorem tabC_is : TabIs E tabC := TabIs.set (p := p4) (e := .spec 3) tabB_is (by decide +kernel)
theorem first_run : okV (Hot.runJ machB 300 p4 [] sg0) (.bool true) = true := by decide +kernel
theorem okC_ : MOk Tryz.prog E machC (okD E) := mok_of2 rfl mts_ok mixed tabC_is (fun f s h vs σ v σ' hs ι w args hG R hv => by
  have h : T.get f (T.set (.spec 3) p4 tabB) = some (.spec s) := h
  rw [T.get_set] at h
  split at h
  · rename_i e; cases h; subst e
    exact once_sound (f := p4) (s0 := sg0) (call := Hot.runJ machB 300) (by rw [Hot.runJ_eq]; exact run_sound okB 300) gs_lt' sg0_ro (bare_bool _) (okV_run first_run) hs hG R hv
  · exact specB_ok h hs hG R hv)
end Go.Proofs.YtcecdaeceipbnaaGreatDoor.Ir
