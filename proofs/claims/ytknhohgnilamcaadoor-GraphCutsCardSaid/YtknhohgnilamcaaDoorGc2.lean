/-
  The machine with its contracts: the hashes, bytes.Compare, a map's keys collected where it has none; first() run once; Number.
-/
import Derived.Test.YtknhohgnilamcaaDoorGcG
import Derived.Test.YtknhohgnilamcaaDoorShr2
import Derived.Test.YtknhohgnilamcaaDoorBcm
import Derived.Test.YtknhohgnilamcaaDoorAps
import Derived.Test.YtknhohgnilamcaaDoorNum
namespace Go.Proofs.YtknhohgnilamcaaDoor.Ir
set_option linter.unusedVariables false
set_option maxRecDepth 100000
open Go Go.Proofs.YtknhohgnilamcaaDoor
noncomputable def specB (s : Nat) : List V → St → Option (V × St) := match s with
  | 0 => shSpec lens none
  | 1 => bcSpec
  | 2 => apSpec
  | 3 => onceSpec sg0 (.bool true)
  | 4 => numSpec
  | _ => fun _ _ => none
noncomputable def tabB : T FnE := T.set (.spec 0) p43 (T.set (.spec 0) p57 (T.set (.spec 1) p54 (T.set (.spec 2) p70 tabA)))
noncomputable def tabC : T FnE := T.set (.spec 3) p5 (T.set (.spec 4) p6 tabB)
noncomputable def machB : Mach := ⟨tabB, specB, E.pt, mts⟩
noncomputable def machC : Mach := ⟨tabC, specB, E.pt, mts⟩
theorem tabB_is : TabIs E tabB := TabIs.set (p := p43) (e := .spec 0) (TabIs.set (p := p57) (e := .spec 0) (TabIs.set (p := p54) (e := .spec 1) (TabIs.set (p := p70) (e := .spec 2) (tabIs_of tabA_ok) (by decide +kernel)) (by decide +kernel)) (by decide +kernel)) (by decide +kernel)
theorem tabC_is : TabIs E tabC := TabIs.set (p := p5) (e := .spec 3) (TabIs.set (p := p6) (e := .spec 4) tabB_is (by decide +kernel)) (by decide +kernel)
theorem specB_ok {f : Pos} {s : Nat} (h : T.get f tabB = some (.spec s)) {vs : List V} {σ : St} {v : V} {σ' : St} (hs : specB s vs σ = some (v, σ')) {ι : Nm} {w : World} {args : Array Value} (hG : Gl gs ι) (R : Rep ι σ w) (hv : VRs ι vs args.toList) : Calls Tryd.prog (f.nat - 1) args w (Post ι σ w v σ') := by
  unfold tabB at h
  rw [T.get_set, T.get_set, T.get_set, T.get_set] at h
  split at h
  · rename_i e; cases h; subst e; exact sha_ref hs hG R hv
  · split at h
    · rename_i e; cases h; subst e; exact sha_dig hs hG R hv
    · split at h
      · rename_i e; cases h; subst e; exact bcmp_ok hs R hv
      · split at h
        · rename_i e; cases h; subst e; exact ap_ok hs R hv
        · exact absurd h (noSpec_get tabA_no f s)
theorem okB : MOk Tryd.prog E machB (okD E) := mok_of2 rfl mts_ok mixed tabB_is (fun f s h vs σ v σ' hs ι w args hG R hv => specB_ok h hs hG R hv)
theorem first_run : okV (runFnQ machB 300 p5 [] sg0) (.bool true) = true := by decide +kernel
theorem okC_ : MOk Tryd.prog E machC (okD E) := mok_of2 rfl mts_ok mixed tabC_is (fun f s h vs σ v σ' hs ι w args hG R hv => by
  have h : T.get f (T.set (.spec 3) p5 (T.set (.spec 4) p6 tabB)) = some (.spec s) := h
  rw [T.get_set, T.get_set] at h
  split at h
  · rename_i e; cases h; subst e
    exact once_sound (f := p5) (s0 := sg0) (call := runFnQ machB 300) (by rw [runFnQ_eq]; exact run_sound okB 300) gs_lt' sg0_ro (bare_bool _) (okV_run first_run) hs hG R hv
  · split at h
    · rename_i e; cases h; subst e
      exact num_sound (f := p6) (fun n b h1 h2 h3 h4 w => number_calls n b h1 h2 h3 h4 w) hs R hv
    · exact specB_ok h hs hG R hv)
end Go.Proofs.YtknhohgnilamcaaDoor.Ir
