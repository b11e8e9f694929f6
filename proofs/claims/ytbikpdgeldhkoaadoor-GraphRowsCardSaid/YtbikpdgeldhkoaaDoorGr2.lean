/-
  The machine with its contracts: the hashes, bytes.Compare, Number; first() run once.
-/
import Derived.Test.YtbikpdgeldhkoaaDoorGrG
import Derived.Test.YtbikpdgeldhkoaaDoorShr2
import Derived.Test.YtbikpdgeldhkoaaDoorShs
import Derived.Test.YtbikpdgeldhkoaaDoorNum
import Derived.Test.YtbikpdgeldhkoaaDoorNsp
import Derived.Test.YtbikpdgeldhkoaaDoorBcs
import Derived.Test.YtbikpdgeldhkoaaDoorEnFour
namespace Go.Proofs.YtbikpdgeldhkoaaDoor.Ir
set_option linter.unusedVariables false
set_option maxRecDepth 100000
open Go Go.Proofs.YtbikpdgeldhkoaaDoor
noncomputable def specB (s : Nat) : List V → St → Option (V × St) := match s with
  | 0 => shSpecK lens none
  | 4 => numSpecN
  | 5 => bcSpec
  | 3 => onceSpec sg0 (.bool true)
  | _ => fun _ _ => none
noncomputable def tabB : T FnE := T.set (.spec 0) p62 (T.set (.spec 0) p82 (T.set (.spec 4) p25 (T.set (.spec 5) p111 tabA)))
noncomputable def machB : Mach := ⟨tabB, specB, E.pt, mts⟩
theorem tabB_is : TabIs E tabB := TabIs.set (p := p62) (e := .spec 0) (TabIs.set (p := p82) (e := .spec 0) (TabIs.set (p := p25) (e := .spec 4) (TabIs.set (p := p111) (e := .spec 5) (tabIs_of tabA_ok) (by decide +kernel)) (by decide +kernel)) (by decide +kernel)) (by decide +kernel)
theorem specB_ok {f : Pos} {s : Nat} (h : T.get f tabB = some (.spec s)) {vs : List V} {σ : St} {v : V} {σ' : St} (hs : specB s vs σ = some (v, σ')) {ι : Nm} {w : World} {args : Array Value} (hG : Gl gs ι) (R : Rep ι σ w) (hv : VRs ι vs args.toList) : Calls Tryd.prog (f.nat - 1) args w (Post ι σ w v σ') := by
  unfold tabB at h
  rw [T.get_set, T.get_set, T.get_set, T.get_set] at h
  split at h
  · rename_i e; cases h; subst e; exact sha_ref (by rw [← shSpecK_eq]; exact hs) hG R hv
  · split at h
    · rename_i e; cases h; subst e; exact sha_dig (by rw [← shSpecK_eq]; exact hs) hG R hv
    · split at h
      · rename_i e; cases h; subst e; exact num_sound (f := p25) (fun n b h1 h2 h3 h4 w => number_calls n b h1 h2 h3 h4 w) (numSpecN_eq hs) R hv
      · split at h
        · rename_i e; cases h; subst e; exact bcmp_ok hs R hv
        · exact absurd h (noSpec_get tabA_no f s)
theorem okB : MOk Tryd.prog E machB (okD E) := mok_of2 rfl mts_ok mixed tabB_is (fun f s h vs σ v σ' hs ι w args hG R hv => specB_ok h hs hG R hv)
noncomputable def tabC : T FnE := T.set (.spec 3) p24 tabB
noncomputable def machC : Mach := ⟨tabC, specB, E.pt, mts⟩
theorem tabC_is : TabIs E tabC := TabIs.set (p := p24) (e := .spec 3) tabB_is (by decide +kernel)
theorem first_run : okV (Hot.runJ machB 300 p24 [] sg0) (.bool true) = true := by decide +kernel
theorem okC_ : MOk Tryd.prog E machC (okD E) := mok_of2 rfl mts_ok mixed tabC_is (fun f s h vs σ v σ' hs ι w args hG R hv => by
  have h : T.get f (T.set (.spec 3) p24 tabB) = some (.spec s) := h
  rw [T.get_set] at h
  split at h
  · rename_i e; cases h; subst e
    exact once_sound (f := p24) (s0 := sg0) (call := Hot.runJ machB 300) (by rw [Hot.runJ_eq]; exact run_sound okB 300) gs_lt' sg0_ro (bare_bool _) (okV_run first_run) hs hG R hv
  · exact specB_ok h hs hG R hv)
end Go.Proofs.YtbikpdgeldhkoaaDoor.Ir
