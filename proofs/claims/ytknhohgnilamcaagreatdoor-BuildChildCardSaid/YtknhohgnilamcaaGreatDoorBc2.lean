/-
  The machine with its contracts: the hashes, a map's keys in order, which of two items is worse; first() run once; Number.
-/
import Derived.Test.YtknhohgnilamcaaGreatDoorBcG
import Derived.Test.YtknhohgnilamcaaGreatDoorShr2
import Derived.Test.YtknhohgnilamcaaGreatDoorShs
import Derived.Test.YtknhohgnilamcaaGreatDoorBel
import Derived.Test.YtknhohgnilamcaaGreatDoorNum
import Derived.Test.YtknhohgnilamcaaGreatDoorBcs
import Derived.Test.YtknhohgnilamcaaGreatDoorEnThree
import Derived.Test.YtknhohgnilamcaaGreatDoorApv
namespace Go.Proofs.YtknhohgnilamcaaGreatDoor.Ir
set_option linter.unusedVariables false
set_option maxRecDepth 100000
open Go Go.Proofs.YtknhohgnilamcaaGreatDoor
/-! the ids of a graph: by a machine that has a map's keys in order as a contract -/
noncomputable def tabS : T FnE := T.set (.spec 1) p88 tabA
noncomputable def machS : Mach := ⟨tabS, fun s => match s with | 1 => ssSpec | _ => fun _ _ => none, E.pt, mts⟩
theorem tabS_is : TabIs E tabS := TabIs.set (p := p88) (e := .spec 1) (tabIs_of tabA_ok) (by decide +kernel)
theorem okS_ : MOk Tryz.prog E machS (okD E) := mok_of2 rfl mts_ok mixed tabS_is (fun f s h vs σ v σ' hs ι w args hG R hv => by
  have h : T.get f (T.set (.spec 1) p88 tabA) = some (.spec s) := h
  rw [T.get_set] at h
  split at h
  · rename_i e; cases h; subst e; exact ss_ok hs R hv
  · exact absurd h (noSpec_get tabA_no f s))
noncomputable def idSpec (vs : List V) (σ : St) : Option (V × St) := Hot.runJ machS 300 p50 vs σ
theorem id_ok {vs : List V} {σ : St} {v : V} {σ' : St} (h : idSpec vs σ = some (v, σ')) {ι : Nm} {w : World} {args : Array Value} (hG : Gl gs ι) (R : Rep ι σ w) (hv : VRs ι vs args.toList) : Calls Tryz.prog (p50.nat - 1) args w (Post ι σ w v σ') := by
  unfold idSpec at h
  rw [Hot.runJ_eq] at h
  exact (run_sound okS_ 300 _ _ _ _ _ h).2 ι w args hG R hv
noncomputable def specB (s : Nat) : List V → St → Option (V × St) := match s with
  | 0 => shSpecK lens none
  | 2 => belSpec
  | 3 => onceSpec sg0 (.bool true)
  | 4 => numSpecN
  | 5 => bcSpec
  | 6 => idSpec
  | 7 => avSpec
  | _ => fun _ _ => none
noncomputable def tabB : T FnE := T.set (.spec 0) p11 (T.set (.spec 0) p134 (T.set (.spec 2) p87 (T.set (.spec 4) p9 (T.set (.spec 5) p142 (T.set (.spec 6) p50 (T.set (.spec 7) p173 tabA))))))
noncomputable def tabC : T FnE := T.set (.spec 3) p19 tabB
noncomputable def machB : Mach := ⟨tabB, specB, E.pt, mts⟩
noncomputable def machC : Mach := ⟨tabC, specB, E.pt, mts⟩
theorem tabB_is : TabIs E tabB := TabIs.set (p := p11) (e := .spec 0) (TabIs.set (p := p134) (e := .spec 0) (TabIs.set (p := p87) (e := .spec 2) (TabIs.set (p := p9) (e := .spec 4) (TabIs.set (p := p142) (e := .spec 5) (TabIs.set (p := p50) (e := .spec 6) (TabIs.set (p := p173) (e := .spec 7) (tabIs_of tabA_ok) (by decide +kernel)) (by decide +kernel)) (by decide +kernel)) (by decide +kernel)) (by decide +kernel)) (by decide +kernel)) (by decide +kernel)
theorem tabC_is : TabIs E tabC := TabIs.set (p := p19) (e := .spec 3) tabB_is (by decide +kernel)
theorem specB_ok {f : Pos} {s : Nat} (h : T.get f tabB = some (.spec s)) {vs : List V} {σ : St} {v : V} {σ' : St} (hs : specB s vs σ = some (v, σ')) {ι : Nm} {w : World} {args : Array Value} (hG : Gl gs ι) (R : Rep ι σ w) (hv : VRs ι vs args.toList) : Calls Tryz.prog (f.nat - 1) args w (Post ι σ w v σ') := by
  unfold tabB at h
  rw [T.get_set, T.get_set, T.get_set, T.get_set, T.get_set, T.get_set, T.get_set] at h
  split at h
  · rename_i e; cases h; subst e; exact sha_ref (by rw [← shSpecK_eq]; exact hs) hG R hv
  · split at h
    · rename_i e; cases h; subst e; exact sha_dig (by rw [← shSpecK_eq]; exact hs) hG R hv
    · split at h
      · rename_i e; cases h; subst e; exact bel_ok hs R hv
      · split at h
        · rename_i e; cases h; subst e; exact num_sound (f := p9) (fun n b h1 h2 h3 h4 w => number_calls n b h1 h2 h3 h4 w) (numSpecN_eq hs) R hv
        · split at h
          · rename_i e; cases h; subst e; exact bcmp_ok hs R hv
          · split at h
            · rename_i e; cases h; subst e; exact id_ok hs hG R hv
            · split at h
              · rename_i e; cases h; subst e; exact av_ok hs R hv
              · exact absurd h (noSpec_get tabA_no f s)
theorem okB : MOk Tryz.prog E machB (okD E) := mok_of2 rfl mts_ok mixed tabB_is (fun f s h vs σ v σ' hs ι w args hG R hv => specB_ok h hs hG R hv)
theorem first_run : okV (Hot.runJ machB 300 p19 [] sg0) (.bool true) = true := by decide +kernel
theorem okC_ : MOk Tryz.prog E machC (okD E) := mok_of2 rfl mts_ok mixed tabC_is (fun f s h vs σ v σ' hs ι w args hG R hv => by
  have h : T.get f (T.set (.spec 3) p19 tabB) = some (.spec s) := h
  rw [T.get_set] at h
  split at h
  · rename_i e; cases h; subst e
    exact once_sound (f := p19) (s0 := sg0) (call := Hot.runJ machB 300) (by rw [Hot.runJ_eq]; exact run_sound okB 300) gs_lt' sg0_ro (bare_bool _) (okV_run first_run) hs hG R hv
  · exact specB_ok h hs hG R hv)
end Go.Proofs.YtknhohgnilamcaaGreatDoor.Ir
