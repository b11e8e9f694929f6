/-
  The machine with its hashes; first() run once; the machine with first() and Number.
-/
import Derived.Test.YtknhohgnilamcaaGreatDoorLk3
import Derived.Test.YtknhohgnilamcaaGreatDoorNum
namespace Go.Proofs.YtknhohgnilamcaaGreatDoor.Ir
set_option linter.unusedVariables false
set_option maxRecDepth 100000
open Go Go.Proofs.YtknhohgnilamcaaGreatDoor
noncomputable def tR : List (List V × V) := [(bs t94, .agg (bs dd94)), (bs dd94, .agg (bs dd94d)), (bs [6], .agg (bs dd6))]
noncomputable def tD : List (List V × V) := [(bs [6], .agg (bs dd6))]
noncomputable def sg0 : St := ⟨hG 313 26 0 gs, p60⟩
noncomputable def specB (s : Nat) : List V → St → Option (V × St) := match s with
  | 0 => hashSpec tR (some (.agg (bs dd0)))
  | 1 => hashSpec tD none
  | 2 => onceSpec sg0 (.bool true)
  | 3 => numSpec
  | _ => fun _ _ => none
noncomputable def machB : Mach := ⟨tabB, specB, [313], mts⟩
noncomputable def machC : Mach := ⟨tabC, specB, [313], mts⟩
theorem tabA_no : noSpec tabA = true := by decide +kernel
theorem mtA : MtOk Tryz.prog [] := ⟨fun x hx => by cases hx⟩
theorem okA : MOk Tryz.prog E machA (okD E) := mok_of rfl mtA mixed tabA_ok (fun f s h => absurd h (noSpec_get tabA_no f s))
theorem callA : CallOK Tryz.prog gs (runFnQ machA 300) := by rw [runFnQ_eq]; exact run_sound okA 300
theorem gs_lt : gs.all (fun g => Nat.blt (g + 1) p60.nat) = true := by decide +kernel
theorem gs_lt' : ∀ g ∈ gs, g + 1 < p60.nat := fun g hg => by
  have := List.all_eq_true.1 gs_lt g hg
  rw [blt_eq] at this
  simpa using this
theorem hashR {vs : List V} {σ : St} {v : V} {σ' : St} (h : hashSpec tR (some (.agg (bs dd0))) vs σ = some (v, σ')) {ι : Nm} {w : World} {args : Array Value} (hG : Gl gs ι) (R : Rep ι σ w) (hv : VRs ι vs args.toList) : Calls Tryz.prog 11 args w (Post ι σ w v σ') := by
  refine hash_sound (f := p11) callA gs_lt' ?_ ?_ h hG R hv
  · intro x hx
    simp only [tR, List.mem_cons, List.mem_nil_iff, or_false] at hx
    rcases hx with rfl | rfl | rfl
    · exact ⟨by decide +kernel, fun y hy => bs_bare t94 y hy, bare_agg (bs_bare _), okV_run h94⟩
    · exact ⟨by decide +kernel, fun y hy => bs_bare dd94 y hy, bare_agg (bs_bare _), okV_run h32⟩
    · exact ⟨by decide +kernel, fun y hy => bs_bare [6] y hy, bare_agg (bs_bare _), okV_run h6⟩
  · intro v hv
    cases hv
    exact ⟨bare_agg (bs_bare _), okV_run h0⟩
theorem hashD {vs : List V} {σ : St} {v : V} {σ' : St} (h : hashSpec tD none vs σ = some (v, σ')) {ι : Nm} {w : World} {args : Array Value} (hG : Gl gs ι) (R : Rep ι σ w) (hv : VRs ι vs args.toList) : Calls Tryz.prog 134 args w (Post ι σ w v σ') := by
  refine hash_sound (f := p134) callA gs_lt' ?_ ?_ h hG R hv
  · intro x hx
    simp only [tD, List.mem_cons, List.mem_nil_iff, or_false] at hx
    subst hx
    exact ⟨by decide +kernel, fun y hy => bs_bare [6] y hy, bare_agg (bs_bare _), okV_run k6⟩
  · intro v hv
    cases hv
theorem tabB_get {f : Pos} {s : Nat} (h : T.get f tabB = some (.spec s)) : (f = p11 ∧ s = 0) ∨ (f = p134 ∧ s = 1) := by
  unfold tabB at h
  rw [T.get_set, T.get_set] at h
  split at h
  · rename_i e; cases h; exact .inl ⟨e, rfl⟩
  · split at h
    · rename_i e; cases h; exact .inr ⟨e, rfl⟩
    · exact absurd h (noSpec_get tabA_no f s)
theorem okB : MOk Tryz.prog E machB (okD E) := mok_of rfl mts_ok mixed tabB_ok (fun f s h vs σ v σ' hs ι w args hG R hv => by
  rcases tabB_get h with ⟨rfl, rfl⟩ | ⟨rfl, rfl⟩
  · exact hashR hs hG R hv
  · exact hashD hs hG R hv)
theorem first_run : okV (runFnQ machB 300 p8 [] sg0) (.bool true) = true := by decide +kernel
theorem sg0_ro : roT p60.nat sg0.h id = true := by decide +kernel
theorem okC_ : MOk Tryz.prog E machC (okD E) := mok_of rfl mts_ok mixed tabC_ok (fun f s h vs σ v σ' hs ι w args hG R hv => by
  have h : T.get f (T.set (.spec 2) p8 (T.set (.spec 3) p9 tabB)) = some (.spec s) := h
  rw [T.get_set, T.get_set] at h
  split at h
  · rename_i e; cases h; subst e
    refine once_sound (f := p8) (s0 := sg0) (call := runFnQ machB 300) (by rw [runFnQ_eq]; exact run_sound okB 300) gs_lt' sg0_ro (bare_bool _) (okV_run first_run) hs hG R hv
  · split at h
    · rename_i e; cases h; subst e
      exact num_sound (f := p9) (fun n b h1 h2 h3 h4 w => number_calls n b h1 h2 h3 h4 w) hs R hv
    · rcases tabB_get h with ⟨rfl, rfl⟩ | ⟨rfl, rfl⟩
      · exact hashR hs hG R hv
      · exact hashD hs hG R hv)
end Go.Proofs.YtknhohgnilamcaaGreatDoor.Ir
