/-
  The machine with errors.Is by its contract, first() run once, Number.
-/
import Derived.Test.YtknhohgnilamcaaGreatDoorArG
import Derived.Test.YtknhohgnilamcaaGreatDoorErr
import Derived.Test.YtknhohgnilamcaaGreatDoorNum
import Derived.Test.YtknhohgnilamcaaGreatDoorEnThree
namespace Go.Proofs.YtknhohgnilamcaaGreatDoor.Ir
set_option linter.unusedVariables false
set_option maxRecDepth 100000
open Go Go.Proofs.YtknhohgnilamcaaGreatDoor
noncomputable def machI : Mach := ⟨tabA, fun _ _ _ => none, E.pt, mts⟩
theorem okI : MOk Tryz.prog E machI (okD E) := mok_of rfl mts_ok mixed tabA_ok (fun f s h => absurd h (noSpec_get tabA_no f s))
noncomputable def isSpec (vs : List V) (σ : St) : Option (V × St) := match vs with
  | [.iface t v, .iface t2 (.ptr q o)] => (match Nat.beq t2 313 with | true => runFnQ machI 300 p107 [.iface t v, .iface 313 (.ptr q o), .bool true] σ | false => none)
  | [.nili, .iface _ _] => some (.bool false, σ)
  | _ => none
theorem is_ok {vs : List V} {σ : St} {v : V} {σ' : St} (h : isSpec vs σ = some (v, σ')) {ι : Nm} {w : World} {args : Array Value} (hG : Gl gs ι) (R : Rep ι σ w) (hv : VRs ι vs args.toList) : Calls Tryz.prog (p61.nat - 1) args w (Post ι σ w v σ') := by
  unfold isSpec at h
  split at h
  · rename_i t x t2 q o
    split at h
    · rename_i ht
      have ht := Nat.eq_of_beq_eq_true ht
      subst ht
      rw [runFnQ_eq] at h
      obtain ⟨al⟩ := args
      have hl : 2 = al.length := hv.1
      match al, hl, hv with
      | [a, b], _, hv =>
        have ha := hv.head
        have hb := hv.tail.head
        cases ha with
        | iface _ _ a' ha' =>
          cases hb with
          | iface _ _ b' hb' =>
            have hb2 := hb'
            cases hb' with
            | ptr _ _ pl h1 h2 =>
              have h3 := (run_sound okI 300 p107 _ σ v σ' h).2 ι w #[.iface t a', .iface 313 (.pointer (some ⟨pl.blk, pl.st + o, none⟩)), .bool true] hG R (.cons (.iface t x a' ha') (.cons (.iface 313 _ _ hb2) (.cons (.bool true) .nil)))
              have h4 : Calls Tryz.prog 107 #[.iface t a', .iface 313 (.pointer (some ⟨pl.blk, pl.st + o, none⟩)), .bool true] w fun e w' => ∃ x, e = .returned x ∧ (fun x w' => Post ι σ w v σ' (.returned x) w') x w' := by
                refine h3.mono ?_
                rintro e w' ⟨ι', v', rfl, k1, k2, k3⟩
                exact ⟨v', rfl, ι', v', rfl, k1, k2, k3⟩
              refine (is_calls h4).mono ?_
              rintro e w' ⟨x, rfl, hq⟩
              exact hq
    · cases h
  · rename_i t x
    cases h
    obtain ⟨al⟩ := args
    have hl : 2 = al.length := hv.1
    match al, hl, hv with
    | [a, b], _, hv =>
      have ha := hv.head
      have hb := hv.tail.head
      cases ha with
      | nili =>
        cases hb with
        | iface _ _ b' hb' =>
          refine is_nil.mono ?_
          rintro e w' ⟨rfl, rfl⟩
          exact ⟨ι, _, rfl, .bool false, R, ⟨.refl ι, fun _ _ => rfl, Nat.le_refl _, Nat.le_refl _, rfl, rfl, rfl, fun r hr _ => rfl, fun _ _ h => h, fun x y h1 h2 => by rw [h2] at h1; cases h1⟩⟩
  · cases h
noncomputable def specB (s : Nat) : List V → St → Option (V × St) := match s with
  | 0 => isSpec
  | 1 => onceSpec sg0 (.bool true)
  | 2 => numSpec
  | _ => fun _ _ => none
noncomputable def tabB : T FnE := T.set (.spec 0) p61 tabA
noncomputable def tabC : T FnE := T.set (.spec 1) p23 (T.set (.spec 2) p9 tabB)
noncomputable def machB : Mach := ⟨tabB, specB, E.pt, mts⟩
noncomputable def machC : Mach := ⟨tabC, specB, E.pt, mts⟩
theorem tabB_is : TabIs E tabB := TabIs.set (p := p61) (e := .spec 0) (tabIs_of tabA_ok) (by decide +kernel)
theorem tabC_is : TabIs E tabC := TabIs.set (p := p23) (e := .spec 1) (TabIs.set (p := p9) (e := .spec 2) tabB_is (by decide +kernel)) (by decide +kernel)
theorem specB_ok {f : Pos} {s : Nat} (h : T.get f tabB = some (.spec s)) {vs : List V} {σ : St} {v : V} {σ' : St} (hs : specB s vs σ = some (v, σ')) {ι : Nm} {w : World} {args : Array Value} (hG : Gl gs ι) (R : Rep ι σ w) (hv : VRs ι vs args.toList) : Calls Tryz.prog (f.nat - 1) args w (Post ι σ w v σ') := by
  unfold tabB at h
  rw [T.get_set] at h
  split at h
  · rename_i e; cases h; subst e; exact is_ok hs hG R hv
  · exact absurd h (noSpec_get tabA_no f s)
theorem okB : MOk Tryz.prog E machB (okD E) := mok_of2 rfl mts_ok mixed tabB_is (fun f s h vs σ v σ' hs ι w args hG R hv => specB_ok h hs hG R hv)
theorem first_run : okV (runFnQ machB 300 p23 [] sg0) (.bool true) = true := by decide +kernel
theorem okC_ : MOk Tryz.prog E machC (okD E) := mok_of2 rfl mts_ok mixed tabC_is (fun f s h vs σ v σ' hs ι w args hG R hv => by
  have h : T.get f (T.set (.spec 1) p23 (T.set (.spec 2) p9 tabB)) = some (.spec s) := h
  rw [T.get_set, T.get_set] at h
  split at h
  · rename_i e; cases h; subst e
    exact once_sound (f := p23) (s0 := sg0) (call := runFnQ machB 300) (by rw [runFnQ_eq]; exact run_sound okB 300) gs_lt' sg0_ro (bare_bool _) (okV_run first_run) hs hG R hv
  · split at h
    · rename_i e; cases h; subst e
      exact num_sound (f := p9) (fun n b h1 h2 h3 h4 w => number_calls n b h1 h2 h3 h4 w) hs R hv
    · exact specB_ok h hs hG R hv)
end Go.Proofs.YtknhohgnilamcaaGreatDoor.Ir
