/-
  The machine with its contracts: the hashes, errors.Is, maps.Clone, slices.Grow, a graph's ids, what an iterator gives; first() run once; Number.
-/
import Derived.Test.YtneolnnngjbdcaaGreatDoorPaG
import Derived.Test.YtneolnnngjbdcaaGreatDoorShr2
import Derived.Test.YtneolnnngjbdcaaGreatDoorShs
import Derived.Test.YtneolnnngjbdcaaGreatDoorNum
import Derived.Test.YtneolnnngjbdcaaGreatDoorNsp
import Derived.Test.YtneolnnngjbdcaaGreatDoorBcs
import Derived.Test.YtneolnnngjbdcaaGreatDoorEnThree
import Derived.Test.YtneolnnngjbdcaaGreatDoorApv
import Derived.Test.YtneolnnngjbdcaaGreatDoorApB
import Derived.Test.YtneolnnngjbdcaaGreatDoorMcl
import Derived.Test.YtneolnnngjbdcaaGreatDoorGrg
import Derived.Test.YtneolnnngjbdcaaGreatDoorGrL
import Derived.Test.YtneolnnngjbdcaaGreatDoorErr
import Derived.Test.YtneolnnngjbdcaaGreatDoorSsp
namespace Go.Proofs.YtneolnnngjbdcaaGreatDoor.Ir
set_option linter.unusedVariables false
set_option maxRecDepth 100000
open Go Go.Proofs.YtneolnnngjbdcaaGreatDoor
noncomputable def machI : Mach := ⟨tabA, fun _ _ _ => none, E.pt, mts⟩
theorem okI : MOk Tryz.prog E machI (okD E) := mok_of rfl mts_ok mixed tabA_ok (fun f s h => absurd h (noSpec_get tabA_no f s))
/-! errors.Is: by a machine without contracts -/
noncomputable def isSpec (vs : List V) (σ : St) : Option (V × St) := match vs with
  | [.iface t v, .iface t2 (.ptr q o)] => (match Nat.beq t2 283 with | true => Hot.runJ machI 300 p126 [.iface t v, .iface 283 (.ptr q o), .bool true] σ | false => none)
  | [.nili, .iface _ _] => some (.bool false, σ)
  | _ => none
theorem is_ok {vs : List V} {σ : St} {v : V} {σ' : St} (h : isSpec vs σ = some (v, σ')) {ι : Nm} {w : World} {args : Array Value} (hG : Gl gs ι) (R : Rep ι σ w) (hv : VRs ι vs args.toList) : Calls Tryz.prog (p81.nat - 1) args w (Post ι σ w v σ') := by
  unfold isSpec at h
  split at h
  · rename_i t x t2 q o
    split at h
    · rename_i ht
      have ht := Nat.eq_of_beq_eq_true ht
      subst ht
      rw [Hot.runJ_eq] at h
      obtain ⟨al⟩ := args
      have hl : 2 = al.length := hv.1
      match al, hl, hv with
      | [a, b], _, hv =>
        have ha := hv.head
        have hb := hv.tail.head
        cases ha with
        | iface _ _ a' ha' =>
          cases hb with
          | iface _ _ b' hb' =>
            have hb2 := hb'
            cases hb' with
            | ptr _ _ pl h1 h2 =>
              have h3 := (run_sound okI 300 p126 _ σ v σ' h).2 ι w #[.iface t a', .iface 283 (.pointer (some ⟨pl.blk, pl.st + o, none⟩)), .bool true] hG R (.cons (.iface t x a' ha') (.cons (.iface 283 _ _ hb2) (.cons (.bool true) .nil)))
              have h4 : Calls Tryz.prog 126 #[.iface t a', .iface 283 (.pointer (some ⟨pl.blk, pl.st + o, none⟩)), .bool true] w fun e w' => ∃ x, e = .returned x ∧ (fun x w' => Post ι σ w v σ' (.returned x) w') x w' := by
                refine h3.mono ?_
                rintro e w' ⟨ι', v', rfl, k1, k2, k3⟩
                exact ⟨v', rfl, ι', v', rfl, k1, k2, k3⟩
              refine (is_calls h4).mono ?_
              rintro e w' ⟨x, rfl, hq⟩
              exact hq
    · cases h
  · rename_i t x
    cases h
    obtain ⟨al⟩ := args
    have hl : 2 = al.length := hv.1
    match al, hl, hv with
    | [a, b], _, hv =>
      have ha := hv.head
      have hb := hv.tail.head
      cases ha with
      | nili =>
        cases hb with
        | iface _ _ b' hb' =>
          refine is_nil.mono ?_
          rintro e w' ⟨rfl, rfl⟩
          exact ⟨ι, _, rfl, .bool false, R, ⟨.refl ι, fun _ _ => rfl, Nat.le_refl _, Nat.le_refl _, rfl, rfl, rfl, fun r hr _ => rfl, fun _ _ h => h, fun x y h1 h2 => by rw [h2] at h1; cases h1⟩⟩
  · cases h
/-! the ids of a graph: by a machine that has a map's keys in order as a contract -/
noncomputable def tabS : T FnE := T.set (.spec 1) p59 tabA
noncomputable def machS : Mach := ⟨tabS, fun s => match s with | 1 => ssSpec | _ => fun _ _ => none, E.pt, mts⟩
theorem tabS_is : TabIs E tabS := TabIs.set (p := p59) (e := .spec 1) (tabIs_of tabA_ok) (by decide +kernel)
theorem okS_ : MOk Tryz.prog E machS (okD E) := mok_of2 rfl mts_ok mixed tabS_is (fun f s h vs σ v σ' hs ι w args hG R hv => by
  have h : T.get f (T.set (.spec 1) p59 tabA) = some (.spec s) := h
  rw [T.get_set] at h
  split at h
  · rename_i e; cases h; subst e; exact ss_ok hs R hv
  · exact absurd h (noSpec_get tabA_no f s))
noncomputable def idSpec (vs : List V) (σ : St) : Option (V × St) := Hot.runJ machS 300 p33 vs σ
theorem id_ok {vs : List V} {σ : St} {v : V} {σ' : St} (h : idSpec vs σ = some (v, σ')) {ι : Nm} {w : World} {args : Array Value} (hG : Gl gs ι) (R : Rep ι σ w) (hv : VRs ι vs args.toList) : Calls Tryz.prog (p33.nat - 1) args w (Post ι σ w v σ') := by
  unfold idSpec at h
  rw [Hot.runJ_eq] at h
  exact (run_sound okS_ 300 _ _ _ _ _ h).2 ι w args hG R hv
noncomputable def apS (vs : List V) (σ : St) : Option (V × St) := match avSpec vs σ with | some r => some r | none => apSpecB vs σ
theorem apS_ok {vs : List V} {σ : St} {v : V} {σ' : St} (h : apS vs σ = some (v, σ')) {ι : Nm} {w : World} {args : Array Value} (R : Rep ι σ w) (hv : VRs ι vs args.toList) : Calls Tryz.prog (p128.nat - 1) args w (Post ι σ w v σ') := by
  unfold apS at h
  split at h
  · rename_i hr; cases h; exact av_ok hr R hv
  · exact ap_okB h R hv
theorem gr_ok {vs : List V} {σ : St} {v : V} {σ' : St} (h : ggSpec 4 vs σ = some (v, σ')) {ι : Nm} {w : World} {args : Array Value} (R : Rep ι σ w) (hv : VRs ι vs args.toList) : Calls Tryz.prog (p48.nat - 1) args w (Post ι σ w v σ') :=
  gg_ok (i0 := (Tryz.prog.info? 53).get!) (z := ((Tryz.prog.info? 53).get!.zero).get!) (es := 4) Tryz.growT (by kernel_rfl) (by kernel_rfl) (by kernel_rfl) (by kernel_rfl) (by decide) (Nat.le_of_ble_eq_true (by kernel_rfl)) h R hv
noncomputable def specB (s : Nat) : List V → St → Option (V × St) := match s with
  | 0 => shSpecK lens none
  | 1 => isSpec
  | 2 => ggSpec 4
  | 4 => numSpecN
  | 5 => bcSpec
  | 6 => idSpec
  | 7 => apS
  | 8 => mcSpec
  | 3 => onceSpec sg0 (.bool true)
  | _ => fun _ _ => none
noncomputable def tabB : T FnE := T.set (.spec 0) p20 (T.set (.spec 0) p76 (T.set (.spec 1) p81 (T.set (.spec 2) p48 (T.set (.spec 4) p5 (T.set (.spec 5) p91 (T.set (.spec 6) p33 (T.set (.spec 7) p128 (T.set (.spec 8) p53 (T.set (.spec 8) p54 tabA)))))))))
noncomputable def machB : Mach := ⟨tabB, specB, E.pt, mts⟩
theorem tabB_is : TabIs E tabB := TabIs.set (p := p20) (e := .spec 0) (TabIs.set (p := p76) (e := .spec 0) (TabIs.set (p := p81) (e := .spec 1) (TabIs.set (p := p48) (e := .spec 2) (TabIs.set (p := p5) (e := .spec 4) (TabIs.set (p := p91) (e := .spec 5) (TabIs.set (p := p33) (e := .spec 6) (TabIs.set (p := p128) (e := .spec 7) (TabIs.set (p := p53) (e := .spec 8) (TabIs.set (p := p54) (e := .spec 8) (tabIs_of tabA_ok) (by decide +kernel)) (by decide +kernel)) (by decide +kernel)) (by decide +kernel)) (by decide +kernel)) (by decide +kernel)) (by decide +kernel)) (by decide +kernel)) (by decide +kernel)) (by decide +kernel)
theorem specB_ok {f : Pos} {s : Nat} (h : T.get f tabB = some (.spec s)) {vs : List V} {σ : St} {v : V} {σ' : St} (hs : specB s vs σ = some (v, σ')) {ι : Nm} {w : World} {args : Array Value} (hG : Gl gs ι) (R : Rep ι σ w) (hv : VRs ι vs args.toList) : Calls Tryz.prog (f.nat - 1) args w (Post ι σ w v σ') := by
  unfold tabB at h
  rw [T.get_set, T.get_set, T.get_set, T.get_set, T.get_set, T.get_set, T.get_set, T.get_set, T.get_set, T.get_set] at h
  split at h
  · rename_i e; cases h; subst e; exact sha_ref (by rw [← shSpecK_eq]; exact hs) hG R hv
  · split at h
    · rename_i e; cases h; subst e; exact sha_dig (by rw [← shSpecK_eq]; exact hs) hG R hv
    · split at h
      · rename_i e; cases h; subst e; exact is_ok hs hG R hv
      · split at h
        · rename_i e; cases h; subst e; exact gr_ok hs R hv
        · split at h
          · rename_i e; cases h; subst e; exact num_sound (f := p5) (fun n b h1 h2 h3 h4 w => number_calls n b h1 h2 h3 h4 w) (numSpecN_eq hs) R hv
          · split at h
            · rename_i e; cases h; subst e; exact bcmp_ok hs R hv
            · split at h
              · rename_i e; cases h; subst e; exact id_ok hs hG R hv
              · split at h
                · rename_i e; cases h; subst e; exact apS_ok hs R hv
                · split at h
                  · rename_i e; cases h; subst e; exact mc_ok Tryz.cloneE hs R hv
                  · split at h
                    · rename_i e; cases h; subst e; exact mc_ok Tryz.cloneS hs R hv
                    · exact absurd h (noSpec_get tabA_no f s)
theorem okB : MOk Tryz.prog E machB (okD E) := mok_of2 rfl mts_ok mixed tabB_is (fun f s h vs σ v σ' hs ι w args hG R hv => specB_ok h hs hG R hv)
noncomputable def tabC : T FnE := T.set (.spec 3) p4 tabB
noncomputable def machC : Mach := ⟨tabC, specB, E.pt, mts⟩
theorem tabC_is : TabIs E tabC := TabIs.set (p := p4) (e := .spec 3) tabB_is (by decide +kernel)
theorem first_run : okV (Hot.runJ machB 300 p4 [] sg0) (.bool true) = true := by decide +kernel
theorem okC_ : MOk Tryz.prog E machC (okD E) := mok_of2 rfl mts_ok mixed tabC_is (fun f s h vs σ v σ' hs ι w args hG R hv => by
  have h : T.get f (T.set (.spec 3) p4 tabB) = some (.spec s) := h
  rw [T.get_set] at h
  split at h
  · rename_i e; cases h; subst e
    exact once_sound (f := p4) (s0 := sg0) (call := Hot.runJ machB 300) (by rw [Hot.runJ_eq]; exact run_sound okB 300) gs_lt' sg0_ro (bare_bool _) (okV_run first_run) hs hG R hv
  · exact specB_ok h hs hG R hv)
end Go.Proofs.YtneolnnngjbdcaaGreatDoor.Ir
