/-
  GraphCuts: for every whole number the law answers true, and what came in reads behind it as it read before: the row and its tied card, with no condition of its own.
-/
import Derived.Test.YtknhohgnilamcaaDoorGc4a
import Derived.Test.YtknhohgnilamcaaDoorGc4b
import Derived.Test.YtknhohgnilamcaaDoorGc4c
import Derived.Test.YtknhohgnilamcaaDoorGc4d
import Derived.Test.YtknhohgnilamcaaDoorTie
import Derived.OpenShut
import Derived.SevenTiedAt
import Derived.Stop.Joined
import Derived.Deep.DeepHandedRow
import Derived.WideKeyArgs
import Derived.Deep.DeepWitnessRowRef
import Derived.Test.YtknhohgnilamcaaDoorLaw
namespace Go.Proofs.YtknhohgnilamcaaDoor.Ir
set_option linter.unusedVariables false
set_option maxRecDepth 100000
open Go Go.Proofs.YtknhohgnilamcaaDoor Go.ChangeShapes Go.WideShapes Go.ChangeAt Go.RowKit
theorem all_cases (n : Int) : ∀ x, x < 10 → okV (F n (.ofNat x)) (.bool true) = true
  | 0, _ => case_0 n | 1, _ => case_1 n | 2, _ => case_2 n | 3, _ => case_3 n | 4, _ => case_4 n | 5, _ => case_5 n | 6, _ => case_6 n | 7, _ => case_7 n | 8, _ => case_8 n | 9, _ => case_9 n
  | k + 10, h => by omega
theorem emod10 (n : Int) : ∃ k : Nat, k < 10 ∧ Int.emod n (.ofNat 10) = .ofNat k := by
  have h1 := Int.emod_nonneg n (show (10 : Int) ≠ 0 by omega)
  have h2 := Int.emod_lt_of_pos n (show (0 : Int) < 10 by omega)
  refine ⟨(n % 10).toNat, by omega, ?_⟩
  show n % 10 = ((n % 10).toNat : Int)
  omega
theorem law_true (n : Int) : ∃ σ2, runFn machC 300 p3 [.int .i64 n] sg0 = some (.bool true, σ2) := by
  rw [law_run]
  obtain ⟨x, hx, e1⟩ := emod10 n
  rw [e1]
  exact okV_run (all_cases n x hx)
theorem law_walk {W : World} (h : laidMetH Tryd.prog Rows.graphCutsRow.laid W) (n : Int) (hn : IntKind.has .i64 n) :
    Calls Tryd.prog 3 #[.int .i64 n] W fun e w' => e = .returned (.bool true) ∧ Below W.heap.size W w' := by
  obtain ⟨ι, R, G⟩ := begins (laid := Rows.graphCutsRow.laid) (by kernel_rfl) (by kernel_rfl) h
  obtain ⟨σ2, hr⟩ := law_true n
  refine (law_calls okC_ (f := p3) (s0 := sg0) sg0_ro hr G R (args := #[.int .i64 n]) ?_).mono ?_
  · exact .cons (.int _ _ hn) .nil
  · rintro e w' ⟨v', rfl, ⟨ι', hv⟩, hb⟩
    cases hv
    exact ⟨rfl, hb⟩
theorem wf_has {k : IntKind} {n : Int} (h : (Lit.int k n).wf = true) : k.has n := by
  simp only [Lit.wf, Bool.and_eq_true, decide_eq_true_eq] at h
  exact h
theorem own : ownKnob Tryd.prog.godebug = none := by kernel_rfl
theorem laidOut : laidOutB Tryd.prog = true := by kernel_rfl
theorem laid_met (os : Os) : laidMet Tryd.prog Rows.graphCutsRow.laid ((World.laidAll Tryd.prog os Rows.graphCutsRow.laid).forCall (fun _ _ => 0) ⟨#[], #[.int .i64 0], []⟩).memory :=
  laidMet_laidAll _ (by kernel_rfl) (by kernel_rfl)
theorem reads (os : Os) {H : Type} (enc : TypeId × Value → H) : ∃ places, DataW.whole enc Tryd.prog ((World.laidAll Tryd.prog os Rows.graphCutsRow.laid).forCall (fun _ _ => 0) ⟨#[], #[.int .i64 0], []⟩).memory Tryd.f3.params.toList Rows.graphCutsSpec.vars false #[Value.int .i64 0].toList 8 = some ([.lit (.int .i64 0)], [], places) :=
  ⟨[], by kernel_rfl⟩
theorem lifted (os : Os) (started : os.Started) (H : Type) (enc : TypeId × Value → H) (F : Stop.Interp) :
    ReturnsInHanded {} Tryd.checked os 3 .any ((OpenSpec.ofChange Rows.graphCutsSpec).preRow enc Tryd.prog Tryd.f3 Rows.graphCutsRow.domain false Rows.graphCutsRow.laid) (((OpenSpec.ofChange Rows.graphCutsSpec).at F).post enc Tryd.prog Tryd.f3 false true false false) := by
  obtain ⟨places, hx⟩ := reads os enc
  refine returnsInHanded_of_row (C := Tryd.checked) (s := OpenSpec.ofChange Rows.graphCutsSpec) own started (by kernel_rfl) Tryd.func3
    (witness_row_atRef (enc := enc) (C := Tryd.checked) false (World.laidAll Tryd.prog os Rows.graphCutsRow.laid) #[.int .i64 0] (World.laidAll_os _ _ _) (by kernel_rfl) (by kernel_rfl) (by kernel_rfl)
      (OpenSpec.preRow_of_cond 8 hx (by kernel_rfl) (fun k hk => by cases hk) (by kernel_rfl) (laid_met os))) ?_
  intro W base args ds gs before hval0 hW _ _ _ hL _ _
  have hval : ∀ (j : Nat) t v, Tryd.f3.params[j]? = some t → args[j]? = some v → Value.okWide Tryd.prog W .any base t v := hval0
  have hW' := hW
  obtain ⟨p, q, hA0, hV, rfl, hfz, hnd⟩ := hW
  have hA : DataW.TrodAll enc Tryd.prog W 0 (fun _ => true) true Tryd.f3.params.toList args.toList ds p := hA0
  rw [Tryd.params3] at hA hval
  obtain ⟨v0, vs0, d0, ds0, p0, q0, hargs, rfl, rfl, h0, r0⟩ := trodAll_cons hA
  obtain ⟨rfl, rfl, rfl⟩ := trodAll_nil r0
  obtain rfl : args = #[v0] := by cases args; simp_all
  obtain ⟨rfl, rfl⟩ := trodVars_none hV
  obtain ⟨n, rfl, rfl, rfl, wn⟩ := open_int Tryd.underlying3 (hval 0 3 v0 rfl rfl) h0
  clear hA0 hval0
  simp only [List.append_nil] at hW'
  refine (law_walk hL n (wf_has wn)).mono fun e W' ⟨he, hb⟩ => ?_
  subst he
  exact ⟨_, rfl, post_of_below (pa := []) (pv := []) hW' (fun _ _ _ => trodAll_mk1 (shut_bool Tryd.underlying4 _)) (fun sp _ => trodAll_mk1 (shut_int Tryd.underlying3 wn)) (fun _ _ => rfl) rfl hb
    (ok_one (by kernel_rfl) rfl (okWide_bool_mk Tryd.underlying4 _))⟩
theorem said : Rows.GraphCutsSaid :=
  OpenClaim.holds_of_cond 3 Tryd.f3 rfl rfl rfl rfl rfl rfl rfl ⟨rfl, rfl, rfl, rfl, rfl⟩ rfl rfl rfl rfl rfl (by kernel_rfl) Tryd.func3 (by kernel_rfl)
    (of_decide_eq_true (by kernel_rfl)) (by unfold Func.isWrapper; first | (rw [if_pos (by decide +kernel)]; kernel_rfl) | (rw [if_neg (by decide +kernel)]; exact ⟨rfl, rfl⟩))
    (fun os started H enc _ F => by rw [OpenClaim.pre_eq_preRow]; exact lifted os started H enc F)
theorem plain (f : FuncId) (fn : Func) (hf : Tryd.pinned.checked.prog.funcNamed "sargasso/sargassolaw18.GraphCuts" = some f) (hfn : Tryd.pinned.checked.prog.funcs[f]? = some fn) :
    true = Tryd.pinned.checked.prog.looks [] ∧ ∀ (j : Nat) t, fn.params[j]? = some t → Tryd.pinned.checked.prog.wantsStandIn t = false := by
  obtain rfl : f = 3 := Option.some.inj ((show Tryd.prog.funcNamed "sargasso/sargassolaw18.GraphCuts" = some 3 by kernel_rfl).symm.trans hf) |>.symm
  obtain rfl : fn = Tryd.f3 := (Option.some.inj (Tryd.func3.symm.trans hfn)).symm
  refine ⟨by kernel_rfl, fun j t ht => ?_⟩
  rw [Tryd.params3] at ht
  have hm : t ∈ [3] := by simpa using Array.mem_of_getElem? ht
  have hall : ([3].all fun u => !Tryd.prog.wantsStandIn u) = true := by kernel_rfl
  exact (show Tryd.prog.wantsStandIn t = false by simpa using List.all_eq_true.1 hall t hm)
end Go.Proofs.YtknhohgnilamcaaDoor.Ir
namespace Go.Proofs.YtknhohgnilamcaaDoor
/-- the card -/
theorem graphCuts_card : Rows.GraphCutsCardSaid :=
  Claim7.holds_tied_plain_at .later [] _ _ _ _ Ir.said (fun _ h => by cases h) (by kernel_rfl) (fun _ h => by cases h) graphCuts_row_tie rfl ⟨rfl, rfl⟩ (by kernel_rfl) rfl Ir.plain (by kernel_rfl)
end Go.Proofs.YtknhohgnilamcaaDoor
#print axioms Go.Proofs.YtknhohgnilamcaaDoor.graphCuts_card
