/-
  AdmitReasons: for every two whole numbers the law answers true, and what came in reads behind it as it read before: the row and its tied card, with no condition of its own.
-/
import Derived.Test.YtknhohgnilamcaaGreatDoorAr4a
import Derived.Test.YtknhohgnilamcaaGreatDoorAr4b
import Derived.Test.YtknhohgnilamcaaGreatDoorTie
import Derived.OpenShut
import Derived.SevenTiedAt
import Derived.Stop.Joined
import Derived.Deep.DeepHandedRow
import Derived.WideKeyArgs
import Derived.Deep.DeepWitnessRowRef
import Derived.Test.YtknhohgnilamcaaGreatDoorLaw
namespace Go.Proofs.YtknhohgnilamcaaGreatDoor.Ir
set_option linter.unusedVariables false
set_option maxRecDepth 100000
open Go Go.Proofs.YtknhohgnilamcaaGreatDoor Go.ChangeShapes Go.WideShapes Go.ChangeAt Go.RowKit
theorem all_cases (n m : Int) : ∀ x, x < 25 → okV (F n m (.ofNat x)) (.bool true) = true
  | 0, _ => case_0 n m
  | 1, _ => case_1 n m
  | 2, _ => case_2 n m
  | 3, _ => case_3 n m
  | 4, _ => case_4 n m
  | 5, _ => case_5 n m
  | 6, _ => case_6 n m
  | 7, _ => case_7 n m
  | 8, _ => case_8 n m
  | 9, _ => case_9 n m
  | 10, _ => case_10 n m
  | 11, _ => case_11 n m
  | 12, _ => case_12 n m
  | 13, _ => case_13 n m
  | 14, _ => case_14 n m
  | 15, _ => case_15 n m
  | 16, _ => case_16 n m
  | 17, _ => case_17 n m
  | 18, _ => case_18 n m
  | 19, _ => case_19 n m
  | 20, _ => case_20 n m
  | 21, _ => case_21 n m
  | 22, _ => case_22 n m
  | 23, _ => case_23 n m
  | 24, _ => case_24 n m
  | k + 25, h => by omega
theorem emod25 (n : Int) : ∃ k : Nat, k < 25 ∧ Int.emod n (.ofNat 25) = .ofNat k := by
  have h1 := Int.emod_nonneg n (show (25 : Int) ≠ 0 by omega)
  have h2 := Int.emod_lt_of_pos n (show (0 : Int) < 25 by omega)
  refine ⟨(n % 25).toNat, by omega, ?_⟩
  show n % 25 = ((n % 25).toNat : Int)
  omega
theorem law_true (n m : Int) : ∃ σ2, runFn machC 300 p7 [.int .i64 n, .int .i64 m] sg0 = some (.bool true, σ2) := by
  rw [law_run]
  obtain ⟨x, hx, e1⟩ := emod25 n
  rw [e1]
  exact okV_run (all_cases n m x hx)
theorem law_walk {W : World} (h : laidMetH Tryz.prog Rows.admitReasonsRow.laid W) (n m : Int) (hn : IntKind.has .i64 n) (hm : IntKind.has .i64 m) :
    Calls Tryz.prog 7 #[.int .i64 n, .int .i64 m] W fun e w' => e = .returned (.bool true) ∧ Below W.heap.size W w' := by
  obtain ⟨ι, R, G⟩ := begins (laid := Rows.admitReasonsRow.laid) (by kernel_rfl) (by kernel_rfl) h
  obtain ⟨σ2, hr⟩ := law_true n m
  refine (law_calls okC_ (f := p7) (s0 := sg0) sg0_ro hr G R (args := #[.int .i64 n, .int .i64 m]) ?_).mono ?_
  · exact .cons (.int _ _ hn) (.cons (.int _ _ hm) .nil)
  · rintro e w' ⟨v', rfl, ⟨ι', hv⟩, hb⟩
    cases hv
    exact ⟨rfl, hb⟩
theorem wf_has {k : IntKind} {n : Int} (h : (Lit.int k n).wf = true) : k.has n := by
  simp only [Lit.wf, Bool.and_eq_true, decide_eq_true_eq] at h
  exact h
theorem own : ownKnob Tryz.prog.godebug = none := by kernel_rfl
theorem laidOut : laidOutB Tryz.prog = true := by kernel_rfl
theorem laid_met (os : Os) : laidMet Tryz.prog Rows.admitReasonsRow.laid ((World.laidAll Tryz.prog os Rows.admitReasonsRow.laid).forCall (fun _ _ => 0) ⟨#[], #[.int .i64 0, .int .i64 0], []⟩).memory :=
  laidMet_laidAll _ (by kernel_rfl) (by kernel_rfl)
theorem reads (os : Os) {H : Type} (enc : TypeId × Value → H) : ∃ places, DataW.whole enc Tryz.prog ((World.laidAll Tryz.prog os Rows.admitReasonsRow.laid).forCall (fun _ _ => 0) ⟨#[], #[.int .i64 0, .int .i64 0], []⟩).memory Tryz.f7.params.toList Rows.admitReasonsSpec.vars false #[Value.int .i64 0, Value.int .i64 0].toList 8 = some ([.lit (.int .i64 0), .lit (.int .i64 0)], [], places) :=
  ⟨[], by kernel_rfl⟩
theorem lifted (os : Os) (started : os.Started) (H : Type) (enc : TypeId × Value → H) (F : Stop.Interp) :
    ReturnsInHanded {} Tryz.checked os 7 .any ((OpenSpec.ofChange Rows.admitReasonsSpec).preRow enc Tryz.prog Tryz.f7 Rows.admitReasonsRow.domain false Rows.admitReasonsRow.laid) (((OpenSpec.ofChange Rows.admitReasonsSpec).at F).post enc Tryz.prog Tryz.f7 false true false false) := by
  obtain ⟨places, hx⟩ := reads os enc
  refine returnsInHanded_of_row (C := Tryz.checked) (s := OpenSpec.ofChange Rows.admitReasonsSpec) own started (by kernel_rfl) Tryz.func7
    (witness_row_atRef (enc := enc) (C := Tryz.checked) false (World.laidAll Tryz.prog os Rows.admitReasonsRow.laid) #[.int .i64 0, .int .i64 0] (World.laidAll_os _ _ _) (by kernel_rfl) (by kernel_rfl) (by kernel_rfl)
      (OpenSpec.preRow_of_cond 8 hx (by kernel_rfl) (fun k hk => by cases hk) (by kernel_rfl) (laid_met os))) ?_
  intro W base args ds gs before hval0 hW _ _ _ hL _ _
  have hval : ∀ (j : Nat) t v, Tryz.f7.params[j]? = some t → args[j]? = some v → Value.okWide Tryz.prog W .any base t v := hval0
  have hW' := hW
  obtain ⟨p, q, hA0, hV, rfl, hfz, hnd⟩ := hW
  have hA : DataW.TrodAll enc Tryz.prog W 0 (fun _ => true) true Tryz.f7.params.toList args.toList ds p := hA0
  rw [Tryz.params7] at hA hval
  obtain ⟨v0, vs0, d0, ds0, p0, q0, hargs, rfl, rfl, h0, r0⟩ := trodAll_cons hA
  obtain ⟨v1, vs1, d1, ds1, p1, q1, rfl, rfl, rfl, h1, r1⟩ := trodAll_cons r0
  obtain ⟨rfl, rfl, rfl⟩ := trodAll_nil r1
  obtain rfl : args = #[v0, v1] := by cases args; simp_all
  obtain ⟨rfl, rfl⟩ := trodVars_none hV
  obtain ⟨n, rfl, rfl, rfl, wn⟩ := open_int Tryz.underlying3 (hval 0 3 v0 rfl rfl) h0
  obtain ⟨m, rfl, rfl, rfl, wm⟩ := open_int Tryz.underlying3 (hval 1 3 v1 rfl rfl) h1
  clear hA0 hval0
  simp only [List.append_nil] at hW'
  refine (law_walk hL n m (wf_has wn) (wf_has wm)).mono fun e W' ⟨he, hb⟩ => ?_
  subst he
  exact ⟨_, rfl, post_of_below (pa := []) (pv := []) hW' (fun _ _ _ => trodAll_mk1 (shut_bool Tryz.underlying4 _)) (fun sp _ => trodAll_mk2 (shut_int Tryz.underlying3 wn) (shut_int Tryz.underlying3 wm)) (fun _ _ => rfl) rfl hb
    (ok_one (by kernel_rfl) rfl (okWide_bool_mk Tryz.underlying4 _))⟩
theorem said : Rows.AdmitReasonsSaid :=
  OpenClaim.holds_of_cond 7 Tryz.f7 rfl rfl rfl rfl rfl rfl rfl ⟨rfl, rfl, rfl, rfl, rfl⟩ rfl rfl rfl rfl rfl (by kernel_rfl) Tryz.func7 (by kernel_rfl)
    (of_decide_eq_true (by kernel_rfl)) (by unfold Func.isWrapper; first | (rw [if_pos (by decide +kernel)]; kernel_rfl) | (rw [if_neg (by decide +kernel)]; exact ⟨rfl, rfl⟩))
    (fun os started H enc _ F => by rw [OpenClaim.pre_eq_preRow]; exact lifted os started H enc F)
theorem plain (f : FuncId) (fn : Func) (hf : Tryz.pinned.checked.prog.funcNamed "sargasso/sargassolaw21.AdmitReasons" = some f) (hfn : Tryz.pinned.checked.prog.funcs[f]? = some fn) :
    true = Tryz.pinned.checked.prog.looks [] ∧ ∀ (j : Nat) t, fn.params[j]? = some t → Tryz.pinned.checked.prog.wantsStandIn t = false := by
  obtain rfl : f = 7 := Option.some.inj ((show Tryz.prog.funcNamed "sargasso/sargassolaw21.AdmitReasons" = some 7 by kernel_rfl).symm.trans hf) |>.symm
  obtain rfl : fn = Tryz.f7 := (Option.some.inj (Tryz.func7.symm.trans hfn)).symm
  refine ⟨by kernel_rfl, fun j t ht => ?_⟩
  rw [Tryz.params7] at ht
  have hm : t ∈ [3, 3] := by simpa using Array.mem_of_getElem? ht
  have hall : ([3, 3].all fun u => !Tryz.prog.wantsStandIn u) = true := by kernel_rfl
  exact (show Tryz.prog.wantsStandIn t = false by simpa using List.all_eq_true.1 hall t hm)
end Go.Proofs.YtknhohgnilamcaaGreatDoor.Ir
namespace Go.Proofs.YtknhohgnilamcaaGreatDoor
/-- the card -/
theorem admitReasons_card : Rows.AdmitReasonsCardSaid :=
  Claim7.holds_tied_plain_at .later [] _ _ _ _ Ir.said (fun _ h => by cases h) (by kernel_rfl) (fun _ h => by cases h) admitReasons_row_tie rfl ⟨rfl, rfl⟩ (by kernel_rfl) rfl Ir.plain (by kernel_rfl)
end Go.Proofs.YtknhohgnilamcaaGreatDoor
#print axioms Go.Proofs.YtknhohgnilamcaaGreatDoor.admitReasons_card
