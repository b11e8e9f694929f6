/-
  ConnLocks: for every two whole numbers and every bool the law answers true, and what came in reads behind it as it read before: the row and its tied card, with no condition of its own.
-/
import Derived.Test.YtknhohgnilamcaaGreatDoorLk6a
import Derived.Test.YtknhohgnilamcaaGreatDoorLk6b
import Derived.Test.YtknhohgnilamcaaGreatDoorLk6c
import Derived.Test.YtknhohgnilamcaaGreatDoorLk6d
import Derived.Test.YtknhohgnilamcaaGreatDoorLk7
import Derived.Test.YtknhohgnilamcaaGreatDoorTie
import Derived.OpenShut
import Derived.SevenTiedAt
import Derived.Stop.Joined
import Derived.Deep.DeepHandedRow
import Derived.WideKeyArgs
import Derived.Deep.DeepWitnessRowRef
import Derived.Test.YtknhohgnilamcaaGreatDoorLaw
namespace Go.Proofs.YtknhohgnilamcaaGreatDoor.Ir
set_option linter.unusedVariables false
set_option maxRecDepth 100000
open Go Go.Proofs.YtknhohgnilamcaaGreatDoor Go.ChangeShapes Go.WideShapes Go.ChangeAt Go.RowKit
theorem all_cases (n m : Int) : ∀ x, x < 20 → caseOk n m x = true
  | 0, _ => case_0 n m | 1, _ => case_1 n m | 2, _ => case_2 n m | 3, _ => case_3 n m | 4, _ => case_4 n m | 5, _ => case_5 n m | 6, _ => case_6 n m | 7, _ => case_7 n m | 8, _ => case_8 n m | 9, _ => case_9 n m
  | 10, _ => case_10 n m | 11, _ => case_11 n m | 12, _ => case_12 n m | 13, _ => case_13 n m | 14, _ => case_14 n m | 15, _ => case_15 n m | 16, _ => case_16 n m | 17, _ => case_17 n m | 18, _ => case_18 n m | 19, _ => case_19 n m
  | k + 20, h => by omega
theorem emod20 (n : Int) : ∃ k : Nat, k < 20 ∧ Int.emod n (.ofNat 20) = .ofNat k := by
  have h1 := Int.emod_nonneg n (show (20 : Int) ≠ 0 by omega)
  have h2 := Int.emod_lt_of_pos n (show (0 : Int) < 20 by omega)
  refine ⟨(n % 20).toNat, by omega, ?_⟩
  show n % 20 = ((n % 20).toNat : Int)
  omega
theorem law_true (n m : Int) (t : Bool) : ∃ σ2, runFn machC 300 p3 [.int .i64 n, .int .i64 m, .bool t] sg0 = some (.bool true, σ2) := by
  rw [law_run]
  obtain ⟨x, hx, e1⟩ := emod20 n
  obtain ⟨y, hy, e2⟩ := emod20 m
  rw [e1, e2]
  have h := all_cases n m x hx
  unfold caseOk at h
  rw [lall_eq] at h
  have h := List.all_eq_true.1 h y (upto_mem hy)
  simp only [Bool.and_eq_true] at h
  cases t with
  | true => exact okV_run h.1
  | false => exact okV_run h.2
theorem law_walk {W : World} (h : laidMetH Tryz.prog Rows.connLocksRow.laid W) (n m : Int) (hn : IntKind.has .i64 n) (hm : IntKind.has .i64 m) (t : Bool) :
    Calls Tryz.prog 3 #[.int .i64 n, .int .i64 m, .bool t] W fun e w' => e = .returned (.bool true) ∧ Below W.heap.size W w' := by
  obtain ⟨ι, R, G⟩ := begins (laid := Rows.connLocksRow.laid) (by kernel_rfl) (by kernel_rfl) h
  obtain ⟨σ2, hr⟩ := law_true n m t
  refine (law_calls okC_ (f := p3) (s0 := sg0) sg0_ro hr G R (args := #[.int .i64 n, .int .i64 m, .bool t]) ?_).mono ?_
  · exact .cons (.int _ _ hn) (.cons (.int _ _ hm) (.cons (.bool t) .nil))
  · rintro e w' ⟨v', rfl, ⟨ι', hv⟩, hb⟩
    cases hv
    exact ⟨rfl, hb⟩
theorem wf_has {k : IntKind} {n : Int} (h : (Lit.int k n).wf = true) : k.has n := by
  simp only [Lit.wf, Bool.and_eq_true, decide_eq_true_eq] at h
  exact h
theorem own : ownKnob Tryz.prog.godebug = none := by kernel_rfl
theorem laidOut : laidOutB Tryz.prog = true := by kernel_rfl
theorem laid_met (os : Os) : laidMet Tryz.prog Rows.connLocksRow.laid ((World.laidAll Tryz.prog os Rows.connLocksRow.laid).forCall (fun _ _ => 0) ⟨#[], #[.int .i64 0, .int .i64 0, .bool false], []⟩).memory :=
  laidMet_laidAll _ (by kernel_rfl) (by kernel_rfl)
theorem reads (os : Os) {H : Type} (enc : TypeId × Value → H) : ∃ places, DataW.whole enc Tryz.prog ((World.laidAll Tryz.prog os Rows.connLocksRow.laid).forCall (fun _ _ => 0) ⟨#[], #[.int .i64 0, .int .i64 0, .bool false], []⟩).memory Tryz.f3.params.toList Rows.connLocksSpec.vars false #[Value.int .i64 0, Value.int .i64 0, Value.bool false].toList 8 = some ([.lit (.int .i64 0), .lit (.int .i64 0), .lit (.bool false)], [], places) :=
  ⟨[], by kernel_rfl⟩
theorem lifted (os : Os) (started : os.Started) (H : Type) (enc : TypeId × Value → H) (F : Stop.Interp) :
    ReturnsInHanded {} Tryz.checked os 3 .any ((OpenSpec.ofChange Rows.connLocksSpec).preRow enc Tryz.prog Tryz.f3 Rows.connLocksRow.domain false Rows.connLocksRow.laid) (((OpenSpec.ofChange Rows.connLocksSpec).at F).post enc Tryz.prog Tryz.f3 false true false false) := by
  obtain ⟨places, hx⟩ := reads os enc
  refine returnsInHanded_of_row (C := Tryz.checked) (s := OpenSpec.ofChange Rows.connLocksSpec) own started (by kernel_rfl) Tryz.func3
    (witness_row_atRef (enc := enc) (C := Tryz.checked) false (World.laidAll Tryz.prog os Rows.connLocksRow.laid) #[.int .i64 0, .int .i64 0, .bool false] (World.laidAll_os _ _ _) (by kernel_rfl) (by kernel_rfl) (by kernel_rfl)
      (OpenSpec.preRow_of_cond 8 hx (by kernel_rfl) (fun k hk => by cases hk) (by kernel_rfl) (laid_met os))) ?_
  intro W base args ds gs before hval0 hW _ _ _ hL _ _
  have hval : ∀ (j : Nat) t v, Tryz.f3.params[j]? = some t → args[j]? = some v → Value.okWide Tryz.prog W .any base t v := hval0
  have hW' := hW
  obtain ⟨p, q, hA0, hV, rfl, hfz, hnd⟩ := hW
  have hA : DataW.TrodAll enc Tryz.prog W 0 (fun _ => true) true Tryz.f3.params.toList args.toList ds p := hA0
  rw [Tryz.params3] at hA hval
  obtain ⟨v0, vs0, d0, ds0, p0, q0, hargs, rfl, rfl, h0, r0⟩ := trodAll_cons hA
  obtain ⟨v1, vs1, d1, ds1, p1, q1, rfl, rfl, rfl, h1, r1⟩ := trodAll_cons r0
  obtain ⟨v2, vs2, d2, ds2, p2, q2, rfl, rfl, rfl, h2, r2⟩ := trodAll_cons r1
  obtain ⟨rfl, rfl, rfl⟩ := trodAll_nil r2
  obtain rfl : args = #[v0, v1, v2] := by cases args; simp_all
  obtain ⟨rfl, rfl⟩ := trodVars_none hV
  obtain ⟨n, rfl, rfl, rfl, wn⟩ := open_int Tryz.underlying3 (hval 0 3 v0 rfl rfl) h0
  obtain ⟨m, rfl, rfl, rfl, wm⟩ := open_int Tryz.underlying3 (hval 1 3 v1 rfl rfl) h1
  obtain ⟨t, rfl, rfl, rfl⟩ := open_bool Tryz.underlying4 (hval 2 4 v2 rfl rfl) h2
  clear hA0 hval0
  simp only [List.append_nil] at hW'
  refine (law_walk hL n m ?_ ?_ t).mono fun e W' ⟨he, hb⟩ => ?_
  · exact wf_has wn
  · exact wf_has wm
  subst he
  exact ⟨_, rfl, post_of_below (pa := []) (pv := []) hW' (fun _ _ _ => trodAll_mk1 (shut_bool Tryz.underlying4 _)) (fun sp _ => trodAll_cons_mk (shut_int Tryz.underlying3 wn) (trodAll_cons_mk (shut_int Tryz.underlying3 wm) (trodAll_mk1 (shut_bool Tryz.underlying4 _)))) (fun _ _ => rfl) rfl hb
    (ok_one (by kernel_rfl) rfl (okWide_bool_mk Tryz.underlying4 _))⟩
theorem said : Rows.ConnLocksSaid :=
  OpenClaim.holds_of_cond 3 Tryz.f3 rfl rfl rfl rfl rfl rfl rfl ⟨rfl, rfl, rfl, rfl, rfl⟩ rfl rfl rfl rfl rfl (by kernel_rfl) Tryz.func3 (by kernel_rfl)
    (of_decide_eq_true (by kernel_rfl)) (by unfold Func.isWrapper; first | (rw [if_pos (by decide +kernel)]; kernel_rfl) | (rw [if_neg (by decide +kernel)]; exact ⟨rfl, rfl⟩))
    (fun os started H enc _ F => by rw [OpenClaim.pre_eq_preRow]; exact lifted os started H enc F)
theorem plain (f : FuncId) (fn : Func) (hf : Tryz.pinned.checked.prog.funcNamed "sargasso/sargassolaw16.ConnLocks" = some f) (hfn : Tryz.pinned.checked.prog.funcs[f]? = some fn) :
    true = Tryz.pinned.checked.prog.looks [] ∧ ∀ (j : Nat) t, fn.params[j]? = some t → Tryz.pinned.checked.prog.wantsStandIn t = false := by
  obtain rfl : f = 3 := Option.some.inj ((show Tryz.prog.funcNamed "sargasso/sargassolaw16.ConnLocks" = some 3 by kernel_rfl).symm.trans hf) |>.symm
  obtain rfl : fn = Tryz.f3 := (Option.some.inj (Tryz.func3.symm.trans hfn)).symm
  refine ⟨by kernel_rfl, fun j t ht => ?_⟩
  rw [Tryz.params3] at ht
  have hm : t ∈ [3, 3, 4] := by simpa using Array.mem_of_getElem? ht
  have hall : ([3, 3, 4].all fun u => !Tryz.prog.wantsStandIn u) = true := by kernel_rfl
  exact (show Tryz.prog.wantsStandIn t = false by simpa using List.all_eq_true.1 hall t hm)
end Go.Proofs.YtknhohgnilamcaaGreatDoor.Ir
namespace Go.Proofs.YtknhohgnilamcaaGreatDoor
/-- the card -/
theorem connLocks_card : Rows.ConnLocksCardSaid :=
  Claim7.holds_tied_plain_at .later [] _ _ _ _ Ir.said (fun _ h => by cases h) (by kernel_rfl) (fun _ h => by cases h) connLocks_row_tie rfl ⟨rfl, rfl⟩ (by kernel_rfl) rfl Ir.plain (by kernel_rfl)
end Go.Proofs.YtknhohgnilamcaaGreatDoor
#print axioms Go.Proofs.YtknhohgnilamcaaGreatDoor.connLocks_card
