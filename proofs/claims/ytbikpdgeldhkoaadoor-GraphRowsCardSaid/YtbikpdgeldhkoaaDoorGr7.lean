/-
  GraphRows: for all that it may be handed the law answers true, and what came in reads behind it as it read before: the row and its tied card, with no condition of its own.
-/
import Derived.Test.YtbikpdgeldhkoaaDoorGr6
import Derived.Test.YtbikpdgeldhkoaaDoorTie
import Derived.OpenShut
import Derived.SevenTiedAt
import Derived.Stop.Joined
import Derived.Deep.DeepHandedRow
import Derived.WideKeyArgs
import Derived.Deep.DeepWitnessRowRef
import Derived.Test.YtbikpdgeldhkoaaDoorLaw
namespace Go.Proofs.YtbikpdgeldhkoaaDoor.Ir
set_option linter.unusedVariables false
set_option maxRecDepth 100000
open Go Go.Proofs.YtbikpdgeldhkoaaDoor Go.ChangeShapes Go.WideShapes Go.ChangeAt Go.RowKit
theorem law_walk {W : World} (h : laidMetH Tryd.prog Rows.graphRowsRow.laid W) (n0 : Int) (n1 : Int) (n2 : Int) (hn0 : IntKind.has .i64 n0) (hn1 : IntKind.has .i64 n1) (hn2 : IntKind.has .u64 n2) :
    Calls Tryd.prog 5 #[.int .i64 n0, .int .i64 n1, .int .u64 n2] W fun e w' => e = .returned (.bool true) ∧ Below W.heap.size W w' := by
  obtain ⟨ι, R, G⟩ := begins (laid := Rows.graphRowsRow.laid) (by kernel_rfl) (by kernel_rfl) h
  refine (fn_pure okC_ (f := p5) get3 (vs2 := [.int .i64 n0, .int .i64 n1, .int .u64 n2]) (s2 := sg0) (out := .bool true) (Nat.le_of_ble_eq_true rfl) (bare_bool true) R G R (fun p o h => sg0_wr h) (args := #[.int .i64 n0, .int .i64 n1, .int .u64 n2]) ?_ (law_tri W n0 n1 n2 hn0 hn1 hn2 cases_all)).mono ?_
  · exact .cons (.int _ _ hn0) (.cons (.int _ _ hn1) (.cons (.int _ _ hn2) .nil))
  · rintro e w' ⟨ι', v', rfl, hv, h2, h3⟩
    cases hv
    exact ⟨rfl, ⟨h3.os, h3.tape, h3.out, h3.size, fun r hr => h3.keep r hr (fun hi => by obtain ⟨p, o, pl, i1, i2, i3, i4⟩ := hi; rw [sg0_wr i1] at i2; cases i2)⟩⟩
theorem wf_has {k : IntKind} {n : Int} (h : (Lit.int k n).wf = true) : k.has n := by
  simp only [Lit.wf, Bool.and_eq_true, decide_eq_true_eq] at h
  exact h
theorem own : ownKnob Tryd.prog.godebug = none := by kernel_rfl
theorem laidOut : laidOutB Tryd.prog = true := by kernel_rfl
theorem laid_met (os : Os) : laidMet Tryd.prog Rows.graphRowsRow.laid ((World.laidAll Tryd.prog os Rows.graphRowsRow.laid).forCall (fun _ _ => 0) ⟨#[], #[.int .i64 0, .int .i64 0, .int .u64 0], []⟩).memory :=
  laidMet_laidAll _ (by kernel_rfl) (by kernel_rfl)
theorem reads (os : Os) {H : Type} (enc : TypeId × Value → H) : ∃ places, DataW.whole enc Tryd.prog ((World.laidAll Tryd.prog os Rows.graphRowsRow.laid).forCall (fun _ _ => 0) ⟨#[], #[.int .i64 0, .int .i64 0, .int .u64 0], []⟩).memory Tryd.f5.params.toList Rows.graphRowsSpec.vars false #[Value.int .i64 0, Value.int .i64 0, Value.int .u64 0].toList 8 = some ([.lit (.int .i64 0), .lit (.int .i64 0), .lit (.int .u64 0)], [], places) :=
  ⟨[], by kernel_rfl⟩
theorem lifted (os : Os) (started : os.Started) (H : Type) (enc : TypeId × Value → H) (F : Stop.Interp) :
    ReturnsInHanded {} Tryd.checked os 5 .any ((OpenSpec.ofChange Rows.graphRowsSpec).preRow enc Tryd.prog Tryd.f5 Rows.graphRowsRow.domain false Rows.graphRowsRow.laid) (((OpenSpec.ofChange Rows.graphRowsSpec).at F).post enc Tryd.prog Tryd.f5 false true false false) := by
  obtain ⟨places, hx⟩ := reads os enc
  refine returnsInHanded_of_row (C := Tryd.checked) (s := OpenSpec.ofChange Rows.graphRowsSpec) own started (by kernel_rfl) Tryd.func5
    (witness_row_atRef (enc := enc) (C := Tryd.checked) false (World.laidAll Tryd.prog os Rows.graphRowsRow.laid) #[.int .i64 0, .int .i64 0, .int .u64 0] (World.laidAll_os _ _ _) (by kernel_rfl) (by kernel_rfl) (by kernel_rfl)
      (OpenSpec.preRow_of_cond 8 hx (by kernel_rfl) (fun k hk => by cases hk) (by kernel_rfl) (laid_met os))) ?_
  intro W base args ds gs before hval0 hW _ _ _ hL _ _
  have hval : ∀ (j : Nat) t v, Tryd.f5.params[j]? = some t → args[j]? = some v → Value.okWide Tryd.prog W .any base t v := hval0
  have hW' := hW
  obtain ⟨p, q, hA0, hV, rfl, hfz, hnd⟩ := hW
  have hA : DataW.TrodAll enc Tryd.prog W 0 (fun _ => true) true Tryd.f5.params.toList args.toList ds p := hA0
  rw [Tryd.params5] at hA hval
  obtain ⟨v0, vs0, d0, ds0, p0, q0, hargs, rfl, rfl, h0, r0⟩ := trodAll_cons hA
  obtain ⟨v1, vs1, d1, ds1, p1, q1, rfl, rfl, rfl, h1, r1⟩ := trodAll_cons r0
  obtain ⟨v2, vs2, d2, ds2, p2, q2, rfl, rfl, rfl, h2, r2⟩ := trodAll_cons r1
  obtain ⟨rfl, rfl, rfl⟩ := trodAll_nil r2
  obtain rfl : args = #[v0, v1, v2] := by cases args; simp_all
  obtain ⟨rfl, rfl⟩ := trodVars_none hV
  obtain ⟨n0, rfl, rfl, rfl, w0⟩ := open_int Tryd.underlying3 (hval 0 3 v0 rfl rfl) h0
  obtain ⟨n1, rfl, rfl, rfl, w1⟩ := open_int Tryd.underlying3 (hval 1 3 v1 rfl rfl) h1
  obtain ⟨n2, rfl, rfl, rfl, w2⟩ := open_int Tryd.underlying22 (hval 2 22 v2 rfl rfl) h2
  clear hA0 hval0
  simp only [List.append_nil] at hW'
  refine (law_walk hL n0 n1 n2 (wf_has w0) (wf_has w1) (wf_has w2)).mono fun e W' ⟨he, hb⟩ => ?_
  subst he
  exact ⟨_, rfl, post_of_below (pa := []) (pv := []) hW' (fun _ _ _ => trodAll_mk1 (shut_bool Tryd.underlying4 _)) (fun sp _ => trodAll_cons_mk (shut_int Tryd.underlying3 w0) (trodAll_cons_mk (shut_int Tryd.underlying3 w1) (trodAll_mk1 (shut_int Tryd.underlying22 w2)))) (fun _ _ => rfl) rfl hb
    (ok_one (by kernel_rfl) rfl (okWide_bool_mk Tryd.underlying4 _))⟩
theorem said : Rows.GraphRowsSaid :=
  OpenClaim.holds_of_cond 5 Tryd.f5 rfl rfl rfl rfl rfl rfl rfl ⟨rfl, rfl, rfl, rfl, rfl⟩ rfl rfl rfl rfl rfl (by kernel_rfl) Tryd.func5 (by kernel_rfl)
    (of_decide_eq_true (by kernel_rfl)) (by unfold Func.isWrapper; first | (rw [if_pos (by decide +kernel)]; kernel_rfl) | (rw [if_neg (by decide +kernel)]; exact ⟨rfl, rfl⟩))
    (fun os started H enc _ F => by rw [OpenClaim.pre_eq_preRow]; exact lifted os started H enc F)
theorem plain (f : FuncId) (fn : Func) (hf : Tryd.pinned.checked.prog.funcNamed "sargasso/sargassolaw18.GraphRows" = some f) (hfn : Tryd.pinned.checked.prog.funcs[f]? = some fn) :
    true = Tryd.pinned.checked.prog.looks [] ∧ ∀ (j : Nat) t, fn.params[j]? = some t → Tryd.pinned.checked.prog.wantsStandIn t = false := by
  obtain rfl : f = 5 := Option.some.inj ((show Tryd.prog.funcNamed "sargasso/sargassolaw18.GraphRows" = some 5 by kernel_rfl).symm.trans hf) |>.symm
  obtain rfl : fn = Tryd.f5 := (Option.some.inj (Tryd.func5.symm.trans hfn)).symm
  refine ⟨by kernel_rfl, fun j t ht => ?_⟩
  rw [Tryd.params5] at ht
  have hm : t ∈ [3, 3, 22] := by simpa using Array.mem_of_getElem? ht
  have hall : ([3, 3, 22].all fun u => !Tryd.prog.wantsStandIn u) = true := by kernel_rfl
  exact (show Tryd.prog.wantsStandIn t = false by simpa using List.all_eq_true.1 hall t hm)
end Go.Proofs.YtbikpdgeldhkoaaDoor.Ir
namespace Go.Proofs.YtbikpdgeldhkoaaDoor
/-- the card -/
theorem graphRows_card : Rows.GraphRowsCardSaid :=
  Claim7.holds_tied_plain_at .later [] _ _ _ _ Ir.said (fun _ h => by cases h) (by kernel_rfl) (fun _ h => by cases h) graphRows_row_tie rfl ⟨rfl, rfl⟩ (by kernel_rfl) rfl Ir.plain (by kernel_rfl)
end Go.Proofs.YtbikpdgeldhkoaaDoor
#print axioms Go.Proofs.YtbikpdgeldhkoaaDoor.graphRows_card
