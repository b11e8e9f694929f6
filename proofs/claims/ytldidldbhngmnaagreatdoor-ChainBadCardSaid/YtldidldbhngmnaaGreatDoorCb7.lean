/-
  ChainBad: for all that it may be handed the law answers true, and what came in reads behind it as it read before: the row and its tied card, with no condition of its own.
-/
import Derived.Test.YtldidldbhngmnaaGreatDoorCb6
import Derived.Test.YtldidldbhngmnaaGreatDoorTie
import Derived.OpenShut
import Derived.SevenTiedAt
import Derived.Stop.Joined
import Derived.Deep.DeepHandedRow
import Derived.WideKeyArgs
import Derived.Deep.DeepWitnessRowRef
import Derived.Test.YtldidldbhngmnaaGreatDoorEnSix
set_option linter.unusedVariables false
set_option linter.unusedSimpArgs false
set_option linter.unusedSectionVars false
namespace Go.Proofs.YtldidldbhngmnaaGreatDoor.Ir
set_option maxRecDepth 100000
open Go Go.Proofs.YtldidldbhngmnaaGreatDoor Go.ChangeShapes Go.WideShapes Go.ChangeAt Go.RowKit
theorem law_walk {W : World} (h : laidMetH Tryz.prog Rows.chainBadRow.laid W) (n0 : Int) (n1 : Int) (n2 : Int) (hn0 : IntKind.has .i64 n0) (hn1 : IntKind.has .i64 n1) (hn2 : IntKind.has .i64 n2) :
  Calls Tryz.prog 3 #[.int .i64 n0,.int .i64 n1,.int .i64 n2] W fun e w' => e = .returned (.bool true) ∧ Below W.heap.size W w' := by
 obtain ⟨ι,R,G⟩ := begins (laid := Rows.chainBadRow.laid) (by kernel_rfl) (by kernel_rfl) h
 obtain ⟨σ2,hr⟩ := law_true n0 n1 n2
 refine (law_calls okR_ (f := p3) (s0 := sg0) sg0_ro hr G R (args := #[.int .i64 n0,.int .i64 n1,.int .i64 n2]) ?_).mono ?_
 ·exact .cons (.int _ _ hn0) (.cons (.int _ _ hn1) (.cons (.int _ _ hn2) .nil))
 ·rintro e w' ⟨v',rfl,⟨ι',hv⟩,hb⟩
  cases hv
  exact ⟨rfl,hb⟩
theorem wf_has {k : IntKind} {n : Int} (h : (Lit.int k n).wf = true) : k.has n := by
 simp only [Lit.wf,Bool.and_eq_true,decide_eq_true_eq] at h
 exact h
theorem own : ownKnob Tryz.prog.godebug = none := by kernel_rfl
theorem laid_met (os : Os) : laidMet Tryz.prog Rows.chainBadRow.laid ((World.laidAll Tryz.prog os Rows.chainBadRow.laid).forCall (fun _ _ => 0) ⟨#[],#[.int .i64 0,.int .i64 0,.int .i64 0],[]⟩).memory :=
 laidMet_laidAll _ (by kernel_rfl) (by kernel_rfl)
theorem reads (os : Os) {H : Type} (enc : TypeId × Value → H) : ∃ places,DataW.whole enc Tryz.prog ((World.laidAll Tryz.prog os Rows.chainBadRow.laid).forCall (fun _ _ => 0) ⟨#[],#[.int .i64 0,.int .i64 0,.int .i64 0],[]⟩).memory Tryz.f3.params.toList Rows.chainBadSpec.vars false #[Value.int .i64 0,Value.int .i64 0,Value.int .i64 0].toList 8 = some ([.lit (.int .i64 0),.lit (.int .i64 0),.lit (.int .i64 0)],[],places) :=
 ⟨[],by kernel_rfl⟩
theorem lifted (os : Os) (started : os.Started) (H : Type) (enc : TypeId × Value → H) (F : Stop.Interp) :
  ReturnsInHanded {} Tryz.checked os 3 .any ((OpenSpec.ofChange Rows.chainBadSpec).preRow enc Tryz.prog Tryz.f3 Rows.chainBadRow.domain false Rows.chainBadRow.laid) (((OpenSpec.ofChange Rows.chainBadSpec).at F).post enc Tryz.prog Tryz.f3 false true false false) := by
 obtain ⟨places,hx⟩ := reads os enc
 refine returnsInHanded_of_row (C := Tryz.checked) (s := OpenSpec.ofChange Rows.chainBadSpec) own started (by kernel_rfl) Tryz.func3
  (witness_row_atRef (enc := enc) (C := Tryz.checked) false (World.laidAll Tryz.prog os Rows.chainBadRow.laid) #[.int .i64 0,.int .i64 0,.int .i64 0] (World.laidAll_os _ _ _) (by kernel_rfl) (by kernel_rfl) (by kernel_rfl)
   (OpenSpec.preRow_of_cond 8 hx (by kernel_rfl) (fun k hk => by cases hk) (by kernel_rfl) (laid_met os))) ?_
 intro W base args ds gs before hval0 hW _ _ _ hL _ _
 have hval : ∀ (j : Nat) t v,Tryz.f3.params[j]? = some t → args[j]? = some v → Value.okWide Tryz.prog W .any base t v := hval0
 have hW' := hW
 obtain ⟨p,q,hA0,hV,rfl,hfz,hnd⟩ := hW
 have hA : DataW.TrodAll enc Tryz.prog W 0 (fun _ => true) true Tryz.f3.params.toList args.toList ds p := hA0
 rw [Tryz.params3] at hA hval
 obtain ⟨v0,vs0,d0,ds0,p0,q0,hargs,rfl,rfl,h0,r0⟩ := trodAll_cons hA
 obtain ⟨v1,vs1,d1,ds1,p1,q1,rfl,rfl,rfl,h1,r1⟩ := trodAll_cons r0
 obtain ⟨v2,vs2,d2,ds2,p2,q2,rfl,rfl,rfl,h2,r2⟩ := trodAll_cons r1
 obtain ⟨rfl,rfl,rfl⟩ := trodAll_nil r2
 obtain rfl : args = #[v0,v1,v2] := by cases args; simp_all
 obtain ⟨rfl,rfl⟩ := trodVars_none hV
 obtain ⟨n0,rfl,rfl,rfl,w0⟩ := open_int Tryz.underlying3 (hval 0 3 v0 rfl rfl) h0
 obtain ⟨n1,rfl,rfl,rfl,w1⟩ := open_int Tryz.underlying3 (hval 1 3 v1 rfl rfl) h1
 obtain ⟨n2,rfl,rfl,rfl,w2⟩ := open_int Tryz.underlying3 (hval 2 3 v2 rfl rfl) h2
 clear hA0 hval0
 simp only [List.append_nil] at hW'
 refine (law_walk hL n0 n1 n2 (wf_has w0) (wf_has w1) (wf_has w2)).mono fun e W' ⟨he,hb⟩ => ?_
 subst he
 exact ⟨_,rfl,post_of_below (pa := []) (pv := []) hW' (fun _ _ _ => trodAll_mk1 (shut_bool Tryz.underlying4 _)) (fun sp _ => trodAll_cons_mk (shut_int Tryz.underlying3 w0) (trodAll_cons_mk (shut_int Tryz.underlying3 w1) (trodAll_mk1 (shut_int Tryz.underlying3 w2)))) (fun _ _ => rfl) rfl hb
  (ok_one (by kernel_rfl) rfl (okWide_bool_mk Tryz.underlying4 _))⟩
theorem andI {a b : Bool} (h : a = true) (k : b = true) : (a && b) = true := by rw [h,k]; rfl
set_option maxHeartbeats 20000000 in
theorem closed_ : joinedFacts Tryz.pinned.checked.prog 3 Tryz.f3 (OpenSpec.ofChange Rows.chainBadSpec).bare Rows.chainBadRow = true := by
 unfold joinedFacts
 repeat' (with_reducible refine andI ?_ ?_)
 all_goals decide +kernel
theorem said : Rows.ChainBadSaid :=
 OpenClaim.holds_of_cond 3 Tryz.f3 rfl rfl rfl rfl rfl rfl rfl ⟨rfl,rfl,rfl,rfl,rfl⟩ rfl rfl rfl rfl rfl (by kernel_rfl) Tryz.func3 closed_
  (of_decide_eq_true (by kernel_rfl)) (by unfold Func.isWrapper; first | (rw [if_pos (by decide +kernel)]; kernel_rfl) | (rw [if_neg (by decide +kernel)]; exact ⟨rfl,rfl⟩))
  (fun os started H enc _ F => by rw [OpenClaim.pre_eq_preRow]; exact lifted os started H enc F)
theorem plain (f : FuncId) (fn : Func) (hf : Tryz.pinned.checked.prog.funcNamed "sargasso/sargassolaw17.ChainBad" = some f) (hfn : Tryz.pinned.checked.prog.funcs[f]? = some fn) :
  true = Tryz.pinned.checked.prog.looks [] ∧ ∀ (j : Nat) t,fn.params[j]? = some t → Tryz.pinned.checked.prog.wantsStandIn t = false := by
 obtain rfl : f = 3 := Option.some.inj ((show Tryz.prog.funcNamed "sargasso/sargassolaw17.ChainBad" = some 3 by kernel_rfl).symm.trans hf) |>.symm
 obtain rfl : fn = Tryz.f3 := (Option.some.inj (Tryz.func3.symm.trans hfn)).symm
 refine ⟨by kernel_rfl,fun j t ht => ?_⟩
 rw [Tryz.params3] at ht
 have hm : t ∈ [3,3,3] := by simpa using Array.mem_of_getElem? ht
 have hall : ([3,3,3].all fun u => !Tryz.prog.wantsStandIn u) = true := by kernel_rfl
 exact (show Tryz.prog.wantsStandIn t = false by simpa using List.all_eq_true.1 hall t hm)
end Go.Proofs.YtldidldbhngmnaaGreatDoor.Ir
namespace Go.Proofs.YtldidldbhngmnaaGreatDoor
theorem chainBad_card : Rows.ChainBadCardSaid :=
 Claim7.holds_tied_plain_at .later [] _ _ _ _ Ir.said (fun _ h => by cases h) (by kernel_rfl) (fun _ h => by cases h) chainBad_row_tie rfl ⟨rfl,rfl⟩ (by kernel_rfl) rfl Ir.plain (by kernel_rfl)
end Go.Proofs.YtldidldbhngmnaaGreatDoor
