/-
  sargassoref1.Sha, block by block, whatever the message's bytes.
-/
import Derived.Test.YtknhohgnilamcaaDoorShd2
namespace Go.Proofs.YtknhohgnilamcaaDoor.Ir
set_option linter.unusedVariables false
set_option maxRecDepth 100000
open Go Go.Proofs.YtknhohgnilamcaaDoor

noncomputable def rfI : IR := bodyI f43
noncomputable def rfS1 : IR := sndI rfI
noncomputable def rfS2 : IR := sndI rfS1
noncomputable def rfS3 : IR := sndI rfS2
noncomputable def rfS4 : IR := sndI rfS3
noncomputable def rfS5 : IR := sndI rfS4
noncomputable def rfS6 : IR := sndI rfS5
noncomputable def rfS7 : IR := sndI rfS6
noncomputable def rfPre : List IR := [fstI rfI, fstI rfS1, fstI rfS2, fstI rfS3, fstI rfS4, fstI rfS5, fstI rfS6]
noncomputable def rfAT : IR := fstI rfS7
noncomputable def rfEnd : IR := sndI rfS7
theorem rf_shape : rfI = seqL rfPre (.seq rfAT rfEnd) := by kernel_rfl
noncomputable def at0 : IR := fstI rfAT
noncomputable def atB : IR := lopI (blkI (sndI rfAT))
theorem at_shape : rfAT = .seq at0 (.blk 4 (.loop atB)) := by kernel_rfl
noncomputable def atC : IR := fstI atB
noncomputable def atY : IR := blkI (fstI (sndI atB))
noncomputable def atN : IR := sndI (sndI atB)
theorem atB_shape : atB = .seq atC (.seq (.blk 5 atY) atN) := by kernel_rfl
noncomputable def ya : IR := fstI atY
noncomputable def yW : IR := fstI (sndI atY)
noncomputable def yv : IR := fstI (sndI (sndI atY))
noncomputable def yR : IR := fstI (sndI (sndI (sndI atY)))
noncomputable def yA : IR := sndI (sndI (sndI (sndI atY)))
theorem atY_shape : atY = .seq ya (.seq yW (.seq yv (.seq yR yA))) := by kernel_rfl
noncomputable def wI : IR := fstI yW
noncomputable def wB : IR := lopI (blkI (sndI yW))
theorem yW_shape : yW = .seq wI (.blk 6 (.loop wB)) := by kernel_rfl
noncomputable def rI : IR := fstI yR
noncomputable def rB : IR := lopI (blkI (sndI yR))
theorem yR_shape : yR = .seq rI (.blk 8 (.loop rB)) := by kernel_rfl
noncomputable def rpV (t : Nat) (W : Nat → Nat) : Nat := (fun _ : Nat => rnext (W (Nat.sub t 2)) (W (Nat.sub t 7)) (W (Nat.sub t 15)) (W (Nat.sub t 16))) tall60
/-- frames and heaps, by how many blocks there are -/
noncomputable def aF (nb : Nat) (at_ : Int) : T V := T.set (.ptr p61 0) p2 (T.set (.slice p62 0 8 (some 8) 1) p3 (T.set (.slice p63 0 (Nat.mul 64 nb) none 1) p4 (T.set (.slice p64 0 64 (some 64) 1) p7 (T.set (.int .i64 at_) p8 .nil))))
noncomputable def wF (nb : Nat) (at_ : Int) (t : Nat) : T V := T.set (.slice p65 0 64 (some 64) 1) p9 (T.set (.int .i64 (.ofNat t)) p10 (aF nb at_))
noncomputable def rcap (t : Nat) : Option Nat := Nat.rec (motive := fun _ => Option Nat) none (fun _ _ => some 8) t
noncomputable def rF (nb : Nat) (at_ : Int) (t : Nat) : T V := T.set (.slice p66 0 8 (rcap t) 1) p14 (T.set (.int .i64 (.ofNat t)) p15 (T.set (.slice p65 0 64 (some 64) 1) p9 (aF nb at_)))
noncomputable def aH (nb : Nat) (M : Nat → Nat) (h : H8) : T Ob := T.set (.cells (zz (.int .u8 (.ofNat 0)) 32) [] false false) p61 (T.set (.cells (h8V h) [] false false) p62 (T.set (.cells (b8 M (iota (Nat.mul 64 nb) 0)) [] false false) p63 (T.set (.cells (w32 (getN kW) ix64) [] false false) p64 .nil)))
noncomputable def wH (nb : Nat) (M : Nat → Nat) (h : H8) (W : Nat → Nat) : T Ob := T.set (.cells (w32 W ix64) [] false false) p65 (aH nb M h)
noncomputable def rH (nb : Nat) (M : Nat → Nat) (h : H8) (W : Nat → Nat) (x : H8) : T Ob := T.set (.cells (h8V x) [] false false) p66 (wH nb M h W)
noncomputable def aK : List Pos := [p2, p3, p4, p7, p8]
noncomputable def wK : List Pos := [p2, p3, p4, p7, p8, p9, p10]
noncomputable def rK : List Pos := [p2, p3, p4, p7, p8, p9, p14, p15]
noncomputable def a4 : Vw := [(p61, p61), (p62, p62), (p63, p63), (p64, p64)]
noncomputable def a5 : Vw := [(p61, p61), (p62, p62), (p63, p63), (p64, p64), (p65, p65)]
noncomputable def a6 (p : Pos) : Vw := [(p61, p61), (p62, p62), (p63, p63), (p64, p64), (p65, p65), (p66, p)]
noncomputable def slP (v : Option V) : Pos := match v with | some (.slice p _ _ _ _) => p | some (.ptr p _) => p | _ => .H
theorem w_1_0_0 (M : Nat → Nat) (h : H8) (w0 : World) (W : Nat → Nat) (Q : Exit → Act → World → Prop) : Tri Tryd.prog E 282 wB (At gs 282 w0 (wF 1 (.ofNat 0) 0) ⟨wH 1 M h W, p66⟩) (Exit.then (At gs 282 w0 (wF 1 (.ofNat 0) 1) ⟨wH 1 M h (upN W 0 (be (blkB M 0) 0)), p66⟩) Q) :=
  Tri.stepV okA (k := 40) (fuel := 70) (l := a5) (ks := wK) gs_lt' (by kernel_rfl) (by unfold Alike; kernel_rfl) (by kernel_rfl) (by kernel_rfl) (by kernel_rfl)
theorem w_1_0_1 (M : Nat → Nat) (h : H8) (w0 : World) (W : Nat → Nat) (Q : Exit → Act → World → Prop) : Tri Tryd.prog E 282 wB (At gs 282 w0 (wF 1 (.ofNat 0) 1) ⟨wH 1 M h W, p66⟩) (Exit.then (At gs 282 w0 (wF 1 (.ofNat 0) 2) ⟨wH 1 M h (upN W 1 (be (blkB M 0) 1)), p66⟩) Q) :=
  Tri.stepV okA (k := 40) (fuel := 70) (l := a5) (ks := wK) gs_lt' (by kernel_rfl) (by unfold Alike; kernel_rfl) (by kernel_rfl) (by kernel_rfl) (by kernel_rfl)
theorem w_1_0_2 (M : Nat → Nat) (h : H8) (w0 : World) (W : Nat → Nat) (Q : Exit → Act → World → Prop) : Tri Tryd.prog E 282 wB (At gs 282 w0 (wF 1 (.ofNat 0) 2) ⟨wH 1 M h W, p66⟩) (Exit.then (At gs 282 w0 (wF 1 (.ofNat 0) 3) ⟨wH 1 M h (upN W 2 (be (blkB M 0) 2)), p66⟩) Q) :=
  Tri.stepV okA (k := 40) (fuel := 70) (l := a5) (ks := wK) gs_lt' (by kernel_rfl) (by unfold Alike; kernel_rfl) (by kernel_rfl) (by kernel_rfl) (by kernel_rfl)
theorem w_1_0_3 (M : Nat → Nat) (h : H8) (w0 : World) (W : Nat → Nat) (Q : Exit → Act → World → Prop) : Tri Tryd.prog E 282 wB (At gs 282 w0 (wF 1 (.ofNat 0) 3) ⟨wH 1 M h W, p66⟩) (Exit.then (At gs 282 w0 (wF 1 (.ofNat 0) 4) ⟨wH 1 M h (upN W 3 (be (blkB M 0) 3)), p66⟩) Q) :=
  Tri.stepV okA (k := 40) (fuel := 70) (l := a5) (ks := wK) gs_lt' (by kernel_rfl) (by unfold Alike; kernel_rfl) (by kernel_rfl) (by kernel_rfl) (by kernel_rfl)
theorem w_1_0_4 (M : Nat → Nat) (h : H8) (w0 : World) (W : Nat → Nat) (Q : Exit → Act → World → Prop) : Tri Tryd.prog E 282 wB (At gs 282 w0 (wF 1 (.ofNat 0) 4) ⟨wH 1 M h W, p66⟩) (Exit.then (At gs 282 w0 (wF 1 (.ofNat 0) 5) ⟨wH 1 M h (upN W 4 (be (blkB M 0) 4)), p66⟩) Q) :=
  Tri.stepV okA (k := 40) (fuel := 70) (l := a5) (ks := wK) gs_lt' (by kernel_rfl) (by unfold Alike; kernel_rfl) (by kernel_rfl) (by kernel_rfl) (by kernel_rfl)
theorem w_1_0_5 (M : Nat → Nat) (h : H8) (w0 : World) (W : Nat → Nat) (Q : Exit → Act → World → Prop) : Tri Tryd.prog E 282 wB (At gs 282 w0 (wF 1 (.ofNat 0) 5) ⟨wH 1 M h W, p66⟩) (Exit.then (At gs 282 w0 (wF 1 (.ofNat 0) 6) ⟨wH 1 M h (upN W 5 (be (blkB M 0) 5)), p66⟩) Q) :=
  Tri.stepV okA (k := 40) (fuel := 70) (l := a5) (ks := wK) gs_lt' (by kernel_rfl) (by unfold Alike; kernel_rfl) (by kernel_rfl) (by kernel_rfl) (by kernel_rfl)
theorem w_1_0_6 (M : Nat → Nat) (h : H8) (w0 : World) (W : Nat → Nat) (Q : Exit → Act → World → Prop) : Tri Tryd.prog E 282 wB (At gs 282 w0 (wF 1 (.ofNat 0) 6) ⟨wH 1 M h W, p66⟩) (Exit.then (At gs 282 w0 (wF 1 (.ofNat 0) 7) ⟨wH 1 M h (upN W 6 (be (blkB M 0) 6)), p66⟩) Q) :=
  Tri.stepV okA (k := 40) (fuel := 70) (l := a5) (ks := wK) gs_lt' (by kernel_rfl) (by unfold Alike; kernel_rfl) (by kernel_rfl) (by kernel_rfl) (by kernel_rfl)
theorem w_1_0_7 (M : Nat → Nat) (h : H8) (w0 : World) (W : Nat → Nat) (Q : Exit → Act → World → Prop) : Tri Tryd.prog E 282 wB (At gs 282 w0 (wF 1 (.ofNat 0) 7) ⟨wH 1 M h W, p66⟩) (Exit.then (At gs 282 w0 (wF 1 (.ofNat 0) 8) ⟨wH 1 M h (upN W 7 (be (blkB M 0) 7)), p66⟩) Q) :=
  Tri.stepV okA (k := 40) (fuel := 70) (l := a5) (ks := wK) gs_lt' (by kernel_rfl) (by unfold Alike; kernel_rfl) (by kernel_rfl) (by kernel_rfl) (by kernel_rfl)
theorem w_1_0_8 (M : Nat → Nat) (h : H8) (w0 : World) (W : Nat → Nat) (Q : Exit → Act → World → Prop) : Tri Tryd.prog E 282 wB (At gs 282 w0 (wF 1 (.ofNat 0) 8) ⟨wH 1 M h W, p66⟩) (Exit.then (At gs 282 w0 (wF 1 (.ofNat 0) 9) ⟨wH 1 M h (upN W 8 (be (blkB M 0) 8)), p66⟩) Q) :=
  Tri.stepV okA (k := 40) (fuel := 70) (l := a5) (ks := wK) gs_lt' (by kernel_rfl) (by unfold Alike; kernel_rfl) (by kernel_rfl) (by kernel_rfl) (by kernel_rfl)
theorem w_1_0_9 (M : Nat → Nat) (h : H8) (w0 : World) (W : Nat → Nat) (Q : Exit → Act → World → Prop) : Tri Tryd.prog E 282 wB (At gs 282 w0 (wF 1 (.ofNat 0) 9) ⟨wH 1 M h W, p66⟩) (Exit.then (At gs 282 w0 (wF 1 (.ofNat 0) 10) ⟨wH 1 M h (upN W 9 (be (blkB M 0) 9)), p66⟩) Q) :=
  Tri.stepV okA (k := 40) (fuel := 70) (l := a5) (ks := wK) gs_lt' (by kernel_rfl) (by unfold Alike; kernel_rfl) (by kernel_rfl) (by kernel_rfl) (by kernel_rfl)
theorem w_1_0_10 (M : Nat → Nat) (h : H8) (w0 : World) (W : Nat → Nat) (Q : Exit → Act → World → Prop) : Tri Tryd.prog E 282 wB (At gs 282 w0 (wF 1 (.ofNat 0) 10) ⟨wH 1 M h W, p66⟩) (Exit.then (At gs 282 w0 (wF 1 (.ofNat 0) 11) ⟨wH 1 M h (upN W 10 (be (blkB M 0) 10)), p66⟩) Q) :=
  Tri.stepV okA (k := 40) (fuel := 70) (l := a5) (ks := wK) gs_lt' (by kernel_rfl) (by unfold Alike; kernel_rfl) (by kernel_rfl) (by kernel_rfl) (by kernel_rfl)
theorem w_1_0_11 (M : Nat → Nat) (h : H8) (w0 : World) (W : Nat → Nat) (Q : Exit → Act → World → Prop) : Tri Tryd.prog E 282 wB (At gs 282 w0 (wF 1 (.ofNat 0) 11) ⟨wH 1 M h W, p66⟩) (Exit.then (At gs 282 w0 (wF 1 (.ofNat 0) 12) ⟨wH 1 M h (upN W 11 (be (blkB M 0) 11)), p66⟩) Q) :=
  Tri.stepV okA (k := 40) (fuel := 70) (l := a5) (ks := wK) gs_lt' (by kernel_rfl) (by unfold Alike; kernel_rfl) (by kernel_rfl) (by kernel_rfl) (by kernel_rfl)
theorem w_1_0_12 (M : Nat → Nat) (h : H8) (w0 : World) (W : Nat → Nat) (Q : Exit → Act → World → Prop) : Tri Tryd.prog E 282 wB (At gs 282 w0 (wF 1 (.ofNat 0) 12) ⟨wH 1 M h W, p66⟩) (Exit.then (At gs 282 w0 (wF 1 (.ofNat 0) 13) ⟨wH 1 M h (upN W 12 (be (blkB M 0) 12)), p66⟩) Q) :=
  Tri.stepV okA (k := 40) (fuel := 70) (l := a5) (ks := wK) gs_lt' (by kernel_rfl) (by unfold Alike; kernel_rfl) (by kernel_rfl) (by kernel_rfl) (by kernel_rfl)
theorem w_1_0_13 (M : Nat → Nat) (h : H8) (w0 : World) (W : Nat → Nat) (Q : Exit → Act → World → Prop) : Tri Tryd.prog E 282 wB (At gs 282 w0 (wF 1 (.ofNat 0) 13) ⟨wH 1 M h W, p66⟩) (Exit.then (At gs 282 w0 (wF 1 (.ofNat 0) 14) ⟨wH 1 M h (upN W 13 (be (blkB M 0) 13)), p66⟩) Q) :=
  Tri.stepV okA (k := 40) (fuel := 70) (l := a5) (ks := wK) gs_lt' (by kernel_rfl) (by unfold Alike; kernel_rfl) (by kernel_rfl) (by kernel_rfl) (by kernel_rfl)
theorem w_1_0_14 (M : Nat → Nat) (h : H8) (w0 : World) (W : Nat → Nat) (Q : Exit → Act → World → Prop) : Tri Tryd.prog E 282 wB (At gs 282 w0 (wF 1 (.ofNat 0) 14) ⟨wH 1 M h W, p66⟩) (Exit.then (At gs 282 w0 (wF 1 (.ofNat 0) 15) ⟨wH 1 M h (upN W 14 (be (blkB M 0) 14)), p66⟩) Q) :=
  Tri.stepV okA (k := 40) (fuel := 70) (l := a5) (ks := wK) gs_lt' (by kernel_rfl) (by unfold Alike; kernel_rfl) (by kernel_rfl) (by kernel_rfl) (by kernel_rfl)
theorem w_1_0_15 (M : Nat → Nat) (h : H8) (w0 : World) (W : Nat → Nat) (Q : Exit → Act → World → Prop) : Tri Tryd.prog E 282 wB (At gs 282 w0 (wF 1 (.ofNat 0) 15) ⟨wH 1 M h W, p66⟩) (Exit.then (At gs 282 w0 (wF 1 (.ofNat 0) 16) ⟨wH 1 M h (upN W 15 (be (blkB M 0) 15)), p66⟩) Q) :=
  Tri.stepV okA (k := 40) (fuel := 70) (l := a5) (ks := wK) gs_lt' (by kernel_rfl) (by unfold Alike; kernel_rfl) (by kernel_rfl) (by kernel_rfl) (by kernel_rfl)
theorem w_1_16 (M : Nat → Nat) (h : H8) (w0 : World) (at_ : Int) (W : Nat → Nat) (Q : Exit → Act → World → Prop) : Tri Tryd.prog E 282 wB (At gs 282 w0 (wF 1 at_ 16) ⟨wH 1 M h W, p66⟩) (Exit.then (At gs 282 w0 (wF 1 at_ 17) ⟨wH 1 M h (upN W 16 (rpV 16 W)), p66⟩) Q) :=
  Tri.stepV okA (k := 40) (fuel := 70) (l := a5) (ks := wK) gs_lt' (by kernel_rfl) (by unfold Alike; kernel_rfl) (by kernel_rfl) (by kernel_rfl) (by kernel_rfl)
theorem w_1_17 (M : Nat → Nat) (h : H8) (w0 : World) (at_ : Int) (W : Nat → Nat) (Q : Exit → Act → World → Prop) : Tri Tryd.prog E 282 wB (At gs 282 w0 (wF 1 at_ 17) ⟨wH 1 M h W, p66⟩) (Exit.then (At gs 282 w0 (wF 1 at_ 18) ⟨wH 1 M h (upN W 17 (rpV 17 W)), p66⟩) Q) :=
  Tri.stepV okA (k := 40) (fuel := 70) (l := a5) (ks := wK) gs_lt' (by kernel_rfl) (by unfold Alike; kernel_rfl) (by kernel_rfl) (by kernel_rfl) (by kernel_rfl)
theorem w_1_18 (M : Nat → Nat) (h : H8) (w0 : World) (at_ : Int) (W : Nat → Nat) (Q : Exit → Act → World → Prop) : Tri Tryd.prog E 282 wB (At gs 282 w0 (wF 1 at_ 18) ⟨wH 1 M h W, p66⟩) (Exit.then (At gs 282 w0 (wF 1 at_ 19) ⟨wH 1 M h (upN W 18 (rpV 18 W)), p66⟩) Q) :=
  Tri.stepV okA (k := 40) (fuel := 70) (l := a5) (ks := wK) gs_lt' (by kernel_rfl) (by unfold Alike; kernel_rfl) (by kernel_rfl) (by kernel_rfl) (by kernel_rfl)
theorem w_1_19 (M : Nat → Nat) (h : H8) (w0 : World) (at_ : Int) (W : Nat → Nat) (Q : Exit → Act → World → Prop) : Tri Tryd.prog E 282 wB (At gs 282 w0 (wF 1 at_ 19) ⟨wH 1 M h W, p66⟩) (Exit.then (At gs 282 w0 (wF 1 at_ 20) ⟨wH 1 M h (upN W 19 (rpV 19 W)), p66⟩) Q) :=
  Tri.stepV okA (k := 40) (fuel := 70) (l := a5) (ks := wK) gs_lt' (by kernel_rfl) (by unfold Alike; kernel_rfl) (by kernel_rfl) (by kernel_rfl) (by kernel_rfl)
theorem w_1_20 (M : Nat → Nat) (h : H8) (w0 : World) (at_ : Int) (W : Nat → Nat) (Q : Exit → Act → World → Prop) : Tri Tryd.prog E 282 wB (At gs 282 w0 (wF 1 at_ 20) ⟨wH 1 M h W, p66⟩) (Exit.then (At gs 282 w0 (wF 1 at_ 21) ⟨wH 1 M h (upN W 20 (rpV 20 W)), p66⟩) Q) :=
  Tri.stepV okA (k := 40) (fuel := 70) (l := a5) (ks := wK) gs_lt' (by kernel_rfl) (by unfold Alike; kernel_rfl) (by kernel_rfl) (by kernel_rfl) (by kernel_rfl)
theorem w_1_21 (M : Nat → Nat) (h : H8) (w0 : World) (at_ : Int) (W : Nat → Nat) (Q : Exit → Act → World → Prop) : Tri Tryd.prog E 282 wB (At gs 282 w0 (wF 1 at_ 21) ⟨wH 1 M h W, p66⟩) (Exit.then (At gs 282 w0 (wF 1 at_ 22) ⟨wH 1 M h (upN W 21 (rpV 21 W)), p66⟩) Q) :=
  Tri.stepV okA (k := 40) (fuel := 70) (l := a5) (ks := wK) gs_lt' (by kernel_rfl) (by unfold Alike; kernel_rfl) (by kernel_rfl) (by kernel_rfl) (by kernel_rfl)
theorem w_1_22 (M : Nat → Nat) (h : H8) (w0 : World) (at_ : Int) (W : Nat → Nat) (Q : Exit → Act → World → Prop) : Tri Tryd.prog E 282 wB (At gs 282 w0 (wF 1 at_ 22) ⟨wH 1 M h W, p66⟩) (Exit.then (At gs 282 w0 (wF 1 at_ 23) ⟨wH 1 M h (upN W 22 (rpV 22 W)), p66⟩) Q) :=
  Tri.stepV okA (k := 40) (fuel := 70) (l := a5) (ks := wK) gs_lt' (by kernel_rfl) (by unfold Alike; kernel_rfl) (by kernel_rfl) (by kernel_rfl) (by kernel_rfl)
theorem w_1_23 (M : Nat → Nat) (h : H8) (w0 : World) (at_ : Int) (W : Nat → Nat) (Q : Exit → Act → World → Prop) : Tri Tryd.prog E 282 wB (At gs 282 w0 (wF 1 at_ 23) ⟨wH 1 M h W, p66⟩) (Exit.then (At gs 282 w0 (wF 1 at_ 24) ⟨wH 1 M h (upN W 23 (rpV 23 W)), p66⟩) Q) :=
  Tri.stepV okA (k := 40) (fuel := 70) (l := a5) (ks := wK) gs_lt' (by kernel_rfl) (by unfold Alike; kernel_rfl) (by kernel_rfl) (by kernel_rfl) (by kernel_rfl)
theorem w_1_24 (M : Nat → Nat) (h : H8) (w0 : World) (at_ : Int) (W : Nat → Nat) (Q : Exit → Act → World → Prop) : Tri Tryd.prog E 282 wB (At gs 282 w0 (wF 1 at_ 24) ⟨wH 1 M h W, p66⟩) (Exit.then (At gs 282 w0 (wF 1 at_ 25) ⟨wH 1 M h (upN W 24 (rpV 24 W)), p66⟩) Q) :=
  Tri.stepV okA (k := 40) (fuel := 70) (l := a5) (ks := wK) gs_lt' (by kernel_rfl) (by unfold Alike; kernel_rfl) (by kernel_rfl) (by kernel_rfl) (by kernel_rfl)
theorem w_1_25 (M : Nat → Nat) (h : H8) (w0 : World) (at_ : Int) (W : Nat → Nat) (Q : Exit → Act → World → Prop) : Tri Tryd.prog E 282 wB (At gs 282 w0 (wF 1 at_ 25) ⟨wH 1 M h W, p66⟩) (Exit.then (At gs 282 w0 (wF 1 at_ 26) ⟨wH 1 M h (upN W 25 (rpV 25 W)), p66⟩) Q) :=
  Tri.stepV okA (k := 40) (fuel := 70) (l := a5) (ks := wK) gs_lt' (by kernel_rfl) (by unfold Alike; kernel_rfl) (by kernel_rfl) (by kernel_rfl) (by kernel_rfl)
theorem w_1_26 (M : Nat → Nat) (h : H8) (w0 : World) (at_ : Int) (W : Nat → Nat) (Q : Exit → Act → World → Prop) : Tri Tryd.prog E 282 wB (At gs 282 w0 (wF 1 at_ 26) ⟨wH 1 M h W, p66⟩) (Exit.then (At gs 282 w0 (wF 1 at_ 27) ⟨wH 1 M h (upN W 26 (rpV 26 W)), p66⟩) Q) :=
  Tri.stepV okA (k := 40) (fuel := 70) (l := a5) (ks := wK) gs_lt' (by kernel_rfl) (by unfold Alike; kernel_rfl) (by kernel_rfl) (by kernel_rfl) (by kernel_rfl)
theorem w_1_27 (M : Nat → Nat) (h : H8) (w0 : World) (at_ : Int) (W : Nat → Nat) (Q : Exit → Act → World → Prop) : Tri Tryd.prog E 282 wB (At gs 282 w0 (wF 1 at_ 27) ⟨wH 1 M h W, p66⟩) (Exit.then (At gs 282 w0 (wF 1 at_ 28) ⟨wH 1 M h (upN W 27 (rpV 27 W)), p66⟩) Q) :=
  Tri.stepV okA (k := 40) (fuel := 70) (l := a5) (ks := wK) gs_lt' (by kernel_rfl) (by unfold Alike; kernel_rfl) (by kernel_rfl) (by kernel_rfl) (by kernel_rfl)
theorem w_1_28 (M : Nat → Nat) (h : H8) (w0 : World) (at_ : Int) (W : Nat → Nat) (Q : Exit → Act → World → Prop) : Tri Tryd.prog E 282 wB (At gs 282 w0 (wF 1 at_ 28) ⟨wH 1 M h W, p66⟩) (Exit.then (At gs 282 w0 (wF 1 at_ 29) ⟨wH 1 M h (upN W 28 (rpV 28 W)), p66⟩) Q) :=
  Tri.stepV okA (k := 40) (fuel := 70) (l := a5) (ks := wK) gs_lt' (by kernel_rfl) (by unfold Alike; kernel_rfl) (by kernel_rfl) (by kernel_rfl) (by kernel_rfl)
theorem w_1_29 (M : Nat → Nat) (h : H8) (w0 : World) (at_ : Int) (W : Nat → Nat) (Q : Exit → Act → World → Prop) : Tri Tryd.prog E 282 wB (At gs 282 w0 (wF 1 at_ 29) ⟨wH 1 M h W, p66⟩) (Exit.then (At gs 282 w0 (wF 1 at_ 30) ⟨wH 1 M h (upN W 29 (rpV 29 W)), p66⟩) Q) :=
  Tri.stepV okA (k := 40) (fuel := 70) (l := a5) (ks := wK) gs_lt' (by kernel_rfl) (by unfold Alike; kernel_rfl) (by kernel_rfl) (by kernel_rfl) (by kernel_rfl)
theorem w_1_30 (M : Nat → Nat) (h : H8) (w0 : World) (at_ : Int) (W : Nat → Nat) (Q : Exit → Act → World → Prop) : Tri Tryd.prog E 282 wB (At gs 282 w0 (wF 1 at_ 30) ⟨wH 1 M h W, p66⟩) (Exit.then (At gs 282 w0 (wF 1 at_ 31) ⟨wH 1 M h (upN W 30 (rpV 30 W)), p66⟩) Q) :=
  Tri.stepV okA (k := 40) (fuel := 70) (l := a5) (ks := wK) gs_lt' (by kernel_rfl) (by unfold Alike; kernel_rfl) (by kernel_rfl) (by kernel_rfl) (by kernel_rfl)
theorem w_1_31 (M : Nat → Nat) (h : H8) (w0 : World) (at_ : Int) (W : Nat → Nat) (Q : Exit → Act → World → Prop) : Tri Tryd.prog E 282 wB (At gs 282 w0 (wF 1 at_ 31) ⟨wH 1 M h W, p66⟩) (Exit.then (At gs 282 w0 (wF 1 at_ 32) ⟨wH 1 M h (upN W 31 (rpV 31 W)), p66⟩) Q) :=
  Tri.stepV okA (k := 40) (fuel := 70) (l := a5) (ks := wK) gs_lt' (by kernel_rfl) (by unfold Alike; kernel_rfl) (by kernel_rfl) (by kernel_rfl) (by kernel_rfl)
theorem w_1_32 (M : Nat → Nat) (h : H8) (w0 : World) (at_ : Int) (W : Nat → Nat) (Q : Exit → Act → World → Prop) : Tri Tryd.prog E 282 wB (At gs 282 w0 (wF 1 at_ 32) ⟨wH 1 M h W, p66⟩) (Exit.then (At gs 282 w0 (wF 1 at_ 33) ⟨wH 1 M h (upN W 32 (rpV 32 W)), p66⟩) Q) :=
  Tri.stepV okA (k := 40) (fuel := 70) (l := a5) (ks := wK) gs_lt' (by kernel_rfl) (by unfold Alike; kernel_rfl) (by kernel_rfl) (by kernel_rfl) (by kernel_rfl)
theorem w_1_33 (M : Nat → Nat) (h : H8) (w0 : World) (at_ : Int) (W : Nat → Nat) (Q : Exit → Act → World → Prop) : Tri Tryd.prog E 282 wB (At gs 282 w0 (wF 1 at_ 33) ⟨wH 1 M h W, p66⟩) (Exit.then (At gs 282 w0 (wF 1 at_ 34) ⟨wH 1 M h (upN W 33 (rpV 33 W)), p66⟩) Q) :=
  Tri.stepV okA (k := 40) (fuel := 70) (l := a5) (ks := wK) gs_lt' (by kernel_rfl) (by unfold Alike; kernel_rfl) (by kernel_rfl) (by kernel_rfl) (by kernel_rfl)
theorem w_1_34 (M : Nat → Nat) (h : H8) (w0 : World) (at_ : Int) (W : Nat → Nat) (Q : Exit → Act → World → Prop) : Tri Tryd.prog E 282 wB (At gs 282 w0 (wF 1 at_ 34) ⟨wH 1 M h W, p66⟩) (Exit.then (At gs 282 w0 (wF 1 at_ 35) ⟨wH 1 M h (upN W 34 (rpV 34 W)), p66⟩) Q) :=
  Tri.stepV okA (k := 40) (fuel := 70) (l := a5) (ks := wK) gs_lt' (by kernel_rfl) (by unfold Alike; kernel_rfl) (by kernel_rfl) (by kernel_rfl) (by kernel_rfl)
theorem w_1_35 (M : Nat → Nat) (h : H8) (w0 : World) (at_ : Int) (W : Nat → Nat) (Q : Exit → Act → World → Prop) : Tri Tryd.prog E 282 wB (At gs 282 w0 (wF 1 at_ 35) ⟨wH 1 M h W, p66⟩) (Exit.then (At gs 282 w0 (wF 1 at_ 36) ⟨wH 1 M h (upN W 35 (rpV 35 W)), p66⟩) Q) :=
  Tri.stepV okA (k := 40) (fuel := 70) (l := a5) (ks := wK) gs_lt' (by kernel_rfl) (by unfold Alike; kernel_rfl) (by kernel_rfl) (by kernel_rfl) (by kernel_rfl)
theorem w_1_36 (M : Nat → Nat) (h : H8) (w0 : World) (at_ : Int) (W : Nat → Nat) (Q : Exit → Act → World → Prop) : Tri Tryd.prog E 282 wB (At gs 282 w0 (wF 1 at_ 36) ⟨wH 1 M h W, p66⟩) (Exit.then (At gs 282 w0 (wF 1 at_ 37) ⟨wH 1 M h (upN W 36 (rpV 36 W)), p66⟩) Q) :=
  Tri.stepV okA (k := 40) (fuel := 70) (l := a5) (ks := wK) gs_lt' (by kernel_rfl) (by unfold Alike; kernel_rfl) (by kernel_rfl) (by kernel_rfl) (by kernel_rfl)
theorem w_1_37 (M : Nat → Nat) (h : H8) (w0 : World) (at_ : Int) (W : Nat → Nat) (Q : Exit → Act → World → Prop) : Tri Tryd.prog E 282 wB (At gs 282 w0 (wF 1 at_ 37) ⟨wH 1 M h W, p66⟩) (Exit.then (At gs 282 w0 (wF 1 at_ 38) ⟨wH 1 M h (upN W 37 (rpV 37 W)), p66⟩) Q) :=
  Tri.stepV okA (k := 40) (fuel := 70) (l := a5) (ks := wK) gs_lt' (by kernel_rfl) (by unfold Alike; kernel_rfl) (by kernel_rfl) (by kernel_rfl) (by kernel_rfl)
theorem w_1_38 (M : Nat → Nat) (h : H8) (w0 : World) (at_ : Int) (W : Nat → Nat) (Q : Exit → Act → World → Prop) : Tri Tryd.prog E 282 wB (At gs 282 w0 (wF 1 at_ 38) ⟨wH 1 M h W, p66⟩) (Exit.then (At gs 282 w0 (wF 1 at_ 39) ⟨wH 1 M h (upN W 38 (rpV 38 W)), p66⟩) Q) :=
  Tri.stepV okA (k := 40) (fuel := 70) (l := a5) (ks := wK) gs_lt' (by kernel_rfl) (by unfold Alike; kernel_rfl) (by kernel_rfl) (by kernel_rfl) (by kernel_rfl)
theorem w_1_39 (M : Nat → Nat) (h : H8) (w0 : World) (at_ : Int) (W : Nat → Nat) (Q : Exit → Act → World → Prop) : Tri Tryd.prog E 282 wB (At gs 282 w0 (wF 1 at_ 39) ⟨wH 1 M h W, p66⟩) (Exit.then (At gs 282 w0 (wF 1 at_ 40) ⟨wH 1 M h (upN W 39 (rpV 39 W)), p66⟩) Q) :=
  Tri.stepV okA (k := 40) (fuel := 70) (l := a5) (ks := wK) gs_lt' (by kernel_rfl) (by unfold Alike; kernel_rfl) (by kernel_rfl) (by kernel_rfl) (by kernel_rfl)
theorem w_1_40 (M : Nat → Nat) (h : H8) (w0 : World) (at_ : Int) (W : Nat → Nat) (Q : Exit → Act → World → Prop) : Tri Tryd.prog E 282 wB (At gs 282 w0 (wF 1 at_ 40) ⟨wH 1 M h W, p66⟩) (Exit.then (At gs 282 w0 (wF 1 at_ 41) ⟨wH 1 M h (upN W 40 (rpV 40 W)), p66⟩) Q) :=
  Tri.stepV okA (k := 40) (fuel := 70) (l := a5) (ks := wK) gs_lt' (by kernel_rfl) (by unfold Alike; kernel_rfl) (by kernel_rfl) (by kernel_rfl) (by kernel_rfl)
theorem w_1_41 (M : Nat → Nat) (h : H8) (w0 : World) (at_ : Int) (W : Nat → Nat) (Q : Exit → Act → World → Prop) : Tri Tryd.prog E 282 wB (At gs 282 w0 (wF 1 at_ 41) ⟨wH 1 M h W, p66⟩) (Exit.then (At gs 282 w0 (wF 1 at_ 42) ⟨wH 1 M h (upN W 41 (rpV 41 W)), p66⟩) Q) :=
  Tri.stepV okA (k := 40) (fuel := 70) (l := a5) (ks := wK) gs_lt' (by kernel_rfl) (by unfold Alike; kernel_rfl) (by kernel_rfl) (by kernel_rfl) (by kernel_rfl)
theorem w_1_42 (M : Nat → Nat) (h : H8) (w0 : World) (at_ : Int) (W : Nat → Nat) (Q : Exit → Act → World → Prop) : Tri Tryd.prog E 282 wB (At gs 282 w0 (wF 1 at_ 42) ⟨wH 1 M h W, p66⟩) (Exit.then (At gs 282 w0 (wF 1 at_ 43) ⟨wH 1 M h (upN W 42 (rpV 42 W)), p66⟩) Q) :=
  Tri.stepV okA (k := 40) (fuel := 70) (l := a5) (ks := wK) gs_lt' (by kernel_rfl) (by unfold Alike; kernel_rfl) (by kernel_rfl) (by kernel_rfl) (by kernel_rfl)
theorem w_1_43 (M : Nat → Nat) (h : H8) (w0 : World) (at_ : Int) (W : Nat → Nat) (Q : Exit → Act → World → Prop) : Tri Tryd.prog E 282 wB (At gs 282 w0 (wF 1 at_ 43) ⟨wH 1 M h W, p66⟩) (Exit.then (At gs 282 w0 (wF 1 at_ 44) ⟨wH 1 M h (upN W 43 (rpV 43 W)), p66⟩) Q) :=
  Tri.stepV okA (k := 40) (fuel := 70) (l := a5) (ks := wK) gs_lt' (by kernel_rfl) (by unfold Alike; kernel_rfl) (by kernel_rfl) (by kernel_rfl) (by kernel_rfl)
theorem w_1_44 (M : Nat → Nat) (h : H8) (w0 : World) (at_ : Int) (W : Nat → Nat) (Q : Exit → Act → World → Prop) : Tri Tryd.prog E 282 wB (At gs 282 w0 (wF 1 at_ 44) ⟨wH 1 M h W, p66⟩) (Exit.then (At gs 282 w0 (wF 1 at_ 45) ⟨wH 1 M h (upN W 44 (rpV 44 W)), p66⟩) Q) :=
  Tri.stepV okA (k := 40) (fuel := 70) (l := a5) (ks := wK) gs_lt' (by kernel_rfl) (by unfold Alike; kernel_rfl) (by kernel_rfl) (by kernel_rfl) (by kernel_rfl)
theorem w_1_45 (M : Nat → Nat) (h : H8) (w0 : World) (at_ : Int) (W : Nat → Nat) (Q : Exit → Act → World → Prop) : Tri Tryd.prog E 282 wB (At gs 282 w0 (wF 1 at_ 45) ⟨wH 1 M h W, p66⟩) (Exit.then (At gs 282 w0 (wF 1 at_ 46) ⟨wH 1 M h (upN W 45 (rpV 45 W)), p66⟩) Q) :=
  Tri.stepV okA (k := 40) (fuel := 70) (l := a5) (ks := wK) gs_lt' (by kernel_rfl) (by unfold Alike; kernel_rfl) (by kernel_rfl) (by kernel_rfl) (by kernel_rfl)
theorem w_1_46 (M : Nat → Nat) (h : H8) (w0 : World) (at_ : Int) (W : Nat → Nat) (Q : Exit → Act → World → Prop) : Tri Tryd.prog E 282 wB (At gs 282 w0 (wF 1 at_ 46) ⟨wH 1 M h W, p66⟩) (Exit.then (At gs 282 w0 (wF 1 at_ 47) ⟨wH 1 M h (upN W 46 (rpV 46 W)), p66⟩) Q) :=
  Tri.stepV okA (k := 40) (fuel := 70) (l := a5) (ks := wK) gs_lt' (by kernel_rfl) (by unfold Alike; kernel_rfl) (by kernel_rfl) (by kernel_rfl) (by kernel_rfl)
theorem w_1_47 (M : Nat → Nat) (h : H8) (w0 : World) (at_ : Int) (W : Nat → Nat) (Q : Exit → Act → World → Prop) : Tri Tryd.prog E 282 wB (At gs 282 w0 (wF 1 at_ 47) ⟨wH 1 M h W, p66⟩) (Exit.then (At gs 282 w0 (wF 1 at_ 48) ⟨wH 1 M h (upN W 47 (rpV 47 W)), p66⟩) Q) :=
  Tri.stepV okA (k := 40) (fuel := 70) (l := a5) (ks := wK) gs_lt' (by kernel_rfl) (by unfold Alike; kernel_rfl) (by kernel_rfl) (by kernel_rfl) (by kernel_rfl)
theorem w_1_48 (M : Nat → Nat) (h : H8) (w0 : World) (at_ : Int) (W : Nat → Nat) (Q : Exit → Act → World → Prop) : Tri Tryd.prog E 282 wB (At gs 282 w0 (wF 1 at_ 48) ⟨wH 1 M h W, p66⟩) (Exit.then (At gs 282 w0 (wF 1 at_ 49) ⟨wH 1 M h (upN W 48 (rpV 48 W)), p66⟩) Q) :=
  Tri.stepV okA (k := 40) (fuel := 70) (l := a5) (ks := wK) gs_lt' (by kernel_rfl) (by unfold Alike; kernel_rfl) (by kernel_rfl) (by kernel_rfl) (by kernel_rfl)
theorem w_1_49 (M : Nat → Nat) (h : H8) (w0 : World) (at_ : Int) (W : Nat → Nat) (Q : Exit → Act → World → Prop) : Tri Tryd.prog E 282 wB (At gs 282 w0 (wF 1 at_ 49) ⟨wH 1 M h W, p66⟩) (Exit.then (At gs 282 w0 (wF 1 at_ 50) ⟨wH 1 M h (upN W 49 (rpV 49 W)), p66⟩) Q) :=
  Tri.stepV okA (k := 40) (fuel := 70) (l := a5) (ks := wK) gs_lt' (by kernel_rfl) (by unfold Alike; kernel_rfl) (by kernel_rfl) (by kernel_rfl) (by kernel_rfl)
theorem w_1_50 (M : Nat → Nat) (h : H8) (w0 : World) (at_ : Int) (W : Nat → Nat) (Q : Exit → Act → World → Prop) : Tri Tryd.prog E 282 wB (At gs 282 w0 (wF 1 at_ 50) ⟨wH 1 M h W, p66⟩) (Exit.then (At gs 282 w0 (wF 1 at_ 51) ⟨wH 1 M h (upN W 50 (rpV 50 W)), p66⟩) Q) :=
  Tri.stepV okA (k := 40) (fuel := 70) (l := a5) (ks := wK) gs_lt' (by kernel_rfl) (by unfold Alike; kernel_rfl) (by kernel_rfl) (by kernel_rfl) (by kernel_rfl)
theorem w_1_51 (M : Nat → Nat) (h : H8) (w0 : World) (at_ : Int) (W : Nat → Nat) (Q : Exit → Act → World → Prop) : Tri Tryd.prog E 282 wB (At gs 282 w0 (wF 1 at_ 51) ⟨wH 1 M h W, p66⟩) (Exit.then (At gs 282 w0 (wF 1 at_ 52) ⟨wH 1 M h (upN W 51 (rpV 51 W)), p66⟩) Q) :=
  Tri.stepV okA (k := 40) (fuel := 70) (l := a5) (ks := wK) gs_lt' (by kernel_rfl) (by unfold Alike; kernel_rfl) (by kernel_rfl) (by kernel_rfl) (by kernel_rfl)
theorem w_1_52 (M : Nat → Nat) (h : H8) (w0 : World) (at_ : Int) (W : Nat → Nat) (Q : Exit → Act → World → Prop) : Tri Tryd.prog E 282 wB (At gs 282 w0 (wF 1 at_ 52) ⟨wH 1 M h W, p66⟩) (Exit.then (At gs 282 w0 (wF 1 at_ 53) ⟨wH 1 M h (upN W 52 (rpV 52 W)), p66⟩) Q) :=
  Tri.stepV okA (k := 40) (fuel := 70) (l := a5) (ks := wK) gs_lt' (by kernel_rfl) (by unfold Alike; kernel_rfl) (by kernel_rfl) (by kernel_rfl) (by kernel_rfl)
theorem w_1_53 (M : Nat → Nat) (h : H8) (w0 : World) (at_ : Int) (W : Nat → Nat) (Q : Exit → Act → World → Prop) : Tri Tryd.prog E 282 wB (At gs 282 w0 (wF 1 at_ 53) ⟨wH 1 M h W, p66⟩) (Exit.then (At gs 282 w0 (wF 1 at_ 54) ⟨wH 1 M h (upN W 53 (rpV 53 W)), p66⟩) Q) :=
  Tri.stepV okA (k := 40) (fuel := 70) (l := a5) (ks := wK) gs_lt' (by kernel_rfl) (by unfold Alike; kernel_rfl) (by kernel_rfl) (by kernel_rfl) (by kernel_rfl)
theorem w_1_54 (M : Nat → Nat) (h : H8) (w0 : World) (at_ : Int) (W : Nat → Nat) (Q : Exit → Act → World → Prop) : Tri Tryd.prog E 282 wB (At gs 282 w0 (wF 1 at_ 54) ⟨wH 1 M h W, p66⟩) (Exit.then (At gs 282 w0 (wF 1 at_ 55) ⟨wH 1 M h (upN W 54 (rpV 54 W)), p66⟩) Q) :=
  Tri.stepV okA (k := 40) (fuel := 70) (l := a5) (ks := wK) gs_lt' (by kernel_rfl) (by unfold Alike; kernel_rfl) (by kernel_rfl) (by kernel_rfl) (by kernel_rfl)
theorem w_1_55 (M : Nat → Nat) (h : H8) (w0 : World) (at_ : Int) (W : Nat → Nat) (Q : Exit → Act → World → Prop) : Tri Tryd.prog E 282 wB (At gs 282 w0 (wF 1 at_ 55) ⟨wH 1 M h W, p66⟩) (Exit.then (At gs 282 w0 (wF 1 at_ 56) ⟨wH 1 M h (upN W 55 (rpV 55 W)), p66⟩) Q) :=
  Tri.stepV okA (k := 40) (fuel := 70) (l := a5) (ks := wK) gs_lt' (by kernel_rfl) (by unfold Alike; kernel_rfl) (by kernel_rfl) (by kernel_rfl) (by kernel_rfl)
theorem w_1_56 (M : Nat → Nat) (h : H8) (w0 : World) (at_ : Int) (W : Nat → Nat) (Q : Exit → Act → World → Prop) : Tri Tryd.prog E 282 wB (At gs 282 w0 (wF 1 at_ 56) ⟨wH 1 M h W, p66⟩) (Exit.then (At gs 282 w0 (wF 1 at_ 57) ⟨wH 1 M h (upN W 56 (rpV 56 W)), p66⟩) Q) :=
  Tri.stepV okA (k := 40) (fuel := 70) (l := a5) (ks := wK) gs_lt' (by kernel_rfl) (by unfold Alike; kernel_rfl) (by kernel_rfl) (by kernel_rfl) (by kernel_rfl)
theorem w_1_57 (M : Nat → Nat) (h : H8) (w0 : World) (at_ : Int) (W : Nat → Nat) (Q : Exit → Act → World → Prop) : Tri Tryd.prog E 282 wB (At gs 282 w0 (wF 1 at_ 57) ⟨wH 1 M h W, p66⟩) (Exit.then (At gs 282 w0 (wF 1 at_ 58) ⟨wH 1 M h (upN W 57 (rpV 57 W)), p66⟩) Q) :=
  Tri.stepV okA (k := 40) (fuel := 70) (l := a5) (ks := wK) gs_lt' (by kernel_rfl) (by unfold Alike; kernel_rfl) (by kernel_rfl) (by kernel_rfl) (by kernel_rfl)
theorem w_1_58 (M : Nat → Nat) (h : H8) (w0 : World) (at_ : Int) (W : Nat → Nat) (Q : Exit → Act → World → Prop) : Tri Tryd.prog E 282 wB (At gs 282 w0 (wF 1 at_ 58) ⟨wH 1 M h W, p66⟩) (Exit.then (At gs 282 w0 (wF 1 at_ 59) ⟨wH 1 M h (upN W 58 (rpV 58 W)), p66⟩) Q) :=
  Tri.stepV okA (k := 40) (fuel := 70) (l := a5) (ks := wK) gs_lt' (by kernel_rfl) (by unfold Alike; kernel_rfl) (by kernel_rfl) (by kernel_rfl) (by kernel_rfl)
theorem w_1_59 (M : Nat → Nat) (h : H8) (w0 : World) (at_ : Int) (W : Nat → Nat) (Q : Exit → Act → World → Prop) : Tri Tryd.prog E 282 wB (At gs 282 w0 (wF 1 at_ 59) ⟨wH 1 M h W, p66⟩) (Exit.then (At gs 282 w0 (wF 1 at_ 60) ⟨wH 1 M h (upN W 59 (rpV 59 W)), p66⟩) Q) :=
  Tri.stepV okA (k := 40) (fuel := 70) (l := a5) (ks := wK) gs_lt' (by kernel_rfl) (by unfold Alike; kernel_rfl) (by kernel_rfl) (by kernel_rfl) (by kernel_rfl)
theorem w_1_60 (M : Nat → Nat) (h : H8) (w0 : World) (at_ : Int) (W : Nat → Nat) (Q : Exit → Act → World → Prop) : Tri Tryd.prog E 282 wB (At gs 282 w0 (wF 1 at_ 60) ⟨wH 1 M h W, p66⟩) (Exit.then (At gs 282 w0 (wF 1 at_ 61) ⟨wH 1 M h (upN W 60 (rpV 60 W)), p66⟩) Q) :=
  Tri.stepV okA (k := 40) (fuel := 70) (l := a5) (ks := wK) gs_lt' (by kernel_rfl) (by unfold Alike; kernel_rfl) (by kernel_rfl) (by kernel_rfl) (by kernel_rfl)
theorem w_1_61 (M : Nat → Nat) (h : H8) (w0 : World) (at_ : Int) (W : Nat → Nat) (Q : Exit → Act → World → Prop) : Tri Tryd.prog E 282 wB (At gs 282 w0 (wF 1 at_ 61) ⟨wH 1 M h W, p66⟩) (Exit.then (At gs 282 w0 (wF 1 at_ 62) ⟨wH 1 M h (upN W 61 (rpV 61 W)), p66⟩) Q) :=
  Tri.stepV okA (k := 40) (fuel := 70) (l := a5) (ks := wK) gs_lt' (by kernel_rfl) (by unfold Alike; kernel_rfl) (by kernel_rfl) (by kernel_rfl) (by kernel_rfl)
theorem w_1_62 (M : Nat → Nat) (h : H8) (w0 : World) (at_ : Int) (W : Nat → Nat) (Q : Exit → Act → World → Prop) : Tri Tryd.prog E 282 wB (At gs 282 w0 (wF 1 at_ 62) ⟨wH 1 M h W, p66⟩) (Exit.then (At gs 282 w0 (wF 1 at_ 63) ⟨wH 1 M h (upN W 62 (rpV 62 W)), p66⟩) Q) :=
  Tri.stepV okA (k := 40) (fuel := 70) (l := a5) (ks := wK) gs_lt' (by kernel_rfl) (by unfold Alike; kernel_rfl) (by kernel_rfl) (by kernel_rfl) (by kernel_rfl)
theorem w_1_63 (M : Nat → Nat) (h : H8) (w0 : World) (at_ : Int) (W : Nat → Nat) (Q : Exit → Act → World → Prop) : Tri Tryd.prog E 282 wB (At gs 282 w0 (wF 1 at_ 63) ⟨wH 1 M h W, p66⟩) (Exit.then (At gs 282 w0 (wF 1 at_ 64) ⟨wH 1 M h (upN W 63 (rpV 63 W)), p66⟩) Q) :=
  Tri.stepV okA (k := 40) (fuel := 70) (l := a5) (ks := wK) gs_lt' (by kernel_rfl) (by unfold Alike; kernel_rfl) (by kernel_rfl) (by kernel_rfl) (by kernel_rfl)
theorem wv_1_0 (M : Nat → Nat) (h : H8) (w0 : World) (W : Nat → Nat) (Q : Exit → Act → World → Prop) (hW : ∀ t, 16 ≤ t → rpV t W = wnext (W (t - 2)) (W (t - 7)) (W (t - 15)) (W (t - 16))) : ∀ t, t < 64 → Tri Tryd.prog E 282 wB (At gs 282 w0 (wF 1 (.ofNat 0) t) ⟨wH 1 M h W, p66⟩) (Exit.then (At gs 282 w0 (wF 1 (.ofNat 0) (t + 1)) ⟨wH 1 M h (upN W t (Bool.rec (motive := fun _ => Nat) (wnext (W (t - 2)) (W (t - 7)) (W (t - 15)) (W (t - 16))) (be (blkB M 0) t) (Nat.blt t 16))), p66⟩) Q)
  | 0, _ => w_1_0_0 M h w0 W Q
  | 1, _ => w_1_0_1 M h w0 W Q
  | 2, _ => w_1_0_2 M h w0 W Q
  | 3, _ => w_1_0_3 M h w0 W Q
  | 4, _ => w_1_0_4 M h w0 W Q
  | 5, _ => w_1_0_5 M h w0 W Q
  | 6, _ => w_1_0_6 M h w0 W Q
  | 7, _ => w_1_0_7 M h w0 W Q
  | 8, _ => w_1_0_8 M h w0 W Q
  | 9, _ => w_1_0_9 M h w0 W Q
  | 10, _ => w_1_0_10 M h w0 W Q
  | 11, _ => w_1_0_11 M h w0 W Q
  | 12, _ => w_1_0_12 M h w0 W Q
  | 13, _ => w_1_0_13 M h w0 W Q
  | 14, _ => w_1_0_14 M h w0 W Q
  | 15, _ => w_1_0_15 M h w0 W Q
  | 16, _ => by have := w_1_16 M h w0 (.ofNat 0) W Q; rw [hW 16 (by omega)] at this; exact this
  | 17, _ => by have := w_1_17 M h w0 (.ofNat 0) W Q; rw [hW 17 (by omega)] at this; exact this
  | 18, _ => by have := w_1_18 M h w0 (.ofNat 0) W Q; rw [hW 18 (by omega)] at this; exact this
  | 19, _ => by have := w_1_19 M h w0 (.ofNat 0) W Q; rw [hW 19 (by omega)] at this; exact this
  | 20, _ => by have := w_1_20 M h w0 (.ofNat 0) W Q; rw [hW 20 (by omega)] at this; exact this
  | 21, _ => by have := w_1_21 M h w0 (.ofNat 0) W Q; rw [hW 21 (by omega)] at this; exact this
  | 22, _ => by have := w_1_22 M h w0 (.ofNat 0) W Q; rw [hW 22 (by omega)] at this; exact this
  | 23, _ => by have := w_1_23 M h w0 (.ofNat 0) W Q; rw [hW 23 (by omega)] at this; exact this
  | 24, _ => by have := w_1_24 M h w0 (.ofNat 0) W Q; rw [hW 24 (by omega)] at this; exact this
  | 25, _ => by have := w_1_25 M h w0 (.ofNat 0) W Q; rw [hW 25 (by omega)] at this; exact this
  | 26, _ => by have := w_1_26 M h w0 (.ofNat 0) W Q; rw [hW 26 (by omega)] at this; exact this
  | 27, _ => by have := w_1_27 M h w0 (.ofNat 0) W Q; rw [hW 27 (by omega)] at this; exact this
  | 28, _ => by have := w_1_28 M h w0 (.ofNat 0) W Q; rw [hW 28 (by omega)] at this; exact this
  | 29, _ => by have := w_1_29 M h w0 (.ofNat 0) W Q; rw [hW 29 (by omega)] at this; exact this
  | 30, _ => by have := w_1_30 M h w0 (.ofNat 0) W Q; rw [hW 30 (by omega)] at this; exact this
  | 31, _ => by have := w_1_31 M h w0 (.ofNat 0) W Q; rw [hW 31 (by omega)] at this; exact this
  | 32, _ => by have := w_1_32 M h w0 (.ofNat 0) W Q; rw [hW 32 (by omega)] at this; exact this
  | 33, _ => by have := w_1_33 M h w0 (.ofNat 0) W Q; rw [hW 33 (by omega)] at this; exact this
  | 34, _ => by have := w_1_34 M h w0 (.ofNat 0) W Q; rw [hW 34 (by omega)] at this; exact this
  | 35, _ => by have := w_1_35 M h w0 (.ofNat 0) W Q; rw [hW 35 (by omega)] at this; exact this
  | 36, _ => by have := w_1_36 M h w0 (.ofNat 0) W Q; rw [hW 36 (by omega)] at this; exact this
  | 37, _ => by have := w_1_37 M h w0 (.ofNat 0) W Q; rw [hW 37 (by omega)] at this; exact this
  | 38, _ => by have := w_1_38 M h w0 (.ofNat 0) W Q; rw [hW 38 (by omega)] at this; exact this
  | 39, _ => by have := w_1_39 M h w0 (.ofNat 0) W Q; rw [hW 39 (by omega)] at this; exact this
  | 40, _ => by have := w_1_40 M h w0 (.ofNat 0) W Q; rw [hW 40 (by omega)] at this; exact this
  | 41, _ => by have := w_1_41 M h w0 (.ofNat 0) W Q; rw [hW 41 (by omega)] at this; exact this
  | 42, _ => by have := w_1_42 M h w0 (.ofNat 0) W Q; rw [hW 42 (by omega)] at this; exact this
  | 43, _ => by have := w_1_43 M h w0 (.ofNat 0) W Q; rw [hW 43 (by omega)] at this; exact this
  | 44, _ => by have := w_1_44 M h w0 (.ofNat 0) W Q; rw [hW 44 (by omega)] at this; exact this
  | 45, _ => by have := w_1_45 M h w0 (.ofNat 0) W Q; rw [hW 45 (by omega)] at this; exact this
  | 46, _ => by have := w_1_46 M h w0 (.ofNat 0) W Q; rw [hW 46 (by omega)] at this; exact this
  | 47, _ => by have := w_1_47 M h w0 (.ofNat 0) W Q; rw [hW 47 (by omega)] at this; exact this
  | 48, _ => by have := w_1_48 M h w0 (.ofNat 0) W Q; rw [hW 48 (by omega)] at this; exact this
  | 49, _ => by have := w_1_49 M h w0 (.ofNat 0) W Q; rw [hW 49 (by omega)] at this; exact this
  | 50, _ => by have := w_1_50 M h w0 (.ofNat 0) W Q; rw [hW 50 (by omega)] at this; exact this
  | 51, _ => by have := w_1_51 M h w0 (.ofNat 0) W Q; rw [hW 51 (by omega)] at this; exact this
  | 52, _ => by have := w_1_52 M h w0 (.ofNat 0) W Q; rw [hW 52 (by omega)] at this; exact this
  | 53, _ => by have := w_1_53 M h w0 (.ofNat 0) W Q; rw [hW 53 (by omega)] at this; exact this
  | 54, _ => by have := w_1_54 M h w0 (.ofNat 0) W Q; rw [hW 54 (by omega)] at this; exact this
  | 55, _ => by have := w_1_55 M h w0 (.ofNat 0) W Q; rw [hW 55 (by omega)] at this; exact this
  | 56, _ => by have := w_1_56 M h w0 (.ofNat 0) W Q; rw [hW 56 (by omega)] at this; exact this
  | 57, _ => by have := w_1_57 M h w0 (.ofNat 0) W Q; rw [hW 57 (by omega)] at this; exact this
  | 58, _ => by have := w_1_58 M h w0 (.ofNat 0) W Q; rw [hW 58 (by omega)] at this; exact this
  | 59, _ => by have := w_1_59 M h w0 (.ofNat 0) W Q; rw [hW 59 (by omega)] at this; exact this
  | 60, _ => by have := w_1_60 M h w0 (.ofNat 0) W Q; rw [hW 60 (by omega)] at this; exact this
  | 61, _ => by have := w_1_61 M h w0 (.ofNat 0) W Q; rw [hW 61 (by omega)] at this; exact this
  | 62, _ => by have := w_1_62 M h w0 (.ofNat 0) W Q; rw [hW 62 (by omega)] at this; exact this
  | 63, _ => by have := w_1_63 M h w0 (.ofNat 0) W Q; rw [hW 63 (by omega)] at this; exact this
  | t + 64, h => by omega
theorem wl_1_0 (M : Nat → Nat) (h : H8) (w0 : World) (Q : Exit → Act → World → Prop) : Tri Tryd.prog E 282 (.blk 6 (.loop wB)) (At gs 282 w0 (wF 1 (.ofNat 0) 0) ⟨wH 1 M h (wAt (blkB M 0) 0), p66⟩) (Exit.then (At gs 282 w0 (wF 1 (.ofNat 0) 64) ⟨wH 1 M h (wAt (blkB M 0) 64), p66⟩) Q) :=
  Tri.blk (Tri.loop (I := fun t => At gs 282 w0 (wF 1 (.ofNat 0) t) ⟨wH 1 M h (wAt (blkB M 0) t), p66⟩) 64
    (fun t ht => by
      have h1 := wv_1_0 M h w0 (wAt (blkB M 0) t) (Exit.inBlock 6 (Exit.then (At gs 282 w0 (wF 1 (.ofNat 0) 64) ⟨wH 1 M h (wAt (blkB M 0) 64), p66⟩) Q)) (fun t _ => rnext_eq _ _ _ _) t ht
      rw [wAt_succ (blkB M 0) t rfl] at h1
      exact h1)
    (Tri.lastV okA (k := 40) (fuel := 70) (l := a5) (ks := wK) gs_lt' (by kernel_rfl) (by unfold Alike; kernel_rfl) (by kernel_rfl) (by kernel_rfl) (by kernel_rfl) (fun _ _ h => h)))
theorem r_1_0 (M : Nat → Nat) (h : H8) (w0 : World) (at_ : Int) (W : Nat → Nat) (x : H8) (Q : Exit → Act → World → Prop) : Tri Tryd.prog E 282 rB (At gs 282 w0 (rF 1 at_ 0) ⟨rH 1 M h W x, p67⟩) (Exit.then (At gs 282 w0 (rF 1 at_ 1) ⟨rH 1 M h W (rndR (getN kW 0) (W 0) x), p67⟩) Q) :=
  Tri.stepV okA (k := 40) (fuel := 70) (l := (a6 (slP (T.get p14 (rA (xr machA 40 70 rB (rF 1 (.ofNat 0) 0) ⟨rH 1 (fun _ => 0) h8zero (fun _ => 0) h8zero, p67⟩)))))) (ks := rK) gs_lt' (by kernel_rfl) (by unfold Alike; kernel_rfl) (by kernel_rfl) (by kernel_rfl) (by kernel_rfl)
theorem r_1_1 (M : Nat → Nat) (h : H8) (w0 : World) (at_ : Int) (W : Nat → Nat) (x : H8) (Q : Exit → Act → World → Prop) : Tri Tryd.prog E 282 rB (At gs 282 w0 (rF 1 at_ 1) ⟨rH 1 M h W x, p67⟩) (Exit.then (At gs 282 w0 (rF 1 at_ 2) ⟨rH 1 M h W (rndR (getN kW 1) (W 1) x), p67⟩) Q) :=
  Tri.stepV okA (k := 40) (fuel := 70) (l := (a6 (slP (T.get p14 (rA (xr machA 40 70 rB (rF 1 (.ofNat 0) 1) ⟨rH 1 (fun _ => 0) h8zero (fun _ => 0) h8zero, p67⟩)))))) (ks := rK) gs_lt' (by kernel_rfl) (by unfold Alike; kernel_rfl) (by kernel_rfl) (by kernel_rfl) (by kernel_rfl)
theorem r_1_2 (M : Nat → Nat) (h : H8) (w0 : World) (at_ : Int) (W : Nat → Nat) (x : H8) (Q : Exit → Act → World → Prop) : Tri Tryd.prog E 282 rB (At gs 282 w0 (rF 1 at_ 2) ⟨rH 1 M h W x, p67⟩) (Exit.then (At gs 282 w0 (rF 1 at_ 3) ⟨rH 1 M h W (rndR (getN kW 2) (W 2) x), p67⟩) Q) :=
  Tri.stepV okA (k := 40) (fuel := 70) (l := (a6 (slP (T.get p14 (rA (xr machA 40 70 rB (rF 1 (.ofNat 0) 2) ⟨rH 1 (fun _ => 0) h8zero (fun _ => 0) h8zero, p67⟩)))))) (ks := rK) gs_lt' (by kernel_rfl) (by unfold Alike; kernel_rfl) (by kernel_rfl) (by kernel_rfl) (by kernel_rfl)
theorem r_1_3 (M : Nat → Nat) (h : H8) (w0 : World) (at_ : Int) (W : Nat → Nat) (x : H8) (Q : Exit → Act → World → Prop) : Tri Tryd.prog E 282 rB (At gs 282 w0 (rF 1 at_ 3) ⟨rH 1 M h W x, p67⟩) (Exit.then (At gs 282 w0 (rF 1 at_ 4) ⟨rH 1 M h W (rndR (getN kW 3) (W 3) x), p67⟩) Q) :=
  Tri.stepV okA (k := 40) (fuel := 70) (l := (a6 (slP (T.get p14 (rA (xr machA 40 70 rB (rF 1 (.ofNat 0) 3) ⟨rH 1 (fun _ => 0) h8zero (fun _ => 0) h8zero, p67⟩)))))) (ks := rK) gs_lt' (by kernel_rfl) (by unfold Alike; kernel_rfl) (by kernel_rfl) (by kernel_rfl) (by kernel_rfl)
theorem r_1_4 (M : Nat → Nat) (h : H8) (w0 : World) (at_ : Int) (W : Nat → Nat) (x : H8) (Q : Exit → Act → World → Prop) : Tri Tryd.prog E 282 rB (At gs 282 w0 (rF 1 at_ 4) ⟨rH 1 M h W x, p67⟩) (Exit.then (At gs 282 w0 (rF 1 at_ 5) ⟨rH 1 M h W (rndR (getN kW 4) (W 4) x), p67⟩) Q) :=
  Tri.stepV okA (k := 40) (fuel := 70) (l := (a6 (slP (T.get p14 (rA (xr machA 40 70 rB (rF 1 (.ofNat 0) 4) ⟨rH 1 (fun _ => 0) h8zero (fun _ => 0) h8zero, p67⟩)))))) (ks := rK) gs_lt' (by kernel_rfl) (by unfold Alike; kernel_rfl) (by kernel_rfl) (by kernel_rfl) (by kernel_rfl)
theorem r_1_5 (M : Nat → Nat) (h : H8) (w0 : World) (at_ : Int) (W : Nat → Nat) (x : H8) (Q : Exit → Act → World → Prop) : Tri Tryd.prog E 282 rB (At gs 282 w0 (rF 1 at_ 5) ⟨rH 1 M h W x, p67⟩) (Exit.then (At gs 282 w0 (rF 1 at_ 6) ⟨rH 1 M h W (rndR (getN kW 5) (W 5) x), p67⟩) Q) :=
  Tri.stepV okA (k := 40) (fuel := 70) (l := (a6 (slP (T.get p14 (rA (xr machA 40 70 rB (rF 1 (.ofNat 0) 5) ⟨rH 1 (fun _ => 0) h8zero (fun _ => 0) h8zero, p67⟩)))))) (ks := rK) gs_lt' (by kernel_rfl) (by unfold Alike; kernel_rfl) (by kernel_rfl) (by kernel_rfl) (by kernel_rfl)
theorem r_1_6 (M : Nat → Nat) (h : H8) (w0 : World) (at_ : Int) (W : Nat → Nat) (x : H8) (Q : Exit → Act → World → Prop) : Tri Tryd.prog E 282 rB (At gs 282 w0 (rF 1 at_ 6) ⟨rH 1 M h W x, p67⟩) (Exit.then (At gs 282 w0 (rF 1 at_ 7) ⟨rH 1 M h W (rndR (getN kW 6) (W 6) x), p67⟩) Q) :=
  Tri.stepV okA (k := 40) (fuel := 70) (l := (a6 (slP (T.get p14 (rA (xr machA 40 70 rB (rF 1 (.ofNat 0) 6) ⟨rH 1 (fun _ => 0) h8zero (fun _ => 0) h8zero, p67⟩)))))) (ks := rK) gs_lt' (by kernel_rfl) (by unfold Alike; kernel_rfl) (by kernel_rfl) (by kernel_rfl) (by kernel_rfl)
theorem r_1_7 (M : Nat → Nat) (h : H8) (w0 : World) (at_ : Int) (W : Nat → Nat) (x : H8) (Q : Exit → Act → World → Prop) : Tri Tryd.prog E 282 rB (At gs 282 w0 (rF 1 at_ 7) ⟨rH 1 M h W x, p67⟩) (Exit.then (At gs 282 w0 (rF 1 at_ 8) ⟨rH 1 M h W (rndR (getN kW 7) (W 7) x), p67⟩) Q) :=
  Tri.stepV okA (k := 40) (fuel := 70) (l := (a6 (slP (T.get p14 (rA (xr machA 40 70 rB (rF 1 (.ofNat 0) 7) ⟨rH 1 (fun _ => 0) h8zero (fun _ => 0) h8zero, p67⟩)))))) (ks := rK) gs_lt' (by kernel_rfl) (by unfold Alike; kernel_rfl) (by kernel_rfl) (by kernel_rfl) (by kernel_rfl)
theorem r_1_8 (M : Nat → Nat) (h : H8) (w0 : World) (at_ : Int) (W : Nat → Nat) (x : H8) (Q : Exit → Act → World → Prop) : Tri Tryd.prog E 282 rB (At gs 282 w0 (rF 1 at_ 8) ⟨rH 1 M h W x, p67⟩) (Exit.then (At gs 282 w0 (rF 1 at_ 9) ⟨rH 1 M h W (rndR (getN kW 8) (W 8) x), p67⟩) Q) :=
  Tri.stepV okA (k := 40) (fuel := 70) (l := (a6 (slP (T.get p14 (rA (xr machA 40 70 rB (rF 1 (.ofNat 0) 8) ⟨rH 1 (fun _ => 0) h8zero (fun _ => 0) h8zero, p67⟩)))))) (ks := rK) gs_lt' (by kernel_rfl) (by unfold Alike; kernel_rfl) (by kernel_rfl) (by kernel_rfl) (by kernel_rfl)
theorem r_1_9 (M : Nat → Nat) (h : H8) (w0 : World) (at_ : Int) (W : Nat → Nat) (x : H8) (Q : Exit → Act → World → Prop) : Tri Tryd.prog E 282 rB (At gs 282 w0 (rF 1 at_ 9) ⟨rH 1 M h W x, p67⟩) (Exit.then (At gs 282 w0 (rF 1 at_ 10) ⟨rH 1 M h W (rndR (getN kW 9) (W 9) x), p67⟩) Q) :=
  Tri.stepV okA (k := 40) (fuel := 70) (l := (a6 (slP (T.get p14 (rA (xr machA 40 70 rB (rF 1 (.ofNat 0) 9) ⟨rH 1 (fun _ => 0) h8zero (fun _ => 0) h8zero, p67⟩)))))) (ks := rK) gs_lt' (by kernel_rfl) (by unfold Alike; kernel_rfl) (by kernel_rfl) (by kernel_rfl) (by kernel_rfl)
theorem r_1_10 (M : Nat → Nat) (h : H8) (w0 : World) (at_ : Int) (W : Nat → Nat) (x : H8) (Q : Exit → Act → World → Prop) : Tri Tryd.prog E 282 rB (At gs 282 w0 (rF 1 at_ 10) ⟨rH 1 M h W x, p67⟩) (Exit.then (At gs 282 w0 (rF 1 at_ 11) ⟨rH 1 M h W (rndR (getN kW 10) (W 10) x), p67⟩) Q) :=
  Tri.stepV okA (k := 40) (fuel := 70) (l := (a6 (slP (T.get p14 (rA (xr machA 40 70 rB (rF 1 (.ofNat 0) 10) ⟨rH 1 (fun _ => 0) h8zero (fun _ => 0) h8zero, p67⟩)))))) (ks := rK) gs_lt' (by kernel_rfl) (by unfold Alike; kernel_rfl) (by kernel_rfl) (by kernel_rfl) (by kernel_rfl)
theorem r_1_11 (M : Nat → Nat) (h : H8) (w0 : World) (at_ : Int) (W : Nat → Nat) (x : H8) (Q : Exit → Act → World → Prop) : Tri Tryd.prog E 282 rB (At gs 282 w0 (rF 1 at_ 11) ⟨rH 1 M h W x, p67⟩) (Exit.then (At gs 282 w0 (rF 1 at_ 12) ⟨rH 1 M h W (rndR (getN kW 11) (W 11) x), p67⟩) Q) :=
  Tri.stepV okA (k := 40) (fuel := 70) (l := (a6 (slP (T.get p14 (rA (xr machA 40 70 rB (rF 1 (.ofNat 0) 11) ⟨rH 1 (fun _ => 0) h8zero (fun _ => 0) h8zero, p67⟩)))))) (ks := rK) gs_lt' (by kernel_rfl) (by unfold Alike; kernel_rfl) (by kernel_rfl) (by kernel_rfl) (by kernel_rfl)
theorem r_1_12 (M : Nat → Nat) (h : H8) (w0 : World) (at_ : Int) (W : Nat → Nat) (x : H8) (Q : Exit → Act → World → Prop) : Tri Tryd.prog E 282 rB (At gs 282 w0 (rF 1 at_ 12) ⟨rH 1 M h W x, p67⟩) (Exit.then (At gs 282 w0 (rF 1 at_ 13) ⟨rH 1 M h W (rndR (getN kW 12) (W 12) x), p67⟩) Q) :=
  Tri.stepV okA (k := 40) (fuel := 70) (l := (a6 (slP (T.get p14 (rA (xr machA 40 70 rB (rF 1 (.ofNat 0) 12) ⟨rH 1 (fun _ => 0) h8zero (fun _ => 0) h8zero, p67⟩)))))) (ks := rK) gs_lt' (by kernel_rfl) (by unfold Alike; kernel_rfl) (by kernel_rfl) (by kernel_rfl) (by kernel_rfl)
theorem r_1_13 (M : Nat → Nat) (h : H8) (w0 : World) (at_ : Int) (W : Nat → Nat) (x : H8) (Q : Exit → Act → World → Prop) : Tri Tryd.prog E 282 rB (At gs 282 w0 (rF 1 at_ 13) ⟨rH 1 M h W x, p67⟩) (Exit.then (At gs 282 w0 (rF 1 at_ 14) ⟨rH 1 M h W (rndR (getN kW 13) (W 13) x), p67⟩) Q) :=
  Tri.stepV okA (k := 40) (fuel := 70) (l := (a6 (slP (T.get p14 (rA (xr machA 40 70 rB (rF 1 (.ofNat 0) 13) ⟨rH 1 (fun _ => 0) h8zero (fun _ => 0) h8zero, p67⟩)))))) (ks := rK) gs_lt' (by kernel_rfl) (by unfold Alike; kernel_rfl) (by kernel_rfl) (by kernel_rfl) (by kernel_rfl)
theorem r_1_14 (M : Nat → Nat) (h : H8) (w0 : World) (at_ : Int) (W : Nat → Nat) (x : H8) (Q : Exit → Act → World → Prop) : Tri Tryd.prog E 282 rB (At gs 282 w0 (rF 1 at_ 14) ⟨rH 1 M h W x, p67⟩) (Exit.then (At gs 282 w0 (rF 1 at_ 15) ⟨rH 1 M h W (rndR (getN kW 14) (W 14) x), p67⟩) Q) :=
  Tri.stepV okA (k := 40) (fuel := 70) (l := (a6 (slP (T.get p14 (rA (xr machA 40 70 rB (rF 1 (.ofNat 0) 14) ⟨rH 1 (fun _ => 0) h8zero (fun _ => 0) h8zero, p67⟩)))))) (ks := rK) gs_lt' (by kernel_rfl) (by unfold Alike; kernel_rfl) (by kernel_rfl) (by kernel_rfl) (by kernel_rfl)
theorem r_1_15 (M : Nat → Nat) (h : H8) (w0 : World) (at_ : Int) (W : Nat → Nat) (x : H8) (Q : Exit → Act → World → Prop) : Tri Tryd.prog E 282 rB (At gs 282 w0 (rF 1 at_ 15) ⟨rH 1 M h W x, p67⟩) (Exit.then (At gs 282 w0 (rF 1 at_ 16) ⟨rH 1 M h W (rndR (getN kW 15) (W 15) x), p67⟩) Q) :=
  Tri.stepV okA (k := 40) (fuel := 70) (l := (a6 (slP (T.get p14 (rA (xr machA 40 70 rB (rF 1 (.ofNat 0) 15) ⟨rH 1 (fun _ => 0) h8zero (fun _ => 0) h8zero, p67⟩)))))) (ks := rK) gs_lt' (by kernel_rfl) (by unfold Alike; kernel_rfl) (by kernel_rfl) (by kernel_rfl) (by kernel_rfl)
theorem r_1_16 (M : Nat → Nat) (h : H8) (w0 : World) (at_ : Int) (W : Nat → Nat) (x : H8) (Q : Exit → Act → World → Prop) : Tri Tryd.prog E 282 rB (At gs 282 w0 (rF 1 at_ 16) ⟨rH 1 M h W x, p67⟩) (Exit.then (At gs 282 w0 (rF 1 at_ 17) ⟨rH 1 M h W (rndR (getN kW 16) (W 16) x), p67⟩) Q) :=
  Tri.stepV okA (k := 40) (fuel := 70) (l := (a6 (slP (T.get p14 (rA (xr machA 40 70 rB (rF 1 (.ofNat 0) 16) ⟨rH 1 (fun _ => 0) h8zero (fun _ => 0) h8zero, p67⟩)))))) (ks := rK) gs_lt' (by kernel_rfl) (by unfold Alike; kernel_rfl) (by kernel_rfl) (by kernel_rfl) (by kernel_rfl)
theorem r_1_17 (M : Nat → Nat) (h : H8) (w0 : World) (at_ : Int) (W : Nat → Nat) (x : H8) (Q : Exit → Act → World → Prop) : Tri Tryd.prog E 282 rB (At gs 282 w0 (rF 1 at_ 17) ⟨rH 1 M h W x, p67⟩) (Exit.then (At gs 282 w0 (rF 1 at_ 18) ⟨rH 1 M h W (rndR (getN kW 17) (W 17) x), p67⟩) Q) :=
  Tri.stepV okA (k := 40) (fuel := 70) (l := (a6 (slP (T.get p14 (rA (xr machA 40 70 rB (rF 1 (.ofNat 0) 17) ⟨rH 1 (fun _ => 0) h8zero (fun _ => 0) h8zero, p67⟩)))))) (ks := rK) gs_lt' (by kernel_rfl) (by unfold Alike; kernel_rfl) (by kernel_rfl) (by kernel_rfl) (by kernel_rfl)
theorem r_1_18 (M : Nat → Nat) (h : H8) (w0 : World) (at_ : Int) (W : Nat → Nat) (x : H8) (Q : Exit → Act → World → Prop) : Tri Tryd.prog E 282 rB (At gs 282 w0 (rF 1 at_ 18) ⟨rH 1 M h W x, p67⟩) (Exit.then (At gs 282 w0 (rF 1 at_ 19) ⟨rH 1 M h W (rndR (getN kW 18) (W 18) x), p67⟩) Q) :=
  Tri.stepV okA (k := 40) (fuel := 70) (l := (a6 (slP (T.get p14 (rA (xr machA 40 70 rB (rF 1 (.ofNat 0) 18) ⟨rH 1 (fun _ => 0) h8zero (fun _ => 0) h8zero, p67⟩)))))) (ks := rK) gs_lt' (by kernel_rfl) (by unfold Alike; kernel_rfl) (by kernel_rfl) (by kernel_rfl) (by kernel_rfl)
theorem r_1_19 (M : Nat → Nat) (h : H8) (w0 : World) (at_ : Int) (W : Nat → Nat) (x : H8) (Q : Exit → Act → World → Prop) : Tri Tryd.prog E 282 rB (At gs 282 w0 (rF 1 at_ 19) ⟨rH 1 M h W x, p67⟩) (Exit.then (At gs 282 w0 (rF 1 at_ 20) ⟨rH 1 M h W (rndR (getN kW 19) (W 19) x), p67⟩) Q) :=
  Tri.stepV okA (k := 40) (fuel := 70) (l := (a6 (slP (T.get p14 (rA (xr machA 40 70 rB (rF 1 (.ofNat 0) 19) ⟨rH 1 (fun _ => 0) h8zero (fun _ => 0) h8zero, p67⟩)))))) (ks := rK) gs_lt' (by kernel_rfl) (by unfold Alike; kernel_rfl) (by kernel_rfl) (by kernel_rfl) (by kernel_rfl)
theorem r_1_20 (M : Nat → Nat) (h : H8) (w0 : World) (at_ : Int) (W : Nat → Nat) (x : H8) (Q : Exit → Act → World → Prop) : Tri Tryd.prog E 282 rB (At gs 282 w0 (rF 1 at_ 20) ⟨rH 1 M h W x, p67⟩) (Exit.then (At gs 282 w0 (rF 1 at_ 21) ⟨rH 1 M h W (rndR (getN kW 20) (W 20) x), p67⟩) Q) :=
  Tri.stepV okA (k := 40) (fuel := 70) (l := (a6 (slP (T.get p14 (rA (xr machA 40 70 rB (rF 1 (.ofNat 0) 20) ⟨rH 1 (fun _ => 0) h8zero (fun _ => 0) h8zero, p67⟩)))))) (ks := rK) gs_lt' (by kernel_rfl) (by unfold Alike; kernel_rfl) (by kernel_rfl) (by kernel_rfl) (by kernel_rfl)
theorem r_1_21 (M : Nat → Nat) (h : H8) (w0 : World) (at_ : Int) (W : Nat → Nat) (x : H8) (Q : Exit → Act → World → Prop) : Tri Tryd.prog E 282 rB (At gs 282 w0 (rF 1 at_ 21) ⟨rH 1 M h W x, p67⟩) (Exit.then (At gs 282 w0 (rF 1 at_ 22) ⟨rH 1 M h W (rndR (getN kW 21) (W 21) x), p67⟩) Q) :=
  Tri.stepV okA (k := 40) (fuel := 70) (l := (a6 (slP (T.get p14 (rA (xr machA 40 70 rB (rF 1 (.ofNat 0) 21) ⟨rH 1 (fun _ => 0) h8zero (fun _ => 0) h8zero, p67⟩)))))) (ks := rK) gs_lt' (by kernel_rfl) (by unfold Alike; kernel_rfl) (by kernel_rfl) (by kernel_rfl) (by kernel_rfl)
theorem r_1_22 (M : Nat → Nat) (h : H8) (w0 : World) (at_ : Int) (W : Nat → Nat) (x : H8) (Q : Exit → Act → World → Prop) : Tri Tryd.prog E 282 rB (At gs 282 w0 (rF 1 at_ 22) ⟨rH 1 M h W x, p67⟩) (Exit.then (At gs 282 w0 (rF 1 at_ 23) ⟨rH 1 M h W (rndR (getN kW 22) (W 22) x), p67⟩) Q) :=
  Tri.stepV okA (k := 40) (fuel := 70) (l := (a6 (slP (T.get p14 (rA (xr machA 40 70 rB (rF 1 (.ofNat 0) 22) ⟨rH 1 (fun _ => 0) h8zero (fun _ => 0) h8zero, p67⟩)))))) (ks := rK) gs_lt' (by kernel_rfl) (by unfold Alike; kernel_rfl) (by kernel_rfl) (by kernel_rfl) (by kernel_rfl)
theorem r_1_23 (M : Nat → Nat) (h : H8) (w0 : World) (at_ : Int) (W : Nat → Nat) (x : H8) (Q : Exit → Act → World → Prop) : Tri Tryd.prog E 282 rB (At gs 282 w0 (rF 1 at_ 23) ⟨rH 1 M h W x, p67⟩) (Exit.then (At gs 282 w0 (rF 1 at_ 24) ⟨rH 1 M h W (rndR (getN kW 23) (W 23) x), p67⟩) Q) :=
  Tri.stepV okA (k := 40) (fuel := 70) (l := (a6 (slP (T.get p14 (rA (xr machA 40 70 rB (rF 1 (.ofNat 0) 23) ⟨rH 1 (fun _ => 0) h8zero (fun _ => 0) h8zero, p67⟩)))))) (ks := rK) gs_lt' (by kernel_rfl) (by unfold Alike; kernel_rfl) (by kernel_rfl) (by kernel_rfl) (by kernel_rfl)
theorem r_1_24 (M : Nat → Nat) (h : H8) (w0 : World) (at_ : Int) (W : Nat → Nat) (x : H8) (Q : Exit → Act → World → Prop) : Tri Tryd.prog E 282 rB (At gs 282 w0 (rF 1 at_ 24) ⟨rH 1 M h W x, p67⟩) (Exit.then (At gs 282 w0 (rF 1 at_ 25) ⟨rH 1 M h W (rndR (getN kW 24) (W 24) x), p67⟩) Q) :=
  Tri.stepV okA (k := 40) (fuel := 70) (l := (a6 (slP (T.get p14 (rA (xr machA 40 70 rB (rF 1 (.ofNat 0) 24) ⟨rH 1 (fun _ => 0) h8zero (fun _ => 0) h8zero, p67⟩)))))) (ks := rK) gs_lt' (by kernel_rfl) (by unfold Alike; kernel_rfl) (by kernel_rfl) (by kernel_rfl) (by kernel_rfl)
theorem r_1_25 (M : Nat → Nat) (h : H8) (w0 : World) (at_ : Int) (W : Nat → Nat) (x : H8) (Q : Exit → Act → World → Prop) : Tri Tryd.prog E 282 rB (At gs 282 w0 (rF 1 at_ 25) ⟨rH 1 M h W x, p67⟩) (Exit.then (At gs 282 w0 (rF 1 at_ 26) ⟨rH 1 M h W (rndR (getN kW 25) (W 25) x), p67⟩) Q) :=
  Tri.stepV okA (k := 40) (fuel := 70) (l := (a6 (slP (T.get p14 (rA (xr machA 40 70 rB (rF 1 (.ofNat 0) 25) ⟨rH 1 (fun _ => 0) h8zero (fun _ => 0) h8zero, p67⟩)))))) (ks := rK) gs_lt' (by kernel_rfl) (by unfold Alike; kernel_rfl) (by kernel_rfl) (by kernel_rfl) (by kernel_rfl)
theorem r_1_26 (M : Nat → Nat) (h : H8) (w0 : World) (at_ : Int) (W : Nat → Nat) (x : H8) (Q : Exit → Act → World → Prop) : Tri Tryd.prog E 282 rB (At gs 282 w0 (rF 1 at_ 26) ⟨rH 1 M h W x, p67⟩) (Exit.then (At gs 282 w0 (rF 1 at_ 27) ⟨rH 1 M h W (rndR (getN kW 26) (W 26) x), p67⟩) Q) :=
  Tri.stepV okA (k := 40) (fuel := 70) (l := (a6 (slP (T.get p14 (rA (xr machA 40 70 rB (rF 1 (.ofNat 0) 26) ⟨rH 1 (fun _ => 0) h8zero (fun _ => 0) h8zero, p67⟩)))))) (ks := rK) gs_lt' (by kernel_rfl) (by unfold Alike; kernel_rfl) (by kernel_rfl) (by kernel_rfl) (by kernel_rfl)
theorem r_1_27 (M : Nat → Nat) (h : H8) (w0 : World) (at_ : Int) (W : Nat → Nat) (x : H8) (Q : Exit → Act → World → Prop) : Tri Tryd.prog E 282 rB (At gs 282 w0 (rF 1 at_ 27) ⟨rH 1 M h W x, p67⟩) (Exit.then (At gs 282 w0 (rF 1 at_ 28) ⟨rH 1 M h W (rndR (getN kW 27) (W 27) x), p67⟩) Q) :=
  Tri.stepV okA (k := 40) (fuel := 70) (l := (a6 (slP (T.get p14 (rA (xr machA 40 70 rB (rF 1 (.ofNat 0) 27) ⟨rH 1 (fun _ => 0) h8zero (fun _ => 0) h8zero, p67⟩)))))) (ks := rK) gs_lt' (by kernel_rfl) (by unfold Alike; kernel_rfl) (by kernel_rfl) (by kernel_rfl) (by kernel_rfl)
theorem r_1_28 (M : Nat → Nat) (h : H8) (w0 : World) (at_ : Int) (W : Nat → Nat) (x : H8) (Q : Exit → Act → World → Prop) : Tri Tryd.prog E 282 rB (At gs 282 w0 (rF 1 at_ 28) ⟨rH 1 M h W x, p67⟩) (Exit.then (At gs 282 w0 (rF 1 at_ 29) ⟨rH 1 M h W (rndR (getN kW 28) (W 28) x), p67⟩) Q) :=
  Tri.stepV okA (k := 40) (fuel := 70) (l := (a6 (slP (T.get p14 (rA (xr machA 40 70 rB (rF 1 (.ofNat 0) 28) ⟨rH 1 (fun _ => 0) h8zero (fun _ => 0) h8zero, p67⟩)))))) (ks := rK) gs_lt' (by kernel_rfl) (by unfold Alike; kernel_rfl) (by kernel_rfl) (by kernel_rfl) (by kernel_rfl)
theorem r_1_29 (M : Nat → Nat) (h : H8) (w0 : World) (at_ : Int) (W : Nat → Nat) (x : H8) (Q : Exit → Act → World → Prop) : Tri Tryd.prog E 282 rB (At gs 282 w0 (rF 1 at_ 29) ⟨rH 1 M h W x, p67⟩) (Exit.then (At gs 282 w0 (rF 1 at_ 30) ⟨rH 1 M h W (rndR (getN kW 29) (W 29) x), p67⟩) Q) :=
  Tri.stepV okA (k := 40) (fuel := 70) (l := (a6 (slP (T.get p14 (rA (xr machA 40 70 rB (rF 1 (.ofNat 0) 29) ⟨rH 1 (fun _ => 0) h8zero (fun _ => 0) h8zero, p67⟩)))))) (ks := rK) gs_lt' (by kernel_rfl) (by unfold Alike; kernel_rfl) (by kernel_rfl) (by kernel_rfl) (by kernel_rfl)
theorem r_1_30 (M : Nat → Nat) (h : H8) (w0 : World) (at_ : Int) (W : Nat → Nat) (x : H8) (Q : Exit → Act → World → Prop) : Tri Tryd.prog E 282 rB (At gs 282 w0 (rF 1 at_ 30) ⟨rH 1 M h W x, p67⟩) (Exit.then (At gs 282 w0 (rF 1 at_ 31) ⟨rH 1 M h W (rndR (getN kW 30) (W 30) x), p67⟩) Q) :=
  Tri.stepV okA (k := 40) (fuel := 70) (l := (a6 (slP (T.get p14 (rA (xr machA 40 70 rB (rF 1 (.ofNat 0) 30) ⟨rH 1 (fun _ => 0) h8zero (fun _ => 0) h8zero, p67⟩)))))) (ks := rK) gs_lt' (by kernel_rfl) (by unfold Alike; kernel_rfl) (by kernel_rfl) (by kernel_rfl) (by kernel_rfl)
theorem r_1_31 (M : Nat → Nat) (h : H8) (w0 : World) (at_ : Int) (W : Nat → Nat) (x : H8) (Q : Exit → Act → World → Prop) : Tri Tryd.prog E 282 rB (At gs 282 w0 (rF 1 at_ 31) ⟨rH 1 M h W x, p67⟩) (Exit.then (At gs 282 w0 (rF 1 at_ 32) ⟨rH 1 M h W (rndR (getN kW 31) (W 31) x), p67⟩) Q) :=
  Tri.stepV okA (k := 40) (fuel := 70) (l := (a6 (slP (T.get p14 (rA (xr machA 40 70 rB (rF 1 (.ofNat 0) 31) ⟨rH 1 (fun _ => 0) h8zero (fun _ => 0) h8zero, p67⟩)))))) (ks := rK) gs_lt' (by kernel_rfl) (by unfold Alike; kernel_rfl) (by kernel_rfl) (by kernel_rfl) (by kernel_rfl)
theorem r_1_32 (M : Nat → Nat) (h : H8) (w0 : World) (at_ : Int) (W : Nat → Nat) (x : H8) (Q : Exit → Act → World → Prop) : Tri Tryd.prog E 282 rB (At gs 282 w0 (rF 1 at_ 32) ⟨rH 1 M h W x, p67⟩) (Exit.then (At gs 282 w0 (rF 1 at_ 33) ⟨rH 1 M h W (rndR (getN kW 32) (W 32) x), p67⟩) Q) :=
  Tri.stepV okA (k := 40) (fuel := 70) (l := (a6 (slP (T.get p14 (rA (xr machA 40 70 rB (rF 1 (.ofNat 0) 32) ⟨rH 1 (fun _ => 0) h8zero (fun _ => 0) h8zero, p67⟩)))))) (ks := rK) gs_lt' (by kernel_rfl) (by unfold Alike; kernel_rfl) (by kernel_rfl) (by kernel_rfl) (by kernel_rfl)
theorem r_1_33 (M : Nat → Nat) (h : H8) (w0 : World) (at_ : Int) (W : Nat → Nat) (x : H8) (Q : Exit → Act → World → Prop) : Tri Tryd.prog E 282 rB (At gs 282 w0 (rF 1 at_ 33) ⟨rH 1 M h W x, p67⟩) (Exit.then (At gs 282 w0 (rF 1 at_ 34) ⟨rH 1 M h W (rndR (getN kW 33) (W 33) x), p67⟩) Q) :=
  Tri.stepV okA (k := 40) (fuel := 70) (l := (a6 (slP (T.get p14 (rA (xr machA 40 70 rB (rF 1 (.ofNat 0) 33) ⟨rH 1 (fun _ => 0) h8zero (fun _ => 0) h8zero, p67⟩)))))) (ks := rK) gs_lt' (by kernel_rfl) (by unfold Alike; kernel_rfl) (by kernel_rfl) (by kernel_rfl) (by kernel_rfl)
theorem r_1_34 (M : Nat → Nat) (h : H8) (w0 : World) (at_ : Int) (W : Nat → Nat) (x : H8) (Q : Exit → Act → World → Prop) : Tri Tryd.prog E 282 rB (At gs 282 w0 (rF 1 at_ 34) ⟨rH 1 M h W x, p67⟩) (Exit.then (At gs 282 w0 (rF 1 at_ 35) ⟨rH 1 M h W (rndR (getN kW 34) (W 34) x), p67⟩) Q) :=
  Tri.stepV okA (k := 40) (fuel := 70) (l := (a6 (slP (T.get p14 (rA (xr machA 40 70 rB (rF 1 (.ofNat 0) 34) ⟨rH 1 (fun _ => 0) h8zero (fun _ => 0) h8zero, p67⟩)))))) (ks := rK) gs_lt' (by kernel_rfl) (by unfold Alike; kernel_rfl) (by kernel_rfl) (by kernel_rfl) (by kernel_rfl)
theorem r_1_35 (M : Nat → Nat) (h : H8) (w0 : World) (at_ : Int) (W : Nat → Nat) (x : H8) (Q : Exit → Act → World → Prop) : Tri Tryd.prog E 282 rB (At gs 282 w0 (rF 1 at_ 35) ⟨rH 1 M h W x, p67⟩) (Exit.then (At gs 282 w0 (rF 1 at_ 36) ⟨rH 1 M h W (rndR (getN kW 35) (W 35) x), p67⟩) Q) :=
  Tri.stepV okA (k := 40) (fuel := 70) (l := (a6 (slP (T.get p14 (rA (xr machA 40 70 rB (rF 1 (.ofNat 0) 35) ⟨rH 1 (fun _ => 0) h8zero (fun _ => 0) h8zero, p67⟩)))))) (ks := rK) gs_lt' (by kernel_rfl) (by unfold Alike; kernel_rfl) (by kernel_rfl) (by kernel_rfl) (by kernel_rfl)
theorem r_1_36 (M : Nat → Nat) (h : H8) (w0 : World) (at_ : Int) (W : Nat → Nat) (x : H8) (Q : Exit → Act → World → Prop) : Tri Tryd.prog E 282 rB (At gs 282 w0 (rF 1 at_ 36) ⟨rH 1 M h W x, p67⟩) (Exit.then (At gs 282 w0 (rF 1 at_ 37) ⟨rH 1 M h W (rndR (getN kW 36) (W 36) x), p67⟩) Q) :=
  Tri.stepV okA (k := 40) (fuel := 70) (l := (a6 (slP (T.get p14 (rA (xr machA 40 70 rB (rF 1 (.ofNat 0) 36) ⟨rH 1 (fun _ => 0) h8zero (fun _ => 0) h8zero, p67⟩)))))) (ks := rK) gs_lt' (by kernel_rfl) (by unfold Alike; kernel_rfl) (by kernel_rfl) (by kernel_rfl) (by kernel_rfl)
theorem r_1_37 (M : Nat → Nat) (h : H8) (w0 : World) (at_ : Int) (W : Nat → Nat) (x : H8) (Q : Exit → Act → World → Prop) : Tri Tryd.prog E 282 rB (At gs 282 w0 (rF 1 at_ 37) ⟨rH 1 M h W x, p67⟩) (Exit.then (At gs 282 w0 (rF 1 at_ 38) ⟨rH 1 M h W (rndR (getN kW 37) (W 37) x), p67⟩) Q) :=
  Tri.stepV okA (k := 40) (fuel := 70) (l := (a6 (slP (T.get p14 (rA (xr machA 40 70 rB (rF 1 (.ofNat 0) 37) ⟨rH 1 (fun _ => 0) h8zero (fun _ => 0) h8zero, p67⟩)))))) (ks := rK) gs_lt' (by kernel_rfl) (by unfold Alike; kernel_rfl) (by kernel_rfl) (by kernel_rfl) (by kernel_rfl)
theorem r_1_38 (M : Nat → Nat) (h : H8) (w0 : World) (at_ : Int) (W : Nat → Nat) (x : H8) (Q : Exit → Act → World → Prop) : Tri Tryd.prog E 282 rB (At gs 282 w0 (rF 1 at_ 38) ⟨rH 1 M h W x, p67⟩) (Exit.then (At gs 282 w0 (rF 1 at_ 39) ⟨rH 1 M h W (rndR (getN kW 38) (W 38) x), p67⟩) Q) :=
  Tri.stepV okA (k := 40) (fuel := 70) (l := (a6 (slP (T.get p14 (rA (xr machA 40 70 rB (rF 1 (.ofNat 0) 38) ⟨rH 1 (fun _ => 0) h8zero (fun _ => 0) h8zero, p67⟩)))))) (ks := rK) gs_lt' (by kernel_rfl) (by unfold Alike; kernel_rfl) (by kernel_rfl) (by kernel_rfl) (by kernel_rfl)
theorem r_1_39 (M : Nat → Nat) (h : H8) (w0 : World) (at_ : Int) (W : Nat → Nat) (x : H8) (Q : Exit → Act → World → Prop) : Tri Tryd.prog E 282 rB (At gs 282 w0 (rF 1 at_ 39) ⟨rH 1 M h W x, p67⟩) (Exit.then (At gs 282 w0 (rF 1 at_ 40) ⟨rH 1 M h W (rndR (getN kW 39) (W 39) x), p67⟩) Q) :=
  Tri.stepV okA (k := 40) (fuel := 70) (l := (a6 (slP (T.get p14 (rA (xr machA 40 70 rB (rF 1 (.ofNat 0) 39) ⟨rH 1 (fun _ => 0) h8zero (fun _ => 0) h8zero, p67⟩)))))) (ks := rK) gs_lt' (by kernel_rfl) (by unfold Alike; kernel_rfl) (by kernel_rfl) (by kernel_rfl) (by kernel_rfl)
theorem r_1_40 (M : Nat → Nat) (h : H8) (w0 : World) (at_ : Int) (W : Nat → Nat) (x : H8) (Q : Exit → Act → World → Prop) : Tri Tryd.prog E 282 rB (At gs 282 w0 (rF 1 at_ 40) ⟨rH 1 M h W x, p67⟩) (Exit.then (At gs 282 w0 (rF 1 at_ 41) ⟨rH 1 M h W (rndR (getN kW 40) (W 40) x), p67⟩) Q) :=
  Tri.stepV okA (k := 40) (fuel := 70) (l := (a6 (slP (T.get p14 (rA (xr machA 40 70 rB (rF 1 (.ofNat 0) 40) ⟨rH 1 (fun _ => 0) h8zero (fun _ => 0) h8zero, p67⟩)))))) (ks := rK) gs_lt' (by kernel_rfl) (by unfold Alike; kernel_rfl) (by kernel_rfl) (by kernel_rfl) (by kernel_rfl)
theorem r_1_41 (M : Nat → Nat) (h : H8) (w0 : World) (at_ : Int) (W : Nat → Nat) (x : H8) (Q : Exit → Act → World → Prop) : Tri Tryd.prog E 282 rB (At gs 282 w0 (rF 1 at_ 41) ⟨rH 1 M h W x, p67⟩) (Exit.then (At gs 282 w0 (rF 1 at_ 42) ⟨rH 1 M h W (rndR (getN kW 41) (W 41) x), p67⟩) Q) :=
  Tri.stepV okA (k := 40) (fuel := 70) (l := (a6 (slP (T.get p14 (rA (xr machA 40 70 rB (rF 1 (.ofNat 0) 41) ⟨rH 1 (fun _ => 0) h8zero (fun _ => 0) h8zero, p67⟩)))))) (ks := rK) gs_lt' (by kernel_rfl) (by unfold Alike; kernel_rfl) (by kernel_rfl) (by kernel_rfl) (by kernel_rfl)
theorem r_1_42 (M : Nat → Nat) (h : H8) (w0 : World) (at_ : Int) (W : Nat → Nat) (x : H8) (Q : Exit → Act → World → Prop) : Tri Tryd.prog E 282 rB (At gs 282 w0 (rF 1 at_ 42) ⟨rH 1 M h W x, p67⟩) (Exit.then (At gs 282 w0 (rF 1 at_ 43) ⟨rH 1 M h W (rndR (getN kW 42) (W 42) x), p67⟩) Q) :=
  Tri.stepV okA (k := 40) (fuel := 70) (l := (a6 (slP (T.get p14 (rA (xr machA 40 70 rB (rF 1 (.ofNat 0) 42) ⟨rH 1 (fun _ => 0) h8zero (fun _ => 0) h8zero, p67⟩)))))) (ks := rK) gs_lt' (by kernel_rfl) (by unfold Alike; kernel_rfl) (by kernel_rfl) (by kernel_rfl) (by kernel_rfl)
theorem r_1_43 (M : Nat → Nat) (h : H8) (w0 : World) (at_ : Int) (W : Nat → Nat) (x : H8) (Q : Exit → Act → World → Prop) : Tri Tryd.prog E 282 rB (At gs 282 w0 (rF 1 at_ 43) ⟨rH 1 M h W x, p67⟩) (Exit.then (At gs 282 w0 (rF 1 at_ 44) ⟨rH 1 M h W (rndR (getN kW 43) (W 43) x), p67⟩) Q) :=
  Tri.stepV okA (k := 40) (fuel := 70) (l := (a6 (slP (T.get p14 (rA (xr machA 40 70 rB (rF 1 (.ofNat 0) 43) ⟨rH 1 (fun _ => 0) h8zero (fun _ => 0) h8zero, p67⟩)))))) (ks := rK) gs_lt' (by kernel_rfl) (by unfold Alike; kernel_rfl) (by kernel_rfl) (by kernel_rfl) (by kernel_rfl)
theorem r_1_44 (M : Nat → Nat) (h : H8) (w0 : World) (at_ : Int) (W : Nat → Nat) (x : H8) (Q : Exit → Act → World → Prop) : Tri Tryd.prog E 282 rB (At gs 282 w0 (rF 1 at_ 44) ⟨rH 1 M h W x, p67⟩) (Exit.then (At gs 282 w0 (rF 1 at_ 45) ⟨rH 1 M h W (rndR (getN kW 44) (W 44) x), p67⟩) Q) :=
  Tri.stepV okA (k := 40) (fuel := 70) (l := (a6 (slP (T.get p14 (rA (xr machA 40 70 rB (rF 1 (.ofNat 0) 44) ⟨rH 1 (fun _ => 0) h8zero (fun _ => 0) h8zero, p67⟩)))))) (ks := rK) gs_lt' (by kernel_rfl) (by unfold Alike; kernel_rfl) (by kernel_rfl) (by kernel_rfl) (by kernel_rfl)
theorem r_1_45 (M : Nat → Nat) (h : H8) (w0 : World) (at_ : Int) (W : Nat → Nat) (x : H8) (Q : Exit → Act → World → Prop) : Tri Tryd.prog E 282 rB (At gs 282 w0 (rF 1 at_ 45) ⟨rH 1 M h W x, p67⟩) (Exit.then (At gs 282 w0 (rF 1 at_ 46) ⟨rH 1 M h W (rndR (getN kW 45) (W 45) x), p67⟩) Q) :=
  Tri.stepV okA (k := 40) (fuel := 70) (l := (a6 (slP (T.get p14 (rA (xr machA 40 70 rB (rF 1 (.ofNat 0) 45) ⟨rH 1 (fun _ => 0) h8zero (fun _ => 0) h8zero, p67⟩)))))) (ks := rK) gs_lt' (by kernel_rfl) (by unfold Alike; kernel_rfl) (by kernel_rfl) (by kernel_rfl) (by kernel_rfl)
theorem r_1_46 (M : Nat → Nat) (h : H8) (w0 : World) (at_ : Int) (W : Nat → Nat) (x : H8) (Q : Exit → Act → World → Prop) : Tri Tryd.prog E 282 rB (At gs 282 w0 (rF 1 at_ 46) ⟨rH 1 M h W x, p67⟩) (Exit.then (At gs 282 w0 (rF 1 at_ 47) ⟨rH 1 M h W (rndR (getN kW 46) (W 46) x), p67⟩) Q) :=
  Tri.stepV okA (k := 40) (fuel := 70) (l := (a6 (slP (T.get p14 (rA (xr machA 40 70 rB (rF 1 (.ofNat 0) 46) ⟨rH 1 (fun _ => 0) h8zero (fun _ => 0) h8zero, p67⟩)))))) (ks := rK) gs_lt' (by kernel_rfl) (by unfold Alike; kernel_rfl) (by kernel_rfl) (by kernel_rfl) (by kernel_rfl)
theorem r_1_47 (M : Nat → Nat) (h : H8) (w0 : World) (at_ : Int) (W : Nat → Nat) (x : H8) (Q : Exit → Act → World → Prop) : Tri Tryd.prog E 282 rB (At gs 282 w0 (rF 1 at_ 47) ⟨rH 1 M h W x, p67⟩) (Exit.then (At gs 282 w0 (rF 1 at_ 48) ⟨rH 1 M h W (rndR (getN kW 47) (W 47) x), p67⟩) Q) :=
  Tri.stepV okA (k := 40) (fuel := 70) (l := (a6 (slP (T.get p14 (rA (xr machA 40 70 rB (rF 1 (.ofNat 0) 47) ⟨rH 1 (fun _ => 0) h8zero (fun _ => 0) h8zero, p67⟩)))))) (ks := rK) gs_lt' (by kernel_rfl) (by unfold Alike; kernel_rfl) (by kernel_rfl) (by kernel_rfl) (by kernel_rfl)
theorem r_1_48 (M : Nat → Nat) (h : H8) (w0 : World) (at_ : Int) (W : Nat → Nat) (x : H8) (Q : Exit → Act → World → Prop) : Tri Tryd.prog E 282 rB (At gs 282 w0 (rF 1 at_ 48) ⟨rH 1 M h W x, p67⟩) (Exit.then (At gs 282 w0 (rF 1 at_ 49) ⟨rH 1 M h W (rndR (getN kW 48) (W 48) x), p67⟩) Q) :=
  Tri.stepV okA (k := 40) (fuel := 70) (l := (a6 (slP (T.get p14 (rA (xr machA 40 70 rB (rF 1 (.ofNat 0) 48) ⟨rH 1 (fun _ => 0) h8zero (fun _ => 0) h8zero, p67⟩)))))) (ks := rK) gs_lt' (by kernel_rfl) (by unfold Alike; kernel_rfl) (by kernel_rfl) (by kernel_rfl) (by kernel_rfl)
theorem r_1_49 (M : Nat → Nat) (h : H8) (w0 : World) (at_ : Int) (W : Nat → Nat) (x : H8) (Q : Exit → Act → World → Prop) : Tri Tryd.prog E 282 rB (At gs 282 w0 (rF 1 at_ 49) ⟨rH 1 M h W x, p67⟩) (Exit.then (At gs 282 w0 (rF 1 at_ 50) ⟨rH 1 M h W (rndR (getN kW 49) (W 49) x), p67⟩) Q) :=
  Tri.stepV okA (k := 40) (fuel := 70) (l := (a6 (slP (T.get p14 (rA (xr machA 40 70 rB (rF 1 (.ofNat 0) 49) ⟨rH 1 (fun _ => 0) h8zero (fun _ => 0) h8zero, p67⟩)))))) (ks := rK) gs_lt' (by kernel_rfl) (by unfold Alike; kernel_rfl) (by kernel_rfl) (by kernel_rfl) (by kernel_rfl)
theorem r_1_50 (M : Nat → Nat) (h : H8) (w0 : World) (at_ : Int) (W : Nat → Nat) (x : H8) (Q : Exit → Act → World → Prop) : Tri Tryd.prog E 282 rB (At gs 282 w0 (rF 1 at_ 50) ⟨rH 1 M h W x, p67⟩) (Exit.then (At gs 282 w0 (rF 1 at_ 51) ⟨rH 1 M h W (rndR (getN kW 50) (W 50) x), p67⟩) Q) :=
  Tri.stepV okA (k := 40) (fuel := 70) (l := (a6 (slP (T.get p14 (rA (xr machA 40 70 rB (rF 1 (.ofNat 0) 50) ⟨rH 1 (fun _ => 0) h8zero (fun _ => 0) h8zero, p67⟩)))))) (ks := rK) gs_lt' (by kernel_rfl) (by unfold Alike; kernel_rfl) (by kernel_rfl) (by kernel_rfl) (by kernel_rfl)
theorem r_1_51 (M : Nat → Nat) (h : H8) (w0 : World) (at_ : Int) (W : Nat → Nat) (x : H8) (Q : Exit → Act → World → Prop) : Tri Tryd.prog E 282 rB (At gs 282 w0 (rF 1 at_ 51) ⟨rH 1 M h W x, p67⟩) (Exit.then (At gs 282 w0 (rF 1 at_ 52) ⟨rH 1 M h W (rndR (getN kW 51) (W 51) x), p67⟩) Q) :=
  Tri.stepV okA (k := 40) (fuel := 70) (l := (a6 (slP (T.get p14 (rA (xr machA 40 70 rB (rF 1 (.ofNat 0) 51) ⟨rH 1 (fun _ => 0) h8zero (fun _ => 0) h8zero, p67⟩)))))) (ks := rK) gs_lt' (by kernel_rfl) (by unfold Alike; kernel_rfl) (by kernel_rfl) (by kernel_rfl) (by kernel_rfl)
theorem r_1_52 (M : Nat → Nat) (h : H8) (w0 : World) (at_ : Int) (W : Nat → Nat) (x : H8) (Q : Exit → Act → World → Prop) : Tri Tryd.prog E 282 rB (At gs 282 w0 (rF 1 at_ 52) ⟨rH 1 M h W x, p67⟩) (Exit.then (At gs 282 w0 (rF 1 at_ 53) ⟨rH 1 M h W (rndR (getN kW 52) (W 52) x), p67⟩) Q) :=
  Tri.stepV okA (k := 40) (fuel := 70) (l := (a6 (slP (T.get p14 (rA (xr machA 40 70 rB (rF 1 (.ofNat 0) 52) ⟨rH 1 (fun _ => 0) h8zero (fun _ => 0) h8zero, p67⟩)))))) (ks := rK) gs_lt' (by kernel_rfl) (by unfold Alike; kernel_rfl) (by kernel_rfl) (by kernel_rfl) (by kernel_rfl)
theorem r_1_53 (M : Nat → Nat) (h : H8) (w0 : World) (at_ : Int) (W : Nat → Nat) (x : H8) (Q : Exit → Act → World → Prop) : Tri Tryd.prog E 282 rB (At gs 282 w0 (rF 1 at_ 53) ⟨rH 1 M h W x, p67⟩) (Exit.then (At gs 282 w0 (rF 1 at_ 54) ⟨rH 1 M h W (rndR (getN kW 53) (W 53) x), p67⟩) Q) :=
  Tri.stepV okA (k := 40) (fuel := 70) (l := (a6 (slP (T.get p14 (rA (xr machA 40 70 rB (rF 1 (.ofNat 0) 53) ⟨rH 1 (fun _ => 0) h8zero (fun _ => 0) h8zero, p67⟩)))))) (ks := rK) gs_lt' (by kernel_rfl) (by unfold Alike; kernel_rfl) (by kernel_rfl) (by kernel_rfl) (by kernel_rfl)
theorem r_1_54 (M : Nat → Nat) (h : H8) (w0 : World) (at_ : Int) (W : Nat → Nat) (x : H8) (Q : Exit → Act → World → Prop) : Tri Tryd.prog E 282 rB (At gs 282 w0 (rF 1 at_ 54) ⟨rH 1 M h W x, p67⟩) (Exit.then (At gs 282 w0 (rF 1 at_ 55) ⟨rH 1 M h W (rndR (getN kW 54) (W 54) x), p67⟩) Q) :=
  Tri.stepV okA (k := 40) (fuel := 70) (l := (a6 (slP (T.get p14 (rA (xr machA 40 70 rB (rF 1 (.ofNat 0) 54) ⟨rH 1 (fun _ => 0) h8zero (fun _ => 0) h8zero, p67⟩)))))) (ks := rK) gs_lt' (by kernel_rfl) (by unfold Alike; kernel_rfl) (by kernel_rfl) (by kernel_rfl) (by kernel_rfl)
theorem r_1_55 (M : Nat → Nat) (h : H8) (w0 : World) (at_ : Int) (W : Nat → Nat) (x : H8) (Q : Exit → Act → World → Prop) : Tri Tryd.prog E 282 rB (At gs 282 w0 (rF 1 at_ 55) ⟨rH 1 M h W x, p67⟩) (Exit.then (At gs 282 w0 (rF 1 at_ 56) ⟨rH 1 M h W (rndR (getN kW 55) (W 55) x), p67⟩) Q) :=
  Tri.stepV okA (k := 40) (fuel := 70) (l := (a6 (slP (T.get p14 (rA (xr machA 40 70 rB (rF 1 (.ofNat 0) 55) ⟨rH 1 (fun _ => 0) h8zero (fun _ => 0) h8zero, p67⟩)))))) (ks := rK) gs_lt' (by kernel_rfl) (by unfold Alike; kernel_rfl) (by kernel_rfl) (by kernel_rfl) (by kernel_rfl)
theorem r_1_56 (M : Nat → Nat) (h : H8) (w0 : World) (at_ : Int) (W : Nat → Nat) (x : H8) (Q : Exit → Act → World → Prop) : Tri Tryd.prog E 282 rB (At gs 282 w0 (rF 1 at_ 56) ⟨rH 1 M h W x, p67⟩) (Exit.then (At gs 282 w0 (rF 1 at_ 57) ⟨rH 1 M h W (rndR (getN kW 56) (W 56) x), p67⟩) Q) :=
  Tri.stepV okA (k := 40) (fuel := 70) (l := (a6 (slP (T.get p14 (rA (xr machA 40 70 rB (rF 1 (.ofNat 0) 56) ⟨rH 1 (fun _ => 0) h8zero (fun _ => 0) h8zero, p67⟩)))))) (ks := rK) gs_lt' (by kernel_rfl) (by unfold Alike; kernel_rfl) (by kernel_rfl) (by kernel_rfl) (by kernel_rfl)
theorem r_1_57 (M : Nat → Nat) (h : H8) (w0 : World) (at_ : Int) (W : Nat → Nat) (x : H8) (Q : Exit → Act → World → Prop) : Tri Tryd.prog E 282 rB (At gs 282 w0 (rF 1 at_ 57) ⟨rH 1 M h W x, p67⟩) (Exit.then (At gs 282 w0 (rF 1 at_ 58) ⟨rH 1 M h W (rndR (getN kW 57) (W 57) x), p67⟩) Q) :=
  Tri.stepV okA (k := 40) (fuel := 70) (l := (a6 (slP (T.get p14 (rA (xr machA 40 70 rB (rF 1 (.ofNat 0) 57) ⟨rH 1 (fun _ => 0) h8zero (fun _ => 0) h8zero, p67⟩)))))) (ks := rK) gs_lt' (by kernel_rfl) (by unfold Alike; kernel_rfl) (by kernel_rfl) (by kernel_rfl) (by kernel_rfl)
theorem r_1_58 (M : Nat → Nat) (h : H8) (w0 : World) (at_ : Int) (W : Nat → Nat) (x : H8) (Q : Exit → Act → World → Prop) : Tri Tryd.prog E 282 rB (At gs 282 w0 (rF 1 at_ 58) ⟨rH 1 M h W x, p67⟩) (Exit.then (At gs 282 w0 (rF 1 at_ 59) ⟨rH 1 M h W (rndR (getN kW 58) (W 58) x), p67⟩) Q) :=
  Tri.stepV okA (k := 40) (fuel := 70) (l := (a6 (slP (T.get p14 (rA (xr machA 40 70 rB (rF 1 (.ofNat 0) 58) ⟨rH 1 (fun _ => 0) h8zero (fun _ => 0) h8zero, p67⟩)))))) (ks := rK) gs_lt' (by kernel_rfl) (by unfold Alike; kernel_rfl) (by kernel_rfl) (by kernel_rfl) (by kernel_rfl)
theorem r_1_59 (M : Nat → Nat) (h : H8) (w0 : World) (at_ : Int) (W : Nat → Nat) (x : H8) (Q : Exit → Act → World → Prop) : Tri Tryd.prog E 282 rB (At gs 282 w0 (rF 1 at_ 59) ⟨rH 1 M h W x, p67⟩) (Exit.then (At gs 282 w0 (rF 1 at_ 60) ⟨rH 1 M h W (rndR (getN kW 59) (W 59) x), p67⟩) Q) :=
  Tri.stepV okA (k := 40) (fuel := 70) (l := (a6 (slP (T.get p14 (rA (xr machA 40 70 rB (rF 1 (.ofNat 0) 59) ⟨rH 1 (fun _ => 0) h8zero (fun _ => 0) h8zero, p67⟩)))))) (ks := rK) gs_lt' (by kernel_rfl) (by unfold Alike; kernel_rfl) (by kernel_rfl) (by kernel_rfl) (by kernel_rfl)
theorem r_1_60 (M : Nat → Nat) (h : H8) (w0 : World) (at_ : Int) (W : Nat → Nat) (x : H8) (Q : Exit → Act → World → Prop) : Tri Tryd.prog E 282 rB (At gs 282 w0 (rF 1 at_ 60) ⟨rH 1 M h W x, p67⟩) (Exit.then (At gs 282 w0 (rF 1 at_ 61) ⟨rH 1 M h W (rndR (getN kW 60) (W 60) x), p67⟩) Q) :=
  Tri.stepV okA (k := 40) (fuel := 70) (l := (a6 (slP (T.get p14 (rA (xr machA 40 70 rB (rF 1 (.ofNat 0) 60) ⟨rH 1 (fun _ => 0) h8zero (fun _ => 0) h8zero, p67⟩)))))) (ks := rK) gs_lt' (by kernel_rfl) (by unfold Alike; kernel_rfl) (by kernel_rfl) (by kernel_rfl) (by kernel_rfl)
theorem r_1_61 (M : Nat → Nat) (h : H8) (w0 : World) (at_ : Int) (W : Nat → Nat) (x : H8) (Q : Exit → Act → World → Prop) : Tri Tryd.prog E 282 rB (At gs 282 w0 (rF 1 at_ 61) ⟨rH 1 M h W x, p67⟩) (Exit.then (At gs 282 w0 (rF 1 at_ 62) ⟨rH 1 M h W (rndR (getN kW 61) (W 61) x), p67⟩) Q) :=
  Tri.stepV okA (k := 40) (fuel := 70) (l := (a6 (slP (T.get p14 (rA (xr machA 40 70 rB (rF 1 (.ofNat 0) 61) ⟨rH 1 (fun _ => 0) h8zero (fun _ => 0) h8zero, p67⟩)))))) (ks := rK) gs_lt' (by kernel_rfl) (by unfold Alike; kernel_rfl) (by kernel_rfl) (by kernel_rfl) (by kernel_rfl)
theorem r_1_62 (M : Nat → Nat) (h : H8) (w0 : World) (at_ : Int) (W : Nat → Nat) (x : H8) (Q : Exit → Act → World → Prop) : Tri Tryd.prog E 282 rB (At gs 282 w0 (rF 1 at_ 62) ⟨rH 1 M h W x, p67⟩) (Exit.then (At gs 282 w0 (rF 1 at_ 63) ⟨rH 1 M h W (rndR (getN kW 62) (W 62) x), p67⟩) Q) :=
  Tri.stepV okA (k := 40) (fuel := 70) (l := (a6 (slP (T.get p14 (rA (xr machA 40 70 rB (rF 1 (.ofNat 0) 62) ⟨rH 1 (fun _ => 0) h8zero (fun _ => 0) h8zero, p67⟩)))))) (ks := rK) gs_lt' (by kernel_rfl) (by unfold Alike; kernel_rfl) (by kernel_rfl) (by kernel_rfl) (by kernel_rfl)
theorem r_1_63 (M : Nat → Nat) (h : H8) (w0 : World) (at_ : Int) (W : Nat → Nat) (x : H8) (Q : Exit → Act → World → Prop) : Tri Tryd.prog E 282 rB (At gs 282 w0 (rF 1 at_ 63) ⟨rH 1 M h W x, p67⟩) (Exit.then (At gs 282 w0 (rF 1 at_ 64) ⟨rH 1 M h W (rndR (getN kW 63) (W 63) x), p67⟩) Q) :=
  Tri.stepV okA (k := 40) (fuel := 70) (l := (a6 (slP (T.get p14 (rA (xr machA 40 70 rB (rF 1 (.ofNat 0) 63) ⟨rH 1 (fun _ => 0) h8zero (fun _ => 0) h8zero, p67⟩)))))) (ks := rK) gs_lt' (by kernel_rfl) (by unfold Alike; kernel_rfl) (by kernel_rfl) (by kernel_rfl) (by kernel_rfl)
theorem rv_1 (M : Nat → Nat) (h : H8) (w0 : World) (at_ : Int) (W : Nat → Nat) (x : H8) (Q : Exit → Act → World → Prop) : ∀ t, t < 64 → Tri Tryd.prog E 282 rB (At gs 282 w0 (rF 1 at_ t) ⟨rH 1 M h W x, p67⟩) (Exit.then (At gs 282 w0 (rF 1 at_ (t + 1)) ⟨rH 1 M h W (rnd (getN kW t) (W t) x), p67⟩) Q)
  | 0, _ => by have := r_1_0 M h w0 at_ W x Q; rw [rndR_eq] at this; exact this
  | 1, _ => by have := r_1_1 M h w0 at_ W x Q; rw [rndR_eq] at this; exact this
  | 2, _ => by have := r_1_2 M h w0 at_ W x Q; rw [rndR_eq] at this; exact this
  | 3, _ => by have := r_1_3 M h w0 at_ W x Q; rw [rndR_eq] at this; exact this
  | 4, _ => by have := r_1_4 M h w0 at_ W x Q; rw [rndR_eq] at this; exact this
  | 5, _ => by have := r_1_5 M h w0 at_ W x Q; rw [rndR_eq] at this; exact this
  | 6, _ => by have := r_1_6 M h w0 at_ W x Q; rw [rndR_eq] at this; exact this
  | 7, _ => by have := r_1_7 M h w0 at_ W x Q; rw [rndR_eq] at this; exact this
  | 8, _ => by have := r_1_8 M h w0 at_ W x Q; rw [rndR_eq] at this; exact this
  | 9, _ => by have := r_1_9 M h w0 at_ W x Q; rw [rndR_eq] at this; exact this
  | 10, _ => by have := r_1_10 M h w0 at_ W x Q; rw [rndR_eq] at this; exact this
  | 11, _ => by have := r_1_11 M h w0 at_ W x Q; rw [rndR_eq] at this; exact this
  | 12, _ => by have := r_1_12 M h w0 at_ W x Q; rw [rndR_eq] at this; exact this
  | 13, _ => by have := r_1_13 M h w0 at_ W x Q; rw [rndR_eq] at this; exact this
  | 14, _ => by have := r_1_14 M h w0 at_ W x Q; rw [rndR_eq] at this; exact this
  | 15, _ => by have := r_1_15 M h w0 at_ W x Q; rw [rndR_eq] at this; exact this
  | 16, _ => by have := r_1_16 M h w0 at_ W x Q; rw [rndR_eq] at this; exact this
  | 17, _ => by have := r_1_17 M h w0 at_ W x Q; rw [rndR_eq] at this; exact this
  | 18, _ => by have := r_1_18 M h w0 at_ W x Q; rw [rndR_eq] at this; exact this
  | 19, _ => by have := r_1_19 M h w0 at_ W x Q; rw [rndR_eq] at this; exact this
  | 20, _ => by have := r_1_20 M h w0 at_ W x Q; rw [rndR_eq] at this; exact this
  | 21, _ => by have := r_1_21 M h w0 at_ W x Q; rw [rndR_eq] at this; exact this
  | 22, _ => by have := r_1_22 M h w0 at_ W x Q; rw [rndR_eq] at this; exact this
  | 23, _ => by have := r_1_23 M h w0 at_ W x Q; rw [rndR_eq] at this; exact this
  | 24, _ => by have := r_1_24 M h w0 at_ W x Q; rw [rndR_eq] at this; exact this
  | 25, _ => by have := r_1_25 M h w0 at_ W x Q; rw [rndR_eq] at this; exact this
  | 26, _ => by have := r_1_26 M h w0 at_ W x Q; rw [rndR_eq] at this; exact this
  | 27, _ => by have := r_1_27 M h w0 at_ W x Q; rw [rndR_eq] at this; exact this
  | 28, _ => by have := r_1_28 M h w0 at_ W x Q; rw [rndR_eq] at this; exact this
  | 29, _ => by have := r_1_29 M h w0 at_ W x Q; rw [rndR_eq] at this; exact this
  | 30, _ => by have := r_1_30 M h w0 at_ W x Q; rw [rndR_eq] at this; exact this
  | 31, _ => by have := r_1_31 M h w0 at_ W x Q; rw [rndR_eq] at this; exact this
  | 32, _ => by have := r_1_32 M h w0 at_ W x Q; rw [rndR_eq] at this; exact this
  | 33, _ => by have := r_1_33 M h w0 at_ W x Q; rw [rndR_eq] at this; exact this
  | 34, _ => by have := r_1_34 M h w0 at_ W x Q; rw [rndR_eq] at this; exact this
  | 35, _ => by have := r_1_35 M h w0 at_ W x Q; rw [rndR_eq] at this; exact this
  | 36, _ => by have := r_1_36 M h w0 at_ W x Q; rw [rndR_eq] at this; exact this
  | 37, _ => by have := r_1_37 M h w0 at_ W x Q; rw [rndR_eq] at this; exact this
  | 38, _ => by have := r_1_38 M h w0 at_ W x Q; rw [rndR_eq] at this; exact this
  | 39, _ => by have := r_1_39 M h w0 at_ W x Q; rw [rndR_eq] at this; exact this
  | 40, _ => by have := r_1_40 M h w0 at_ W x Q; rw [rndR_eq] at this; exact this
  | 41, _ => by have := r_1_41 M h w0 at_ W x Q; rw [rndR_eq] at this; exact this
  | 42, _ => by have := r_1_42 M h w0 at_ W x Q; rw [rndR_eq] at this; exact this
  | 43, _ => by have := r_1_43 M h w0 at_ W x Q; rw [rndR_eq] at this; exact this
  | 44, _ => by have := r_1_44 M h w0 at_ W x Q; rw [rndR_eq] at this; exact this
  | 45, _ => by have := r_1_45 M h w0 at_ W x Q; rw [rndR_eq] at this; exact this
  | 46, _ => by have := r_1_46 M h w0 at_ W x Q; rw [rndR_eq] at this; exact this
  | 47, _ => by have := r_1_47 M h w0 at_ W x Q; rw [rndR_eq] at this; exact this
  | 48, _ => by have := r_1_48 M h w0 at_ W x Q; rw [rndR_eq] at this; exact this
  | 49, _ => by have := r_1_49 M h w0 at_ W x Q; rw [rndR_eq] at this; exact this
  | 50, _ => by have := r_1_50 M h w0 at_ W x Q; rw [rndR_eq] at this; exact this
  | 51, _ => by have := r_1_51 M h w0 at_ W x Q; rw [rndR_eq] at this; exact this
  | 52, _ => by have := r_1_52 M h w0 at_ W x Q; rw [rndR_eq] at this; exact this
  | 53, _ => by have := r_1_53 M h w0 at_ W x Q; rw [rndR_eq] at this; exact this
  | 54, _ => by have := r_1_54 M h w0 at_ W x Q; rw [rndR_eq] at this; exact this
  | 55, _ => by have := r_1_55 M h w0 at_ W x Q; rw [rndR_eq] at this; exact this
  | 56, _ => by have := r_1_56 M h w0 at_ W x Q; rw [rndR_eq] at this; exact this
  | 57, _ => by have := r_1_57 M h w0 at_ W x Q; rw [rndR_eq] at this; exact this
  | 58, _ => by have := r_1_58 M h w0 at_ W x Q; rw [rndR_eq] at this; exact this
  | 59, _ => by have := r_1_59 M h w0 at_ W x Q; rw [rndR_eq] at this; exact this
  | 60, _ => by have := r_1_60 M h w0 at_ W x Q; rw [rndR_eq] at this; exact this
  | 61, _ => by have := r_1_61 M h w0 at_ W x Q; rw [rndR_eq] at this; exact this
  | 62, _ => by have := r_1_62 M h w0 at_ W x Q; rw [rndR_eq] at this; exact this
  | 63, _ => by have := r_1_63 M h w0 at_ W x Q; rw [rndR_eq] at this; exact this
  | t + 64, h => by omega
theorem rl_1 (M : Nat → Nat) (h : H8) (w0 : World) (at_ : Int) (W : Nat → Nat) (x : H8) (Q : Exit → Act → World → Prop) : Tri Tryd.prog E 282 (.blk 8 (.loop rB)) (At gs 282 w0 (rF 1 at_ 0) ⟨rH 1 M h W x, p67⟩) (Exit.then (At gs 282 w0 (rF 1 at_ 64) ⟨rH 1 M h W (rnds W x 64), p67⟩) Q) :=
  Tri.blk (Tri.loop (I := fun t => At gs 282 w0 (rF 1 at_ t) ⟨rH 1 M h W (rnds W x t), p67⟩) 64 (fun t ht => rv_1 M h w0 at_ W (rnds W x t) _ t ht)
    (Tri.lastV okA (k := 40) (fuel := 70) (l := a6 p66) (ks := rK) gs_lt' (by kernel_rfl) (by unfold Alike; kernel_rfl) (by kernel_rfl) (by kernel_rfl) (by kernel_rfl) (fun _ _ h => h)))
theorem at_1_0 (M : Nat → Nat) (h : H8) (w0 : World) (Q : Exit → Act → World → Prop) : Tri Tryd.prog E 282 atB (At gs 282 w0 (aF 1 (.ofNat 0)) ⟨aH 1 M h, p65⟩) (Exit.then (At gs 282 w0 (aF 1 (.ofNat 64)) ⟨aH 1 M (mixF h (blkB M 0)), p65⟩) Q) := by
  rw [atB_shape]
  refine Tri.seq (J := At gs 282 w0 (aF 1 (.ofNat 0)) ⟨aH 1 M h, p65⟩) (Tri.stepV okA (k := 40) (fuel := 70) (l := a4) (ks := aK) gs_lt' (by kernel_rfl) (by unfold Alike; kernel_rfl) (by kernel_rfl) (by kernel_rfl) (by kernel_rfl)) ?_
  refine Tri.seq (J := At gs 282 w0 (aF 1 (.ofNat 0)) ⟨aH 1 M (mixF h (blkB M 0)), p65⟩) ?_ (Tri.stepV okA (k := 40) (fuel := 70) (l := a4) (ks := aK) gs_lt' (by kernel_rfl) (by unfold Alike; kernel_rfl) (by kernel_rfl) (by kernel_rfl) (by kernel_rfl))
  refine Tri.blk ?_
  rw [atY_shape]
  refine Tri.seq (J := At gs 282 w0 (T.set (.slice p65 0 64 (some 64) 1) p9 (aF 1 (.ofNat 0))) ⟨wH 1 M h (fun _ => 0), p66⟩) (Tri.stepV okA (k := 40) (fuel := 70) (l := a5) (ks := [p2, p3, p4, p7, p8, p9]) gs_lt' (by kernel_rfl) (by unfold Alike; kernel_rfl) (by kernel_rfl) (by kernel_rfl) (by kernel_rfl)) ?_
  refine Tri.seq (J := At gs 282 w0 (wF 1 (.ofNat 0) 64) ⟨wH 1 M h (wAt (blkB M 0) 64), p66⟩) ?_ ?_
  · rw [yW_shape]
    exact Tri.seq (J := At gs 282 w0 (wF 1 (.ofNat 0) 0) ⟨wH 1 M h (wAt (blkB M 0) 0), p66⟩) (Tri.stepV okA (k := 40) (fuel := 70) (l := a5) (ks := wK) gs_lt' (by kernel_rfl) (by unfold Alike; kernel_rfl) (by kernel_rfl) (by kernel_rfl) (by kernel_rfl)) (wl_1_0 M h w0 _)
  refine Tri.seq (J := At gs 282 w0 (T.set (.slice p66 0 8 none 1) p14 (T.set (.slice p65 0 64 (some 64) 1) p9 (aF 1 (.ofNat 0)))) ⟨rH 1 M h (wAt (blkB M 0) 64) h, p67⟩) (Tri.stepV okA (k := 40) (fuel := 70) (l := (a6 p67)) (ks := [p2, p3, p4, p7, p8, p9, p14]) gs_lt' (by kernel_rfl) (by unfold Alike; kernel_rfl) (by kernel_rfl) (by kernel_rfl) (by kernel_rfl)) ?_
  refine Tri.seq (J := At gs 282 w0 (rF 1 (.ofNat 0) 64) ⟨rH 1 M h (wAt (blkB M 0) 64) (rnds (wAt (blkB M 0) 64) h 64), p67⟩) ?_ ?_
  · rw [yR_shape]
    exact Tri.seq (J := At gs 282 w0 (rF 1 (.ofNat 0) 0) ⟨rH 1 M h (wAt (blkB M 0) 64) h, p67⟩) (Tri.stepV okA (k := 40) (fuel := 70) (l := (a6 p66)) (ks := rK) gs_lt' (by kernel_rfl) (by unfold Alike; kernel_rfl) (by kernel_rfl) (by kernel_rfl) (by kernel_rfl)) (rl_1 M h w0 _ _ h _)
  exact Tri.endV okA (k := 40) (fuel := 70) (l := a4) (ks := aK) gs_lt' (by kernel_rfl) (by unfold Alike; kernel_rfl) (by kernel_rfl) (by kernel_rfl) (by kernel_rfl) (fun _ _ h => h)
theorem av_1 (M : Nat → Nat) (w0 : World) (Q : Exit → Act → World → Prop) : ∀ j, j < 1 → Tri Tryd.prog E 282 atB (At gs 282 w0 (aF 1 (.ofNat (Nat.mul 64 j))) ⟨aH 1 M (hAt M j), p65⟩) (Exit.then (At gs 282 w0 (aF 1 (.ofNat (Nat.mul 64 (j + 1)))) ⟨aH 1 M (hAt M (j + 1)), p65⟩) Q)
  | 0, _ => at_1_0 M (hAt M 0) w0 Q
  | j + 1, h => by omega
theorem al_1 (M : Nat → Nat) (w0 : World) (Q : Exit → Act → World → Prop) : Tri Tryd.prog E 282 (.blk 4 (.loop atB)) (At gs 282 w0 (aF 1 (.ofNat 0)) ⟨aH 1 M (hAt M 0), p65⟩) (Exit.then (At gs 282 w0 (aF 1 (.ofNat 64)) ⟨aH 1 M (hAt M 1), p65⟩) Q) :=
  Tri.blk (Tri.loop (I := fun j => At gs 282 w0 (aF 1 (.ofNat (Nat.mul 64 j))) ⟨aH 1 M (hAt M j), p65⟩) 1 (fun j hj => av_1 M w0 _ j hj)
    (Tri.lastV okA (k := 40) (fuel := 70) (l := a4) (ks := aK) gs_lt' (by kernel_rfl) (by unfold Alike; kernel_rfl) (by kernel_rfl) (by kernel_rfl) (by kernel_rfl) (fun _ _ h => h)))
theorem ae_1 (M : Nat → Nat) (h : H8) (w0 : World) : Tri Tryd.prog E 282 rfEnd (At gs 282 w0 (aF 1 (.ofNat 64)) ⟨aH 1 M h, p65⟩) (fun e a' w' => e = .ret ∧ ∃ A' σ', At gs 282 w0 A' σ' a' w' ∧ resF (resI f43) A' σ' = some [.agg (bs (outL h))]) :=
  Tri.retV okA (k := 40) (fuel := 70) (by kernel_rfl) (by unfold Alike; kernel_rfl) (by kernel_rfl)
theorem w_2_0_0 (M : Nat → Nat) (h : H8) (w0 : World) (W : Nat → Nat) (Q : Exit → Act → World → Prop) : Tri Tryd.prog E 282 wB (At gs 282 w0 (wF 2 (.ofNat 0) 0) ⟨wH 2 M h W, p66⟩) (Exit.then (At gs 282 w0 (wF 2 (.ofNat 0) 1) ⟨wH 2 M h (upN W 0 (be (blkB M 0) 0)), p66⟩) Q) :=
  Tri.stepV okA (k := 40) (fuel := 70) (l := a5) (ks := wK) gs_lt' (by kernel_rfl) (by unfold Alike; kernel_rfl) (by kernel_rfl) (by kernel_rfl) (by kernel_rfl)
theorem w_2_0_1 (M : Nat → Nat) (h : H8) (w0 : World) (W : Nat → Nat) (Q : Exit → Act → World → Prop) : Tri Tryd.prog E 282 wB (At gs 282 w0 (wF 2 (.ofNat 0) 1) ⟨wH 2 M h W, p66⟩) (Exit.then (At gs 282 w0 (wF 2 (.ofNat 0) 2) ⟨wH 2 M h (upN W 1 (be (blkB M 0) 1)), p66⟩) Q) :=
  Tri.stepV okA (k := 40) (fuel := 70) (l := a5) (ks := wK) gs_lt' (by kernel_rfl) (by unfold Alike; kernel_rfl) (by kernel_rfl) (by kernel_rfl) (by kernel_rfl)
theorem w_2_0_2 (M : Nat → Nat) (h : H8) (w0 : World) (W : Nat → Nat) (Q : Exit → Act → World → Prop) : Tri Tryd.prog E 282 wB (At gs 282 w0 (wF 2 (.ofNat 0) 2) ⟨wH 2 M h W, p66⟩) (Exit.then (At gs 282 w0 (wF 2 (.ofNat 0) 3) ⟨wH 2 M h (upN W 2 (be (blkB M 0) 2)), p66⟩) Q) :=
  Tri.stepV okA (k := 40) (fuel := 70) (l := a5) (ks := wK) gs_lt' (by kernel_rfl) (by unfold Alike; kernel_rfl) (by kernel_rfl) (by kernel_rfl) (by kernel_rfl)
theorem w_2_0_3 (M : Nat → Nat) (h : H8) (w0 : World) (W : Nat → Nat) (Q : Exit → Act → World → Prop) : Tri Tryd.prog E 282 wB (At gs 282 w0 (wF 2 (.ofNat 0) 3) ⟨wH 2 M h W, p66⟩) (Exit.then (At gs 282 w0 (wF 2 (.ofNat 0) 4) ⟨wH 2 M h (upN W 3 (be (blkB M 0) 3)), p66⟩) Q) :=
  Tri.stepV okA (k := 40) (fuel := 70) (l := a5) (ks := wK) gs_lt' (by kernel_rfl) (by unfold Alike; kernel_rfl) (by kernel_rfl) (by kernel_rfl) (by kernel_rfl)
theorem w_2_0_4 (M : Nat → Nat) (h : H8) (w0 : World) (W : Nat → Nat) (Q : Exit → Act → World → Prop) : Tri Tryd.prog E 282 wB (At gs 282 w0 (wF 2 (.ofNat 0) 4) ⟨wH 2 M h W, p66⟩) (Exit.then (At gs 282 w0 (wF 2 (.ofNat 0) 5) ⟨wH 2 M h (upN W 4 (be (blkB M 0) 4)), p66⟩) Q) :=
  Tri.stepV okA (k := 40) (fuel := 70) (l := a5) (ks := wK) gs_lt' (by kernel_rfl) (by unfold Alike; kernel_rfl) (by kernel_rfl) (by kernel_rfl) (by kernel_rfl)
theorem w_2_0_5 (M : Nat → Nat) (h : H8) (w0 : World) (W : Nat → Nat) (Q : Exit → Act → World → Prop) : Tri Tryd.prog E 282 wB (At gs 282 w0 (wF 2 (.ofNat 0) 5) ⟨wH 2 M h W, p66⟩) (Exit.then (At gs 282 w0 (wF 2 (.ofNat 0) 6) ⟨wH 2 M h (upN W 5 (be (blkB M 0) 5)), p66⟩) Q) :=
  Tri.stepV okA (k := 40) (fuel := 70) (l := a5) (ks := wK) gs_lt' (by kernel_rfl) (by unfold Alike; kernel_rfl) (by kernel_rfl) (by kernel_rfl) (by kernel_rfl)
theorem w_2_0_6 (M : Nat → Nat) (h : H8) (w0 : World) (W : Nat → Nat) (Q : Exit → Act → World → Prop) : Tri Tryd.prog E 282 wB (At gs 282 w0 (wF 2 (.ofNat 0) 6) ⟨wH 2 M h W, p66⟩) (Exit.then (At gs 282 w0 (wF 2 (.ofNat 0) 7) ⟨wH 2 M h (upN W 6 (be (blkB M 0) 6)), p66⟩) Q) :=
  Tri.stepV okA (k := 40) (fuel := 70) (l := a5) (ks := wK) gs_lt' (by kernel_rfl) (by unfold Alike; kernel_rfl) (by kernel_rfl) (by kernel_rfl) (by kernel_rfl)
theorem w_2_0_7 (M : Nat → Nat) (h : H8) (w0 : World) (W : Nat → Nat) (Q : Exit → Act → World → Prop) : Tri Tryd.prog E 282 wB (At gs 282 w0 (wF 2 (.ofNat 0) 7) ⟨wH 2 M h W, p66⟩) (Exit.then (At gs 282 w0 (wF 2 (.ofNat 0) 8) ⟨wH 2 M h (upN W 7 (be (blkB M 0) 7)), p66⟩) Q) :=
  Tri.stepV okA (k := 40) (fuel := 70) (l := a5) (ks := wK) gs_lt' (by kernel_rfl) (by unfold Alike; kernel_rfl) (by kernel_rfl) (by kernel_rfl) (by kernel_rfl)
theorem w_2_0_8 (M : Nat → Nat) (h : H8) (w0 : World) (W : Nat → Nat) (Q : Exit → Act → World → Prop) : Tri Tryd.prog E 282 wB (At gs 282 w0 (wF 2 (.ofNat 0) 8) ⟨wH 2 M h W, p66⟩) (Exit.then (At gs 282 w0 (wF 2 (.ofNat 0) 9) ⟨wH 2 M h (upN W 8 (be (blkB M 0) 8)), p66⟩) Q) :=
  Tri.stepV okA (k := 40) (fuel := 70) (l := a5) (ks := wK) gs_lt' (by kernel_rfl) (by unfold Alike; kernel_rfl) (by kernel_rfl) (by kernel_rfl) (by kernel_rfl)
theorem w_2_0_9 (M : Nat → Nat) (h : H8) (w0 : World) (W : Nat → Nat) (Q : Exit → Act → World → Prop) : Tri Tryd.prog E 282 wB (At gs 282 w0 (wF 2 (.ofNat 0) 9) ⟨wH 2 M h W, p66⟩) (Exit.then (At gs 282 w0 (wF 2 (.ofNat 0) 10) ⟨wH 2 M h (upN W 9 (be (blkB M 0) 9)), p66⟩) Q) :=
  Tri.stepV okA (k := 40) (fuel := 70) (l := a5) (ks := wK) gs_lt' (by kernel_rfl) (by unfold Alike; kernel_rfl) (by kernel_rfl) (by kernel_rfl) (by kernel_rfl)
theorem w_2_0_10 (M : Nat → Nat) (h : H8) (w0 : World) (W : Nat → Nat) (Q : Exit → Act → World → Prop) : Tri Tryd.prog E 282 wB (At gs 282 w0 (wF 2 (.ofNat 0) 10) ⟨wH 2 M h W, p66⟩) (Exit.then (At gs 282 w0 (wF 2 (.ofNat 0) 11) ⟨wH 2 M h (upN W 10 (be (blkB M 0) 10)), p66⟩) Q) :=
  Tri.stepV okA (k := 40) (fuel := 70) (l := a5) (ks := wK) gs_lt' (by kernel_rfl) (by unfold Alike; kernel_rfl) (by kernel_rfl) (by kernel_rfl) (by kernel_rfl)
theorem w_2_0_11 (M : Nat → Nat) (h : H8) (w0 : World) (W : Nat → Nat) (Q : Exit → Act → World → Prop) : Tri Tryd.prog E 282 wB (At gs 282 w0 (wF 2 (.ofNat 0) 11) ⟨wH 2 M h W, p66⟩) (Exit.then (At gs 282 w0 (wF 2 (.ofNat 0) 12) ⟨wH 2 M h (upN W 11 (be (blkB M 0) 11)), p66⟩) Q) :=
  Tri.stepV okA (k := 40) (fuel := 70) (l := a5) (ks := wK) gs_lt' (by kernel_rfl) (by unfold Alike; kernel_rfl) (by kernel_rfl) (by kernel_rfl) (by kernel_rfl)
theorem w_2_0_12 (M : Nat → Nat) (h : H8) (w0 : World) (W : Nat → Nat) (Q : Exit → Act → World → Prop) : Tri Tryd.prog E 282 wB (At gs 282 w0 (wF 2 (.ofNat 0) 12) ⟨wH 2 M h W, p66⟩) (Exit.then (At gs 282 w0 (wF 2 (.ofNat 0) 13) ⟨wH 2 M h (upN W 12 (be (blkB M 0) 12)), p66⟩) Q) :=
  Tri.stepV okA (k := 40) (fuel := 70) (l := a5) (ks := wK) gs_lt' (by kernel_rfl) (by unfold Alike; kernel_rfl) (by kernel_rfl) (by kernel_rfl) (by kernel_rfl)
theorem w_2_0_13 (M : Nat → Nat) (h : H8) (w0 : World) (W : Nat → Nat) (Q : Exit → Act → World → Prop) : Tri Tryd.prog E 282 wB (At gs 282 w0 (wF 2 (.ofNat 0) 13) ⟨wH 2 M h W, p66⟩) (Exit.then (At gs 282 w0 (wF 2 (.ofNat 0) 14) ⟨wH 2 M h (upN W 13 (be (blkB M 0) 13)), p66⟩) Q) :=
  Tri.stepV okA (k := 40) (fuel := 70) (l := a5) (ks := wK) gs_lt' (by kernel_rfl) (by unfold Alike; kernel_rfl) (by kernel_rfl) (by kernel_rfl) (by kernel_rfl)
theorem w_2_0_14 (M : Nat → Nat) (h : H8) (w0 : World) (W : Nat → Nat) (Q : Exit → Act → World → Prop) : Tri Tryd.prog E 282 wB (At gs 282 w0 (wF 2 (.ofNat 0) 14) ⟨wH 2 M h W, p66⟩) (Exit.then (At gs 282 w0 (wF 2 (.ofNat 0) 15) ⟨wH 2 M h (upN W 14 (be (blkB M 0) 14)), p66⟩) Q) :=
  Tri.stepV okA (k := 40) (fuel := 70) (l := a5) (ks := wK) gs_lt' (by kernel_rfl) (by unfold Alike; kernel_rfl) (by kernel_rfl) (by kernel_rfl) (by kernel_rfl)
theorem w_2_0_15 (M : Nat → Nat) (h : H8) (w0 : World) (W : Nat → Nat) (Q : Exit → Act → World → Prop) : Tri Tryd.prog E 282 wB (At gs 282 w0 (wF 2 (.ofNat 0) 15) ⟨wH 2 M h W, p66⟩) (Exit.then (At gs 282 w0 (wF 2 (.ofNat 0) 16) ⟨wH 2 M h (upN W 15 (be (blkB M 0) 15)), p66⟩) Q) :=
  Tri.stepV okA (k := 40) (fuel := 70) (l := a5) (ks := wK) gs_lt' (by kernel_rfl) (by unfold Alike; kernel_rfl) (by kernel_rfl) (by kernel_rfl) (by kernel_rfl)
theorem w_2_1_0 (M : Nat → Nat) (h : H8) (w0 : World) (W : Nat → Nat) (Q : Exit → Act → World → Prop) : Tri Tryd.prog E 282 wB (At gs 282 w0 (wF 2 (.ofNat 64) 0) ⟨wH 2 M h W, p66⟩) (Exit.then (At gs 282 w0 (wF 2 (.ofNat 64) 1) ⟨wH 2 M h (upN W 0 (be (blkB M 1) 0)), p66⟩) Q) :=
  Tri.stepV okA (k := 40) (fuel := 70) (l := a5) (ks := wK) gs_lt' (by kernel_rfl) (by unfold Alike; kernel_rfl) (by kernel_rfl) (by kernel_rfl) (by kernel_rfl)
theorem w_2_1_1 (M : Nat → Nat) (h : H8) (w0 : World) (W : Nat → Nat) (Q : Exit → Act → World → Prop) : Tri Tryd.prog E 282 wB (At gs 282 w0 (wF 2 (.ofNat 64) 1) ⟨wH 2 M h W, p66⟩) (Exit.then (At gs 282 w0 (wF 2 (.ofNat 64) 2) ⟨wH 2 M h (upN W 1 (be (blkB M 1) 1)), p66⟩) Q) :=
  Tri.stepV okA (k := 40) (fuel := 70) (l := a5) (ks := wK) gs_lt' (by kernel_rfl) (by unfold Alike; kernel_rfl) (by kernel_rfl) (by kernel_rfl) (by kernel_rfl)
theorem w_2_1_2 (M : Nat → Nat) (h : H8) (w0 : World) (W : Nat → Nat) (Q : Exit → Act → World → Prop) : Tri Tryd.prog E 282 wB (At gs 282 w0 (wF 2 (.ofNat 64) 2) ⟨wH 2 M h W, p66⟩) (Exit.then (At gs 282 w0 (wF 2 (.ofNat 64) 3) ⟨wH 2 M h (upN W 2 (be (blkB M 1) 2)), p66⟩) Q) :=
  Tri.stepV okA (k := 40) (fuel := 70) (l := a5) (ks := wK) gs_lt' (by kernel_rfl) (by unfold Alike; kernel_rfl) (by kernel_rfl) (by kernel_rfl) (by kernel_rfl)
theorem w_2_1_3 (M : Nat → Nat) (h : H8) (w0 : World) (W : Nat → Nat) (Q : Exit → Act → World → Prop) : Tri Tryd.prog E 282 wB (At gs 282 w0 (wF 2 (.ofNat 64) 3) ⟨wH 2 M h W, p66⟩) (Exit.then (At gs 282 w0 (wF 2 (.ofNat 64) 4) ⟨wH 2 M h (upN W 3 (be (blkB M 1) 3)), p66⟩) Q) :=
  Tri.stepV okA (k := 40) (fuel := 70) (l := a5) (ks := wK) gs_lt' (by kernel_rfl) (by unfold Alike; kernel_rfl) (by kernel_rfl) (by kernel_rfl) (by kernel_rfl)
theorem w_2_1_4 (M : Nat → Nat) (h : H8) (w0 : World) (W : Nat → Nat) (Q : Exit → Act → World → Prop) : Tri Tryd.prog E 282 wB (At gs 282 w0 (wF 2 (.ofNat 64) 4) ⟨wH 2 M h W, p66⟩) (Exit.then (At gs 282 w0 (wF 2 (.ofNat 64) 5) ⟨wH 2 M h (upN W 4 (be (blkB M 1) 4)), p66⟩) Q) :=
  Tri.stepV okA (k := 40) (fuel := 70) (l := a5) (ks := wK) gs_lt' (by kernel_rfl) (by unfold Alike; kernel_rfl) (by kernel_rfl) (by kernel_rfl) (by kernel_rfl)
theorem w_2_1_5 (M : Nat → Nat) (h : H8) (w0 : World) (W : Nat → Nat) (Q : Exit → Act → World → Prop) : Tri Tryd.prog E 282 wB (At gs 282 w0 (wF 2 (.ofNat 64) 5) ⟨wH 2 M h W, p66⟩) (Exit.then (At gs 282 w0 (wF 2 (.ofNat 64) 6) ⟨wH 2 M h (upN W 5 (be (blkB M 1) 5)), p66⟩) Q) :=
  Tri.stepV okA (k := 40) (fuel := 70) (l := a5) (ks := wK) gs_lt' (by kernel_rfl) (by unfold Alike; kernel_rfl) (by kernel_rfl) (by kernel_rfl) (by kernel_rfl)
theorem w_2_1_6 (M : Nat → Nat) (h : H8) (w0 : World) (W : Nat → Nat) (Q : Exit → Act → World → Prop) : Tri Tryd.prog E 282 wB (At gs 282 w0 (wF 2 (.ofNat 64) 6) ⟨wH 2 M h W, p66⟩) (Exit.then (At gs 282 w0 (wF 2 (.ofNat 64) 7) ⟨wH 2 M h (upN W 6 (be (blkB M 1) 6)), p66⟩) Q) :=
  Tri.stepV okA (k := 40) (fuel := 70) (l := a5) (ks := wK) gs_lt' (by kernel_rfl) (by unfold Alike; kernel_rfl) (by kernel_rfl) (by kernel_rfl) (by kernel_rfl)
theorem w_2_1_7 (M : Nat → Nat) (h : H8) (w0 : World) (W : Nat → Nat) (Q : Exit → Act → World → Prop) : Tri Tryd.prog E 282 wB (At gs 282 w0 (wF 2 (.ofNat 64) 7) ⟨wH 2 M h W, p66⟩) (Exit.then (At gs 282 w0 (wF 2 (.ofNat 64) 8) ⟨wH 2 M h (upN W 7 (be (blkB M 1) 7)), p66⟩) Q) :=
  Tri.stepV okA (k := 40) (fuel := 70) (l := a5) (ks := wK) gs_lt' (by kernel_rfl) (by unfold Alike; kernel_rfl) (by kernel_rfl) (by kernel_rfl) (by kernel_rfl)
theorem w_2_1_8 (M : Nat → Nat) (h : H8) (w0 : World) (W : Nat → Nat) (Q : Exit → Act → World → Prop) : Tri Tryd.prog E 282 wB (At gs 282 w0 (wF 2 (.ofNat 64) 8) ⟨wH 2 M h W, p66⟩) (Exit.then (At gs 282 w0 (wF 2 (.ofNat 64) 9) ⟨wH 2 M h (upN W 8 (be (blkB M 1) 8)), p66⟩) Q) :=
  Tri.stepV okA (k := 40) (fuel := 70) (l := a5) (ks := wK) gs_lt' (by kernel_rfl) (by unfold Alike; kernel_rfl) (by kernel_rfl) (by kernel_rfl) (by kernel_rfl)
theorem w_2_1_9 (M : Nat → Nat) (h : H8) (w0 : World) (W : Nat → Nat) (Q : Exit → Act → World → Prop) : Tri Tryd.prog E 282 wB (At gs 282 w0 (wF 2 (.ofNat 64) 9) ⟨wH 2 M h W, p66⟩) (Exit.then (At gs 282 w0 (wF 2 (.ofNat 64) 10) ⟨wH 2 M h (upN W 9 (be (blkB M 1) 9)), p66⟩) Q) :=
  Tri.stepV okA (k := 40) (fuel := 70) (l := a5) (ks := wK) gs_lt' (by kernel_rfl) (by unfold Alike; kernel_rfl) (by kernel_rfl) (by kernel_rfl) (by kernel_rfl)
theorem w_2_1_10 (M : Nat → Nat) (h : H8) (w0 : World) (W : Nat → Nat) (Q : Exit → Act → World → Prop) : Tri Tryd.prog E 282 wB (At gs 282 w0 (wF 2 (.ofNat 64) 10) ⟨wH 2 M h W, p66⟩) (Exit.then (At gs 282 w0 (wF 2 (.ofNat 64) 11) ⟨wH 2 M h (upN W 10 (be (blkB M 1) 10)), p66⟩) Q) :=
  Tri.stepV okA (k := 40) (fuel := 70) (l := a5) (ks := wK) gs_lt' (by kernel_rfl) (by unfold Alike; kernel_rfl) (by kernel_rfl) (by kernel_rfl) (by kernel_rfl)
theorem w_2_1_11 (M : Nat → Nat) (h : H8) (w0 : World) (W : Nat → Nat) (Q : Exit → Act → World → Prop) : Tri Tryd.prog E 282 wB (At gs 282 w0 (wF 2 (.ofNat 64) 11) ⟨wH 2 M h W, p66⟩) (Exit.then (At gs 282 w0 (wF 2 (.ofNat 64) 12) ⟨wH 2 M h (upN W 11 (be (blkB M 1) 11)), p66⟩) Q) :=
  Tri.stepV okA (k := 40) (fuel := 70) (l := a5) (ks := wK) gs_lt' (by kernel_rfl) (by unfold Alike; kernel_rfl) (by kernel_rfl) (by kernel_rfl) (by kernel_rfl)
theorem w_2_1_12 (M : Nat → Nat) (h : H8) (w0 : World) (W : Nat → Nat) (Q : Exit → Act → World → Prop) : Tri Tryd.prog E 282 wB (At gs 282 w0 (wF 2 (.ofNat 64) 12) ⟨wH 2 M h W, p66⟩) (Exit.then (At gs 282 w0 (wF 2 (.ofNat 64) 13) ⟨wH 2 M h (upN W 12 (be (blkB M 1) 12)), p66⟩) Q) :=
  Tri.stepV okA (k := 40) (fuel := 70) (l := a5) (ks := wK) gs_lt' (by kernel_rfl) (by unfold Alike; kernel_rfl) (by kernel_rfl) (by kernel_rfl) (by kernel_rfl)
theorem w_2_1_13 (M : Nat → Nat) (h : H8) (w0 : World) (W : Nat → Nat) (Q : Exit → Act → World → Prop) : Tri Tryd.prog E 282 wB (At gs 282 w0 (wF 2 (.ofNat 64) 13) ⟨wH 2 M h W, p66⟩) (Exit.then (At gs 282 w0 (wF 2 (.ofNat 64) 14) ⟨wH 2 M h (upN W 13 (be (blkB M 1) 13)), p66⟩) Q) :=
  Tri.stepV okA (k := 40) (fuel := 70) (l := a5) (ks := wK) gs_lt' (by kernel_rfl) (by unfold Alike; kernel_rfl) (by kernel_rfl) (by kernel_rfl) (by kernel_rfl)
theorem w_2_1_14 (M : Nat → Nat) (h : H8) (w0 : World) (W : Nat → Nat) (Q : Exit → Act → World → Prop) : Tri Tryd.prog E 282 wB (At gs 282 w0 (wF 2 (.ofNat 64) 14) ⟨wH 2 M h W, p66⟩) (Exit.then (At gs 282 w0 (wF 2 (.ofNat 64) 15) ⟨wH 2 M h (upN W 14 (be (blkB M 1) 14)), p66⟩) Q) :=
  Tri.stepV okA (k := 40) (fuel := 70) (l := a5) (ks := wK) gs_lt' (by kernel_rfl) (by unfold Alike; kernel_rfl) (by kernel_rfl) (by kernel_rfl) (by kernel_rfl)
theorem w_2_1_15 (M : Nat → Nat) (h : H8) (w0 : World) (W : Nat → Nat) (Q : Exit → Act → World → Prop) : Tri Tryd.prog E 282 wB (At gs 282 w0 (wF 2 (.ofNat 64) 15) ⟨wH 2 M h W, p66⟩) (Exit.then (At gs 282 w0 (wF 2 (.ofNat 64) 16) ⟨wH 2 M h (upN W 15 (be (blkB M 1) 15)), p66⟩) Q) :=
  Tri.stepV okA (k := 40) (fuel := 70) (l := a5) (ks := wK) gs_lt' (by kernel_rfl) (by unfold Alike; kernel_rfl) (by kernel_rfl) (by kernel_rfl) (by kernel_rfl)
theorem w_2_16 (M : Nat → Nat) (h : H8) (w0 : World) (at_ : Int) (W : Nat → Nat) (Q : Exit → Act → World → Prop) : Tri Tryd.prog E 282 wB (At gs 282 w0 (wF 2 at_ 16) ⟨wH 2 M h W, p66⟩) (Exit.then (At gs 282 w0 (wF 2 at_ 17) ⟨wH 2 M h (upN W 16 (rpV 16 W)), p66⟩) Q) :=
  Tri.stepV okA (k := 40) (fuel := 70) (l := a5) (ks := wK) gs_lt' (by kernel_rfl) (by unfold Alike; kernel_rfl) (by kernel_rfl) (by kernel_rfl) (by kernel_rfl)
theorem w_2_17 (M : Nat → Nat) (h : H8) (w0 : World) (at_ : Int) (W : Nat → Nat) (Q : Exit → Act → World → Prop) : Tri Tryd.prog E 282 wB (At gs 282 w0 (wF 2 at_ 17) ⟨wH 2 M h W, p66⟩) (Exit.then (At gs 282 w0 (wF 2 at_ 18) ⟨wH 2 M h (upN W 17 (rpV 17 W)), p66⟩) Q) :=
  Tri.stepV okA (k := 40) (fuel := 70) (l := a5) (ks := wK) gs_lt' (by kernel_rfl) (by unfold Alike; kernel_rfl) (by kernel_rfl) (by kernel_rfl) (by kernel_rfl)
theorem w_2_18 (M : Nat → Nat) (h : H8) (w0 : World) (at_ : Int) (W : Nat → Nat) (Q : Exit → Act → World → Prop) : Tri Tryd.prog E 282 wB (At gs 282 w0 (wF 2 at_ 18) ⟨wH 2 M h W, p66⟩) (Exit.then (At gs 282 w0 (wF 2 at_ 19) ⟨wH 2 M h (upN W 18 (rpV 18 W)), p66⟩) Q) :=
  Tri.stepV okA (k := 40) (fuel := 70) (l := a5) (ks := wK) gs_lt' (by kernel_rfl) (by unfold Alike; kernel_rfl) (by kernel_rfl) (by kernel_rfl) (by kernel_rfl)
theorem w_2_19 (M : Nat → Nat) (h : H8) (w0 : World) (at_ : Int) (W : Nat → Nat) (Q : Exit → Act → World → Prop) : Tri Tryd.prog E 282 wB (At gs 282 w0 (wF 2 at_ 19) ⟨wH 2 M h W, p66⟩) (Exit.then (At gs 282 w0 (wF 2 at_ 20) ⟨wH 2 M h (upN W 19 (rpV 19 W)), p66⟩) Q) :=
  Tri.stepV okA (k := 40) (fuel := 70) (l := a5) (ks := wK) gs_lt' (by kernel_rfl) (by unfold Alike; kernel_rfl) (by kernel_rfl) (by kernel_rfl) (by kernel_rfl)
theorem w_2_20 (M : Nat → Nat) (h : H8) (w0 : World) (at_ : Int) (W : Nat → Nat) (Q : Exit → Act → World → Prop) : Tri Tryd.prog E 282 wB (At gs 282 w0 (wF 2 at_ 20) ⟨wH 2 M h W, p66⟩) (Exit.then (At gs 282 w0 (wF 2 at_ 21) ⟨wH 2 M h (upN W 20 (rpV 20 W)), p66⟩) Q) :=
  Tri.stepV okA (k := 40) (fuel := 70) (l := a5) (ks := wK) gs_lt' (by kernel_rfl) (by unfold Alike; kernel_rfl) (by kernel_rfl) (by kernel_rfl) (by kernel_rfl)
theorem w_2_21 (M : Nat → Nat) (h : H8) (w0 : World) (at_ : Int) (W : Nat → Nat) (Q : Exit → Act → World → Prop) : Tri Tryd.prog E 282 wB (At gs 282 w0 (wF 2 at_ 21) ⟨wH 2 M h W, p66⟩) (Exit.then (At gs 282 w0 (wF 2 at_ 22) ⟨wH 2 M h (upN W 21 (rpV 21 W)), p66⟩) Q) :=
  Tri.stepV okA (k := 40) (fuel := 70) (l := a5) (ks := wK) gs_lt' (by kernel_rfl) (by unfold Alike; kernel_rfl) (by kernel_rfl) (by kernel_rfl) (by kernel_rfl)
theorem w_2_22 (M : Nat → Nat) (h : H8) (w0 : World) (at_ : Int) (W : Nat → Nat) (Q : Exit → Act → World → Prop) : Tri Tryd.prog E 282 wB (At gs 282 w0 (wF 2 at_ 22) ⟨wH 2 M h W, p66⟩) (Exit.then (At gs 282 w0 (wF 2 at_ 23) ⟨wH 2 M h (upN W 22 (rpV 22 W)), p66⟩) Q) :=
  Tri.stepV okA (k := 40) (fuel := 70) (l := a5) (ks := wK) gs_lt' (by kernel_rfl) (by unfold Alike; kernel_rfl) (by kernel_rfl) (by kernel_rfl) (by kernel_rfl)
theorem w_2_23 (M : Nat → Nat) (h : H8) (w0 : World) (at_ : Int) (W : Nat → Nat) (Q : Exit → Act → World → Prop) : Tri Tryd.prog E 282 wB (At gs 282 w0 (wF 2 at_ 23) ⟨wH 2 M h W, p66⟩) (Exit.then (At gs 282 w0 (wF 2 at_ 24) ⟨wH 2 M h (upN W 23 (rpV 23 W)), p66⟩) Q) :=
  Tri.stepV okA (k := 40) (fuel := 70) (l := a5) (ks := wK) gs_lt' (by kernel_rfl) (by unfold Alike; kernel_rfl) (by kernel_rfl) (by kernel_rfl) (by kernel_rfl)
theorem w_2_24 (M : Nat → Nat) (h : H8) (w0 : World) (at_ : Int) (W : Nat → Nat) (Q : Exit → Act → World → Prop) : Tri Tryd.prog E 282 wB (At gs 282 w0 (wF 2 at_ 24) ⟨wH 2 M h W, p66⟩) (Exit.then (At gs 282 w0 (wF 2 at_ 25) ⟨wH 2 M h (upN W 24 (rpV 24 W)), p66⟩) Q) :=
  Tri.stepV okA (k := 40) (fuel := 70) (l := a5) (ks := wK) gs_lt' (by kernel_rfl) (by unfold Alike; kernel_rfl) (by kernel_rfl) (by kernel_rfl) (by kernel_rfl)
theorem w_2_25 (M : Nat → Nat) (h : H8) (w0 : World) (at_ : Int) (W : Nat → Nat) (Q : Exit → Act → World → Prop) : Tri Tryd.prog E 282 wB (At gs 282 w0 (wF 2 at_ 25) ⟨wH 2 M h W, p66⟩) (Exit.then (At gs 282 w0 (wF 2 at_ 26) ⟨wH 2 M h (upN W 25 (rpV 25 W)), p66⟩) Q) :=
  Tri.stepV okA (k := 40) (fuel := 70) (l := a5) (ks := wK) gs_lt' (by kernel_rfl) (by unfold Alike; kernel_rfl) (by kernel_rfl) (by kernel_rfl) (by kernel_rfl)
theorem w_2_26 (M : Nat → Nat) (h : H8) (w0 : World) (at_ : Int) (W : Nat → Nat) (Q : Exit → Act → World → Prop) : Tri Tryd.prog E 282 wB (At gs 282 w0 (wF 2 at_ 26) ⟨wH 2 M h W, p66⟩) (Exit.then (At gs 282 w0 (wF 2 at_ 27) ⟨wH 2 M h (upN W 26 (rpV 26 W)), p66⟩) Q) :=
  Tri.stepV okA (k := 40) (fuel := 70) (l := a5) (ks := wK) gs_lt' (by kernel_rfl) (by unfold Alike; kernel_rfl) (by kernel_rfl) (by kernel_rfl) (by kernel_rfl)
theorem w_2_27 (M : Nat → Nat) (h : H8) (w0 : World) (at_ : Int) (W : Nat → Nat) (Q : Exit → Act → World → Prop) : Tri Tryd.prog E 282 wB (At gs 282 w0 (wF 2 at_ 27) ⟨wH 2 M h W, p66⟩) (Exit.then (At gs 282 w0 (wF 2 at_ 28) ⟨wH 2 M h (upN W 27 (rpV 27 W)), p66⟩) Q) :=
  Tri.stepV okA (k := 40) (fuel := 70) (l := a5) (ks := wK) gs_lt' (by kernel_rfl) (by unfold Alike; kernel_rfl) (by kernel_rfl) (by kernel_rfl) (by kernel_rfl)
theorem w_2_28 (M : Nat → Nat) (h : H8) (w0 : World) (at_ : Int) (W : Nat → Nat) (Q : Exit → Act → World → Prop) : Tri Tryd.prog E 282 wB (At gs 282 w0 (wF 2 at_ 28) ⟨wH 2 M h W, p66⟩) (Exit.then (At gs 282 w0 (wF 2 at_ 29) ⟨wH 2 M h (upN W 28 (rpV 28 W)), p66⟩) Q) :=
  Tri.stepV okA (k := 40) (fuel := 70) (l := a5) (ks := wK) gs_lt' (by kernel_rfl) (by unfold Alike; kernel_rfl) (by kernel_rfl) (by kernel_rfl) (by kernel_rfl)
theorem w_2_29 (M : Nat → Nat) (h : H8) (w0 : World) (at_ : Int) (W : Nat → Nat) (Q : Exit → Act → World → Prop) : Tri Tryd.prog E 282 wB (At gs 282 w0 (wF 2 at_ 29) ⟨wH 2 M h W, p66⟩) (Exit.then (At gs 282 w0 (wF 2 at_ 30) ⟨wH 2 M h (upN W 29 (rpV 29 W)), p66⟩) Q) :=
  Tri.stepV okA (k := 40) (fuel := 70) (l := a5) (ks := wK) gs_lt' (by kernel_rfl) (by unfold Alike; kernel_rfl) (by kernel_rfl) (by kernel_rfl) (by kernel_rfl)
theorem w_2_30 (M : Nat → Nat) (h : H8) (w0 : World) (at_ : Int) (W : Nat → Nat) (Q : Exit → Act → World → Prop) : Tri Tryd.prog E 282 wB (At gs 282 w0 (wF 2 at_ 30) ⟨wH 2 M h W, p66⟩) (Exit.then (At gs 282 w0 (wF 2 at_ 31) ⟨wH 2 M h (upN W 30 (rpV 30 W)), p66⟩) Q) :=
  Tri.stepV okA (k := 40) (fuel := 70) (l := a5) (ks := wK) gs_lt' (by kernel_rfl) (by unfold Alike; kernel_rfl) (by kernel_rfl) (by kernel_rfl) (by kernel_rfl)
theorem w_2_31 (M : Nat → Nat) (h : H8) (w0 : World) (at_ : Int) (W : Nat → Nat) (Q : Exit → Act → World → Prop) : Tri Tryd.prog E 282 wB (At gs 282 w0 (wF 2 at_ 31) ⟨wH 2 M h W, p66⟩) (Exit.then (At gs 282 w0 (wF 2 at_ 32) ⟨wH 2 M h (upN W 31 (rpV 31 W)), p66⟩) Q) :=
  Tri.stepV okA (k := 40) (fuel := 70) (l := a5) (ks := wK) gs_lt' (by kernel_rfl) (by unfold Alike; kernel_rfl) (by kernel_rfl) (by kernel_rfl) (by kernel_rfl)
theorem w_2_32 (M : Nat → Nat) (h : H8) (w0 : World) (at_ : Int) (W : Nat → Nat) (Q : Exit → Act → World → Prop) : Tri Tryd.prog E 282 wB (At gs 282 w0 (wF 2 at_ 32) ⟨wH 2 M h W, p66⟩) (Exit.then (At gs 282 w0 (wF 2 at_ 33) ⟨wH 2 M h (upN W 32 (rpV 32 W)), p66⟩) Q) :=
  Tri.stepV okA (k := 40) (fuel := 70) (l := a5) (ks := wK) gs_lt' (by kernel_rfl) (by unfold Alike; kernel_rfl) (by kernel_rfl) (by kernel_rfl) (by kernel_rfl)
theorem w_2_33 (M : Nat → Nat) (h : H8) (w0 : World) (at_ : Int) (W : Nat → Nat) (Q : Exit → Act → World → Prop) : Tri Tryd.prog E 282 wB (At gs 282 w0 (wF 2 at_ 33) ⟨wH 2 M h W, p66⟩) (Exit.then (At gs 282 w0 (wF 2 at_ 34) ⟨wH 2 M h (upN W 33 (rpV 33 W)), p66⟩) Q) :=
  Tri.stepV okA (k := 40) (fuel := 70) (l := a5) (ks := wK) gs_lt' (by kernel_rfl) (by unfold Alike; kernel_rfl) (by kernel_rfl) (by kernel_rfl) (by kernel_rfl)
theorem w_2_34 (M : Nat → Nat) (h : H8) (w0 : World) (at_ : Int) (W : Nat → Nat) (Q : Exit → Act → World → Prop) : Tri Tryd.prog E 282 wB (At gs 282 w0 (wF 2 at_ 34) ⟨wH 2 M h W, p66⟩) (Exit.then (At gs 282 w0 (wF 2 at_ 35) ⟨wH 2 M h (upN W 34 (rpV 34 W)), p66⟩) Q) :=
  Tri.stepV okA (k := 40) (fuel := 70) (l := a5) (ks := wK) gs_lt' (by kernel_rfl) (by unfold Alike; kernel_rfl) (by kernel_rfl) (by kernel_rfl) (by kernel_rfl)
theorem w_2_35 (M : Nat → Nat) (h : H8) (w0 : World) (at_ : Int) (W : Nat → Nat) (Q : Exit → Act → World → Prop) : Tri Tryd.prog E 282 wB (At gs 282 w0 (wF 2 at_ 35) ⟨wH 2 M h W, p66⟩) (Exit.then (At gs 282 w0 (wF 2 at_ 36) ⟨wH 2 M h (upN W 35 (rpV 35 W)), p66⟩) Q) :=
  Tri.stepV okA (k := 40) (fuel := 70) (l := a5) (ks := wK) gs_lt' (by kernel_rfl) (by unfold Alike; kernel_rfl) (by kernel_rfl) (by kernel_rfl) (by kernel_rfl)
theorem w_2_36 (M : Nat → Nat) (h : H8) (w0 : World) (at_ : Int) (W : Nat → Nat) (Q : Exit → Act → World → Prop) : Tri Tryd.prog E 282 wB (At gs 282 w0 (wF 2 at_ 36) ⟨wH 2 M h W, p66⟩) (Exit.then (At gs 282 w0 (wF 2 at_ 37) ⟨wH 2 M h (upN W 36 (rpV 36 W)), p66⟩) Q) :=
  Tri.stepV okA (k := 40) (fuel := 70) (l := a5) (ks := wK) gs_lt' (by kernel_rfl) (by unfold Alike; kernel_rfl) (by kernel_rfl) (by kernel_rfl) (by kernel_rfl)
theorem w_2_37 (M : Nat → Nat) (h : H8) (w0 : World) (at_ : Int) (W : Nat → Nat) (Q : Exit → Act → World → Prop) : Tri Tryd.prog E 282 wB (At gs 282 w0 (wF 2 at_ 37) ⟨wH 2 M h W, p66⟩) (Exit.then (At gs 282 w0 (wF 2 at_ 38) ⟨wH 2 M h (upN W 37 (rpV 37 W)), p66⟩) Q) :=
  Tri.stepV okA (k := 40) (fuel := 70) (l := a5) (ks := wK) gs_lt' (by kernel_rfl) (by unfold Alike; kernel_rfl) (by kernel_rfl) (by kernel_rfl) (by kernel_rfl)
theorem w_2_38 (M : Nat → Nat) (h : H8) (w0 : World) (at_ : Int) (W : Nat → Nat) (Q : Exit → Act → World → Prop) : Tri Tryd.prog E 282 wB (At gs 282 w0 (wF 2 at_ 38) ⟨wH 2 M h W, p66⟩) (Exit.then (At gs 282 w0 (wF 2 at_ 39) ⟨wH 2 M h (upN W 38 (rpV 38 W)), p66⟩) Q) :=
  Tri.stepV okA (k := 40) (fuel := 70) (l := a5) (ks := wK) gs_lt' (by kernel_rfl) (by unfold Alike; kernel_rfl) (by kernel_rfl) (by kernel_rfl) (by kernel_rfl)
theorem w_2_39 (M : Nat → Nat) (h : H8) (w0 : World) (at_ : Int) (W : Nat → Nat) (Q : Exit → Act → World → Prop) : Tri Tryd.prog E 282 wB (At gs 282 w0 (wF 2 at_ 39) ⟨wH 2 M h W, p66⟩) (Exit.then (At gs 282 w0 (wF 2 at_ 40) ⟨wH 2 M h (upN W 39 (rpV 39 W)), p66⟩) Q) :=
  Tri.stepV okA (k := 40) (fuel := 70) (l := a5) (ks := wK) gs_lt' (by kernel_rfl) (by unfold Alike; kernel_rfl) (by kernel_rfl) (by kernel_rfl) (by kernel_rfl)
theorem w_2_40 (M : Nat → Nat) (h : H8) (w0 : World) (at_ : Int) (W : Nat → Nat) (Q : Exit → Act → World → Prop) : Tri Tryd.prog E 282 wB (At gs 282 w0 (wF 2 at_ 40) ⟨wH 2 M h W, p66⟩) (Exit.then (At gs 282 w0 (wF 2 at_ 41) ⟨wH 2 M h (upN W 40 (rpV 40 W)), p66⟩) Q) :=
  Tri.stepV okA (k := 40) (fuel := 70) (l := a5) (ks := wK) gs_lt' (by kernel_rfl) (by unfold Alike; kernel_rfl) (by kernel_rfl) (by kernel_rfl) (by kernel_rfl)
theorem w_2_41 (M : Nat → Nat) (h : H8) (w0 : World) (at_ : Int) (W : Nat → Nat) (Q : Exit → Act → World → Prop) : Tri Tryd.prog E 282 wB (At gs 282 w0 (wF 2 at_ 41) ⟨wH 2 M h W, p66⟩) (Exit.then (At gs 282 w0 (wF 2 at_ 42) ⟨wH 2 M h (upN W 41 (rpV 41 W)), p66⟩) Q) :=
  Tri.stepV okA (k := 40) (fuel := 70) (l := a5) (ks := wK) gs_lt' (by kernel_rfl) (by unfold Alike; kernel_rfl) (by kernel_rfl) (by kernel_rfl) (by kernel_rfl)
theorem w_2_42 (M : Nat → Nat) (h : H8) (w0 : World) (at_ : Int) (W : Nat → Nat) (Q : Exit → Act → World → Prop) : Tri Tryd.prog E 282 wB (At gs 282 w0 (wF 2 at_ 42) ⟨wH 2 M h W, p66⟩) (Exit.then (At gs 282 w0 (wF 2 at_ 43) ⟨wH 2 M h (upN W 42 (rpV 42 W)), p66⟩) Q) :=
  Tri.stepV okA (k := 40) (fuel := 70) (l := a5) (ks := wK) gs_lt' (by kernel_rfl) (by unfold Alike; kernel_rfl) (by kernel_rfl) (by kernel_rfl) (by kernel_rfl)
theorem w_2_43 (M : Nat → Nat) (h : H8) (w0 : World) (at_ : Int) (W : Nat → Nat) (Q : Exit → Act → World → Prop) : Tri Tryd.prog E 282 wB (At gs 282 w0 (wF 2 at_ 43) ⟨wH 2 M h W, p66⟩) (Exit.then (At gs 282 w0 (wF 2 at_ 44) ⟨wH 2 M h (upN W 43 (rpV 43 W)), p66⟩) Q) :=
  Tri.stepV okA (k := 40) (fuel := 70) (l := a5) (ks := wK) gs_lt' (by kernel_rfl) (by unfold Alike; kernel_rfl) (by kernel_rfl) (by kernel_rfl) (by kernel_rfl)
theorem w_2_44 (M : Nat → Nat) (h : H8) (w0 : World) (at_ : Int) (W : Nat → Nat) (Q : Exit → Act → World → Prop) : Tri Tryd.prog E 282 wB (At gs 282 w0 (wF 2 at_ 44) ⟨wH 2 M h W, p66⟩) (Exit.then (At gs 282 w0 (wF 2 at_ 45) ⟨wH 2 M h (upN W 44 (rpV 44 W)), p66⟩) Q) :=
  Tri.stepV okA (k := 40) (fuel := 70) (l := a5) (ks := wK) gs_lt' (by kernel_rfl) (by unfold Alike; kernel_rfl) (by kernel_rfl) (by kernel_rfl) (by kernel_rfl)
theorem w_2_45 (M : Nat → Nat) (h : H8) (w0 : World) (at_ : Int) (W : Nat → Nat) (Q : Exit → Act → World → Prop) : Tri Tryd.prog E 282 wB (At gs 282 w0 (wF 2 at_ 45) ⟨wH 2 M h W, p66⟩) (Exit.then (At gs 282 w0 (wF 2 at_ 46) ⟨wH 2 M h (upN W 45 (rpV 45 W)), p66⟩) Q) :=
  Tri.stepV okA (k := 40) (fuel := 70) (l := a5) (ks := wK) gs_lt' (by kernel_rfl) (by unfold Alike; kernel_rfl) (by kernel_rfl) (by kernel_rfl) (by kernel_rfl)
theorem w_2_46 (M : Nat → Nat) (h : H8) (w0 : World) (at_ : Int) (W : Nat → Nat) (Q : Exit → Act → World → Prop) : Tri Tryd.prog E 282 wB (At gs 282 w0 (wF 2 at_ 46) ⟨wH 2 M h W, p66⟩) (Exit.then (At gs 282 w0 (wF 2 at_ 47) ⟨wH 2 M h (upN W 46 (rpV 46 W)), p66⟩) Q) :=
  Tri.stepV okA (k := 40) (fuel := 70) (l := a5) (ks := wK) gs_lt' (by kernel_rfl) (by unfold Alike; kernel_rfl) (by kernel_rfl) (by kernel_rfl) (by kernel_rfl)
theorem w_2_47 (M : Nat → Nat) (h : H8) (w0 : World) (at_ : Int) (W : Nat → Nat) (Q : Exit → Act → World → Prop) : Tri Tryd.prog E 282 wB (At gs 282 w0 (wF 2 at_ 47) ⟨wH 2 M h W, p66⟩) (Exit.then (At gs 282 w0 (wF 2 at_ 48) ⟨wH 2 M h (upN W 47 (rpV 47 W)), p66⟩) Q) :=
  Tri.stepV okA (k := 40) (fuel := 70) (l := a5) (ks := wK) gs_lt' (by kernel_rfl) (by unfold Alike; kernel_rfl) (by kernel_rfl) (by kernel_rfl) (by kernel_rfl)
theorem w_2_48 (M : Nat → Nat) (h : H8) (w0 : World) (at_ : Int) (W : Nat → Nat) (Q : Exit → Act → World → Prop) : Tri Tryd.prog E 282 wB (At gs 282 w0 (wF 2 at_ 48) ⟨wH 2 M h W, p66⟩) (Exit.then (At gs 282 w0 (wF 2 at_ 49) ⟨wH 2 M h (upN W 48 (rpV 48 W)), p66⟩) Q) :=
  Tri.stepV okA (k := 40) (fuel := 70) (l := a5) (ks := wK) gs_lt' (by kernel_rfl) (by unfold Alike; kernel_rfl) (by kernel_rfl) (by kernel_rfl) (by kernel_rfl)
theorem w_2_49 (M : Nat → Nat) (h : H8) (w0 : World) (at_ : Int) (W : Nat → Nat) (Q : Exit → Act → World → Prop) : Tri Tryd.prog E 282 wB (At gs 282 w0 (wF 2 at_ 49) ⟨wH 2 M h W, p66⟩) (Exit.then (At gs 282 w0 (wF 2 at_ 50) ⟨wH 2 M h (upN W 49 (rpV 49 W)), p66⟩) Q) :=
  Tri.stepV okA (k := 40) (fuel := 70) (l := a5) (ks := wK) gs_lt' (by kernel_rfl) (by unfold Alike; kernel_rfl) (by kernel_rfl) (by kernel_rfl) (by kernel_rfl)
theorem w_2_50 (M : Nat → Nat) (h : H8) (w0 : World) (at_ : Int) (W : Nat → Nat) (Q : Exit → Act → World → Prop) : Tri Tryd.prog E 282 wB (At gs 282 w0 (wF 2 at_ 50) ⟨wH 2 M h W, p66⟩) (Exit.then (At gs 282 w0 (wF 2 at_ 51) ⟨wH 2 M h (upN W 50 (rpV 50 W)), p66⟩) Q) :=
  Tri.stepV okA (k := 40) (fuel := 70) (l := a5) (ks := wK) gs_lt' (by kernel_rfl) (by unfold Alike; kernel_rfl) (by kernel_rfl) (by kernel_rfl) (by kernel_rfl)
theorem w_2_51 (M : Nat → Nat) (h : H8) (w0 : World) (at_ : Int) (W : Nat → Nat) (Q : Exit → Act → World → Prop) : Tri Tryd.prog E 282 wB (At gs 282 w0 (wF 2 at_ 51) ⟨wH 2 M h W, p66⟩) (Exit.then (At gs 282 w0 (wF 2 at_ 52) ⟨wH 2 M h (upN W 51 (rpV 51 W)), p66⟩) Q) :=
  Tri.stepV okA (k := 40) (fuel := 70) (l := a5) (ks := wK) gs_lt' (by kernel_rfl) (by unfold Alike; kernel_rfl) (by kernel_rfl) (by kernel_rfl) (by kernel_rfl)
theorem w_2_52 (M : Nat → Nat) (h : H8) (w0 : World) (at_ : Int) (W : Nat → Nat) (Q : Exit → Act → World → Prop) : Tri Tryd.prog E 282 wB (At gs 282 w0 (wF 2 at_ 52) ⟨wH 2 M h W, p66⟩) (Exit.then (At gs 282 w0 (wF 2 at_ 53) ⟨wH 2 M h (upN W 52 (rpV 52 W)), p66⟩) Q) :=
  Tri.stepV okA (k := 40) (fuel := 70) (l := a5) (ks := wK) gs_lt' (by kernel_rfl) (by unfold Alike; kernel_rfl) (by kernel_rfl) (by kernel_rfl) (by kernel_rfl)
theorem w_2_53 (M : Nat → Nat) (h : H8) (w0 : World) (at_ : Int) (W : Nat → Nat) (Q : Exit → Act → World → Prop) : Tri Tryd.prog E 282 wB (At gs 282 w0 (wF 2 at_ 53) ⟨wH 2 M h W, p66⟩) (Exit.then (At gs 282 w0 (wF 2 at_ 54) ⟨wH 2 M h (upN W 53 (rpV 53 W)), p66⟩) Q) :=
  Tri.stepV okA (k := 40) (fuel := 70) (l := a5) (ks := wK) gs_lt' (by kernel_rfl) (by unfold Alike; kernel_rfl) (by kernel_rfl) (by kernel_rfl) (by kernel_rfl)
theorem w_2_54 (M : Nat → Nat) (h : H8) (w0 : World) (at_ : Int) (W : Nat → Nat) (Q : Exit → Act → World → Prop) : Tri Tryd.prog E 282 wB (At gs 282 w0 (wF 2 at_ 54) ⟨wH 2 M h W, p66⟩) (Exit.then (At gs 282 w0 (wF 2 at_ 55) ⟨wH 2 M h (upN W 54 (rpV 54 W)), p66⟩) Q) :=
  Tri.stepV okA (k := 40) (fuel := 70) (l := a5) (ks := wK) gs_lt' (by kernel_rfl) (by unfold Alike; kernel_rfl) (by kernel_rfl) (by kernel_rfl) (by kernel_rfl)
theorem w_2_55 (M : Nat → Nat) (h : H8) (w0 : World) (at_ : Int) (W : Nat → Nat) (Q : Exit → Act → World → Prop) : Tri Tryd.prog E 282 wB (At gs 282 w0 (wF 2 at_ 55) ⟨wH 2 M h W, p66⟩) (Exit.then (At gs 282 w0 (wF 2 at_ 56) ⟨wH 2 M h (upN W 55 (rpV 55 W)), p66⟩) Q) :=
  Tri.stepV okA (k := 40) (fuel := 70) (l := a5) (ks := wK) gs_lt' (by kernel_rfl) (by unfold Alike; kernel_rfl) (by kernel_rfl) (by kernel_rfl) (by kernel_rfl)
theorem w_2_56 (M : Nat → Nat) (h : H8) (w0 : World) (at_ : Int) (W : Nat → Nat) (Q : Exit → Act → World → Prop) : Tri Tryd.prog E 282 wB (At gs 282 w0 (wF 2 at_ 56) ⟨wH 2 M h W, p66⟩) (Exit.then (At gs 282 w0 (wF 2 at_ 57) ⟨wH 2 M h (upN W 56 (rpV 56 W)), p66⟩) Q) :=
  Tri.stepV okA (k := 40) (fuel := 70) (l := a5) (ks := wK) gs_lt' (by kernel_rfl) (by unfold Alike; kernel_rfl) (by kernel_rfl) (by kernel_rfl) (by kernel_rfl)
theorem w_2_57 (M : Nat → Nat) (h : H8) (w0 : World) (at_ : Int) (W : Nat → Nat) (Q : Exit → Act → World → Prop) : Tri Tryd.prog E 282 wB (At gs 282 w0 (wF 2 at_ 57) ⟨wH 2 M h W, p66⟩) (Exit.then (At gs 282 w0 (wF 2 at_ 58) ⟨wH 2 M h (upN W 57 (rpV 57 W)), p66⟩) Q) :=
  Tri.stepV okA (k := 40) (fuel := 70) (l := a5) (ks := wK) gs_lt' (by kernel_rfl) (by unfold Alike; kernel_rfl) (by kernel_rfl) (by kernel_rfl) (by kernel_rfl)
theorem w_2_58 (M : Nat → Nat) (h : H8) (w0 : World) (at_ : Int) (W : Nat → Nat) (Q : Exit → Act → World → Prop) : Tri Tryd.prog E 282 wB (At gs 282 w0 (wF 2 at_ 58) ⟨wH 2 M h W, p66⟩) (Exit.then (At gs 282 w0 (wF 2 at_ 59) ⟨wH 2 M h (upN W 58 (rpV 58 W)), p66⟩) Q) :=
  Tri.stepV okA (k := 40) (fuel := 70) (l := a5) (ks := wK) gs_lt' (by kernel_rfl) (by unfold Alike; kernel_rfl) (by kernel_rfl) (by kernel_rfl) (by kernel_rfl)
theorem w_2_59 (M : Nat → Nat) (h : H8) (w0 : World) (at_ : Int) (W : Nat → Nat) (Q : Exit → Act → World → Prop) : Tri Tryd.prog E 282 wB (At gs 282 w0 (wF 2 at_ 59) ⟨wH 2 M h W, p66⟩) (Exit.then (At gs 282 w0 (wF 2 at_ 60) ⟨wH 2 M h (upN W 59 (rpV 59 W)), p66⟩) Q) :=
  Tri.stepV okA (k := 40) (fuel := 70) (l := a5) (ks := wK) gs_lt' (by kernel_rfl) (by unfold Alike; kernel_rfl) (by kernel_rfl) (by kernel_rfl) (by kernel_rfl)
theorem w_2_60 (M : Nat → Nat) (h : H8) (w0 : World) (at_ : Int) (W : Nat → Nat) (Q : Exit → Act → World → Prop) : Tri Tryd.prog E 282 wB (At gs 282 w0 (wF 2 at_ 60) ⟨wH 2 M h W, p66⟩) (Exit.then (At gs 282 w0 (wF 2 at_ 61) ⟨wH 2 M h (upN W 60 (rpV 60 W)), p66⟩) Q) :=
  Tri.stepV okA (k := 40) (fuel := 70) (l := a5) (ks := wK) gs_lt' (by kernel_rfl) (by unfold Alike; kernel_rfl) (by kernel_rfl) (by kernel_rfl) (by kernel_rfl)
theorem w_2_61 (M : Nat → Nat) (h : H8) (w0 : World) (at_ : Int) (W : Nat → Nat) (Q : Exit → Act → World → Prop) : Tri Tryd.prog E 282 wB (At gs 282 w0 (wF 2 at_ 61) ⟨wH 2 M h W, p66⟩) (Exit.then (At gs 282 w0 (wF 2 at_ 62) ⟨wH 2 M h (upN W 61 (rpV 61 W)), p66⟩) Q) :=
  Tri.stepV okA (k := 40) (fuel := 70) (l := a5) (ks := wK) gs_lt' (by kernel_rfl) (by unfold Alike; kernel_rfl) (by kernel_rfl) (by kernel_rfl) (by kernel_rfl)
theorem w_2_62 (M : Nat → Nat) (h : H8) (w0 : World) (at_ : Int) (W : Nat → Nat) (Q : Exit → Act → World → Prop) : Tri Tryd.prog E 282 wB (At gs 282 w0 (wF 2 at_ 62) ⟨wH 2 M h W, p66⟩) (Exit.then (At gs 282 w0 (wF 2 at_ 63) ⟨wH 2 M h (upN W 62 (rpV 62 W)), p66⟩) Q) :=
  Tri.stepV okA (k := 40) (fuel := 70) (l := a5) (ks := wK) gs_lt' (by kernel_rfl) (by unfold Alike; kernel_rfl) (by kernel_rfl) (by kernel_rfl) (by kernel_rfl)
theorem w_2_63 (M : Nat → Nat) (h : H8) (w0 : World) (at_ : Int) (W : Nat → Nat) (Q : Exit → Act → World → Prop) : Tri Tryd.prog E 282 wB (At gs 282 w0 (wF 2 at_ 63) ⟨wH 2 M h W, p66⟩) (Exit.then (At gs 282 w0 (wF 2 at_ 64) ⟨wH 2 M h (upN W 63 (rpV 63 W)), p66⟩) Q) :=
  Tri.stepV okA (k := 40) (fuel := 70) (l := a5) (ks := wK) gs_lt' (by kernel_rfl) (by unfold Alike; kernel_rfl) (by kernel_rfl) (by kernel_rfl) (by kernel_rfl)
theorem wv_2_0 (M : Nat → Nat) (h : H8) (w0 : World) (W : Nat → Nat) (Q : Exit → Act → World → Prop) (hW : ∀ t, 16 ≤ t → rpV t W = wnext (W (t - 2)) (W (t - 7)) (W (t - 15)) (W (t - 16))) : ∀ t, t < 64 → Tri Tryd.prog E 282 wB (At gs 282 w0 (wF 2 (.ofNat 0) t) ⟨wH 2 M h W, p66⟩) (Exit.then (At gs 282 w0 (wF 2 (.ofNat 0) (t + 1)) ⟨wH 2 M h (upN W t (Bool.rec (motive := fun _ => Nat) (wnext (W (t - 2)) (W (t - 7)) (W (t - 15)) (W (t - 16))) (be (blkB M 0) t) (Nat.blt t 16))), p66⟩) Q)
  | 0, _ => w_2_0_0 M h w0 W Q
  | 1, _ => w_2_0_1 M h w0 W Q
  | 2, _ => w_2_0_2 M h w0 W Q
  | 3, _ => w_2_0_3 M h w0 W Q
  | 4, _ => w_2_0_4 M h w0 W Q
  | 5, _ => w_2_0_5 M h w0 W Q
  | 6, _ => w_2_0_6 M h w0 W Q
  | 7, _ => w_2_0_7 M h w0 W Q
  | 8, _ => w_2_0_8 M h w0 W Q
  | 9, _ => w_2_0_9 M h w0 W Q
  | 10, _ => w_2_0_10 M h w0 W Q
  | 11, _ => w_2_0_11 M h w0 W Q
  | 12, _ => w_2_0_12 M h w0 W Q
  | 13, _ => w_2_0_13 M h w0 W Q
  | 14, _ => w_2_0_14 M h w0 W Q
  | 15, _ => w_2_0_15 M h w0 W Q
  | 16, _ => by have := w_2_16 M h w0 (.ofNat 0) W Q; rw [hW 16 (by omega)] at this; exact this
  | 17, _ => by have := w_2_17 M h w0 (.ofNat 0) W Q; rw [hW 17 (by omega)] at this; exact this
  | 18, _ => by have := w_2_18 M h w0 (.ofNat 0) W Q; rw [hW 18 (by omega)] at this; exact this
  | 19, _ => by have := w_2_19 M h w0 (.ofNat 0) W Q; rw [hW 19 (by omega)] at this; exact this
  | 20, _ => by have := w_2_20 M h w0 (.ofNat 0) W Q; rw [hW 20 (by omega)] at this; exact this
  | 21, _ => by have := w_2_21 M h w0 (.ofNat 0) W Q; rw [hW 21 (by omega)] at this; exact this
  | 22, _ => by have := w_2_22 M h w0 (.ofNat 0) W Q; rw [hW 22 (by omega)] at this; exact this
  | 23, _ => by have := w_2_23 M h w0 (.ofNat 0) W Q; rw [hW 23 (by omega)] at this; exact this
  | 24, _ => by have := w_2_24 M h w0 (.ofNat 0) W Q; rw [hW 24 (by omega)] at this; exact this
  | 25, _ => by have := w_2_25 M h w0 (.ofNat 0) W Q; rw [hW 25 (by omega)] at this; exact this
  | 26, _ => by have := w_2_26 M h w0 (.ofNat 0) W Q; rw [hW 26 (by omega)] at this; exact this
  | 27, _ => by have := w_2_27 M h w0 (.ofNat 0) W Q; rw [hW 27 (by omega)] at this; exact this
  | 28, _ => by have := w_2_28 M h w0 (.ofNat 0) W Q; rw [hW 28 (by omega)] at this; exact this
  | 29, _ => by have := w_2_29 M h w0 (.ofNat 0) W Q; rw [hW 29 (by omega)] at this; exact this
  | 30, _ => by have := w_2_30 M h w0 (.ofNat 0) W Q; rw [hW 30 (by omega)] at this; exact this
  | 31, _ => by have := w_2_31 M h w0 (.ofNat 0) W Q; rw [hW 31 (by omega)] at this; exact this
  | 32, _ => by have := w_2_32 M h w0 (.ofNat 0) W Q; rw [hW 32 (by omega)] at this; exact this
  | 33, _ => by have := w_2_33 M h w0 (.ofNat 0) W Q; rw [hW 33 (by omega)] at this; exact this
  | 34, _ => by have := w_2_34 M h w0 (.ofNat 0) W Q; rw [hW 34 (by omega)] at this; exact this
  | 35, _ => by have := w_2_35 M h w0 (.ofNat 0) W Q; rw [hW 35 (by omega)] at this; exact this
  | 36, _ => by have := w_2_36 M h w0 (.ofNat 0) W Q; rw [hW 36 (by omega)] at this; exact this
  | 37, _ => by have := w_2_37 M h w0 (.ofNat 0) W Q; rw [hW 37 (by omega)] at this; exact this
  | 38, _ => by have := w_2_38 M h w0 (.ofNat 0) W Q; rw [hW 38 (by omega)] at this; exact this
  | 39, _ => by have := w_2_39 M h w0 (.ofNat 0) W Q; rw [hW 39 (by omega)] at this; exact this
  | 40, _ => by have := w_2_40 M h w0 (.ofNat 0) W Q; rw [hW 40 (by omega)] at this; exact this
  | 41, _ => by have := w_2_41 M h w0 (.ofNat 0) W Q; rw [hW 41 (by omega)] at this; exact this
  | 42, _ => by have := w_2_42 M h w0 (.ofNat 0) W Q; rw [hW 42 (by omega)] at this; exact this
  | 43, _ => by have := w_2_43 M h w0 (.ofNat 0) W Q; rw [hW 43 (by omega)] at this; exact this
  | 44, _ => by have := w_2_44 M h w0 (.ofNat 0) W Q; rw [hW 44 (by omega)] at this; exact this
  | 45, _ => by have := w_2_45 M h w0 (.ofNat 0) W Q; rw [hW 45 (by omega)] at this; exact this
  | 46, _ => by have := w_2_46 M h w0 (.ofNat 0) W Q; rw [hW 46 (by omega)] at this; exact this
  | 47, _ => by have := w_2_47 M h w0 (.ofNat 0) W Q; rw [hW 47 (by omega)] at this; exact this
  | 48, _ => by have := w_2_48 M h w0 (.ofNat 0) W Q; rw [hW 48 (by omega)] at this; exact this
  | 49, _ => by have := w_2_49 M h w0 (.ofNat 0) W Q; rw [hW 49 (by omega)] at this; exact this
  | 50, _ => by have := w_2_50 M h w0 (.ofNat 0) W Q; rw [hW 50 (by omega)] at this; exact this
  | 51, _ => by have := w_2_51 M h w0 (.ofNat 0) W Q; rw [hW 51 (by omega)] at this; exact this
  | 52, _ => by have := w_2_52 M h w0 (.ofNat 0) W Q; rw [hW 52 (by omega)] at this; exact this
  | 53, _ => by have := w_2_53 M h w0 (.ofNat 0) W Q; rw [hW 53 (by omega)] at this; exact this
  | 54, _ => by have := w_2_54 M h w0 (.ofNat 0) W Q; rw [hW 54 (by omega)] at this; exact this
  | 55, _ => by have := w_2_55 M h w0 (.ofNat 0) W Q; rw [hW 55 (by omega)] at this; exact this
  | 56, _ => by have := w_2_56 M h w0 (.ofNat 0) W Q; rw [hW 56 (by omega)] at this; exact this
  | 57, _ => by have := w_2_57 M h w0 (.ofNat 0) W Q; rw [hW 57 (by omega)] at this; exact this
  | 58, _ => by have := w_2_58 M h w0 (.ofNat 0) W Q; rw [hW 58 (by omega)] at this; exact this
  | 59, _ => by have := w_2_59 M h w0 (.ofNat 0) W Q; rw [hW 59 (by omega)] at this; exact this
  | 60, _ => by have := w_2_60 M h w0 (.ofNat 0) W Q; rw [hW 60 (by omega)] at this; exact this
  | 61, _ => by have := w_2_61 M h w0 (.ofNat 0) W Q; rw [hW 61 (by omega)] at this; exact this
  | 62, _ => by have := w_2_62 M h w0 (.ofNat 0) W Q; rw [hW 62 (by omega)] at this; exact this
  | 63, _ => by have := w_2_63 M h w0 (.ofNat 0) W Q; rw [hW 63 (by omega)] at this; exact this
  | t + 64, h => by omega
theorem wl_2_0 (M : Nat → Nat) (h : H8) (w0 : World) (Q : Exit → Act → World → Prop) : Tri Tryd.prog E 282 (.blk 6 (.loop wB)) (At gs 282 w0 (wF 2 (.ofNat 0) 0) ⟨wH 2 M h (wAt (blkB M 0) 0), p66⟩) (Exit.then (At gs 282 w0 (wF 2 (.ofNat 0) 64) ⟨wH 2 M h (wAt (blkB M 0) 64), p66⟩) Q) :=
  Tri.blk (Tri.loop (I := fun t => At gs 282 w0 (wF 2 (.ofNat 0) t) ⟨wH 2 M h (wAt (blkB M 0) t), p66⟩) 64
    (fun t ht => by
      have h1 := wv_2_0 M h w0 (wAt (blkB M 0) t) (Exit.inBlock 6 (Exit.then (At gs 282 w0 (wF 2 (.ofNat 0) 64) ⟨wH 2 M h (wAt (blkB M 0) 64), p66⟩) Q)) (fun t _ => rnext_eq _ _ _ _) t ht
      rw [wAt_succ (blkB M 0) t rfl] at h1
      exact h1)
    (Tri.lastV okA (k := 40) (fuel := 70) (l := a5) (ks := wK) gs_lt' (by kernel_rfl) (by unfold Alike; kernel_rfl) (by kernel_rfl) (by kernel_rfl) (by kernel_rfl) (fun _ _ h => h)))
theorem wv_2_1 (M : Nat → Nat) (h : H8) (w0 : World) (W : Nat → Nat) (Q : Exit → Act → World → Prop) (hW : ∀ t, 16 ≤ t → rpV t W = wnext (W (t - 2)) (W (t - 7)) (W (t - 15)) (W (t - 16))) : ∀ t, t < 64 → Tri Tryd.prog E 282 wB (At gs 282 w0 (wF 2 (.ofNat 64) t) ⟨wH 2 M h W, p66⟩) (Exit.then (At gs 282 w0 (wF 2 (.ofNat 64) (t + 1)) ⟨wH 2 M h (upN W t (Bool.rec (motive := fun _ => Nat) (wnext (W (t - 2)) (W (t - 7)) (W (t - 15)) (W (t - 16))) (be (blkB M 1) t) (Nat.blt t 16))), p66⟩) Q)
  | 0, _ => w_2_1_0 M h w0 W Q
  | 1, _ => w_2_1_1 M h w0 W Q
  | 2, _ => w_2_1_2 M h w0 W Q
  | 3, _ => w_2_1_3 M h w0 W Q
  | 4, _ => w_2_1_4 M h w0 W Q
  | 5, _ => w_2_1_5 M h w0 W Q
  | 6, _ => w_2_1_6 M h w0 W Q
  | 7, _ => w_2_1_7 M h w0 W Q
  | 8, _ => w_2_1_8 M h w0 W Q
  | 9, _ => w_2_1_9 M h w0 W Q
  | 10, _ => w_2_1_10 M h w0 W Q
  | 11, _ => w_2_1_11 M h w0 W Q
  | 12, _ => w_2_1_12 M h w0 W Q
  | 13, _ => w_2_1_13 M h w0 W Q
  | 14, _ => w_2_1_14 M h w0 W Q
  | 15, _ => w_2_1_15 M h w0 W Q
  | 16, _ => by have := w_2_16 M h w0 (.ofNat 64) W Q; rw [hW 16 (by omega)] at this; exact this
  | 17, _ => by have := w_2_17 M h w0 (.ofNat 64) W Q; rw [hW 17 (by omega)] at this; exact this
  | 18, _ => by have := w_2_18 M h w0 (.ofNat 64) W Q; rw [hW 18 (by omega)] at this; exact this
  | 19, _ => by have := w_2_19 M h w0 (.ofNat 64) W Q; rw [hW 19 (by omega)] at this; exact this
  | 20, _ => by have := w_2_20 M h w0 (.ofNat 64) W Q; rw [hW 20 (by omega)] at this; exact this
  | 21, _ => by have := w_2_21 M h w0 (.ofNat 64) W Q; rw [hW 21 (by omega)] at this; exact this
  | 22, _ => by have := w_2_22 M h w0 (.ofNat 64) W Q; rw [hW 22 (by omega)] at this; exact this
  | 23, _ => by have := w_2_23 M h w0 (.ofNat 64) W Q; rw [hW 23 (by omega)] at this; exact this
  | 24, _ => by have := w_2_24 M h w0 (.ofNat 64) W Q; rw [hW 24 (by omega)] at this; exact this
  | 25, _ => by have := w_2_25 M h w0 (.ofNat 64) W Q; rw [hW 25 (by omega)] at this; exact this
  | 26, _ => by have := w_2_26 M h w0 (.ofNat 64) W Q; rw [hW 26 (by omega)] at this; exact this
  | 27, _ => by have := w_2_27 M h w0 (.ofNat 64) W Q; rw [hW 27 (by omega)] at this; exact this
  | 28, _ => by have := w_2_28 M h w0 (.ofNat 64) W Q; rw [hW 28 (by omega)] at this; exact this
  | 29, _ => by have := w_2_29 M h w0 (.ofNat 64) W Q; rw [hW 29 (by omega)] at this; exact this
  | 30, _ => by have := w_2_30 M h w0 (.ofNat 64) W Q; rw [hW 30 (by omega)] at this; exact this
  | 31, _ => by have := w_2_31 M h w0 (.ofNat 64) W Q; rw [hW 31 (by omega)] at this; exact this
  | 32, _ => by have := w_2_32 M h w0 (.ofNat 64) W Q; rw [hW 32 (by omega)] at this; exact this
  | 33, _ => by have := w_2_33 M h w0 (.ofNat 64) W Q; rw [hW 33 (by omega)] at this; exact this
  | 34, _ => by have := w_2_34 M h w0 (.ofNat 64) W Q; rw [hW 34 (by omega)] at this; exact this
  | 35, _ => by have := w_2_35 M h w0 (.ofNat 64) W Q; rw [hW 35 (by omega)] at this; exact this
  | 36, _ => by have := w_2_36 M h w0 (.ofNat 64) W Q; rw [hW 36 (by omega)] at this; exact this
  | 37, _ => by have := w_2_37 M h w0 (.ofNat 64) W Q; rw [hW 37 (by omega)] at this; exact this
  | 38, _ => by have := w_2_38 M h w0 (.ofNat 64) W Q; rw [hW 38 (by omega)] at this; exact this
  | 39, _ => by have := w_2_39 M h w0 (.ofNat 64) W Q; rw [hW 39 (by omega)] at this; exact this
  | 40, _ => by have := w_2_40 M h w0 (.ofNat 64) W Q; rw [hW 40 (by omega)] at this; exact this
  | 41, _ => by have := w_2_41 M h w0 (.ofNat 64) W Q; rw [hW 41 (by omega)] at this; exact this
  | 42, _ => by have := w_2_42 M h w0 (.ofNat 64) W Q; rw [hW 42 (by omega)] at this; exact this
  | 43, _ => by have := w_2_43 M h w0 (.ofNat 64) W Q; rw [hW 43 (by omega)] at this; exact this
  | 44, _ => by have := w_2_44 M h w0 (.ofNat 64) W Q; rw [hW 44 (by omega)] at this; exact this
  | 45, _ => by have := w_2_45 M h w0 (.ofNat 64) W Q; rw [hW 45 (by omega)] at this; exact this
  | 46, _ => by have := w_2_46 M h w0 (.ofNat 64) W Q; rw [hW 46 (by omega)] at this; exact this
  | 47, _ => by have := w_2_47 M h w0 (.ofNat 64) W Q; rw [hW 47 (by omega)] at this; exact this
  | 48, _ => by have := w_2_48 M h w0 (.ofNat 64) W Q; rw [hW 48 (by omega)] at this; exact this
  | 49, _ => by have := w_2_49 M h w0 (.ofNat 64) W Q; rw [hW 49 (by omega)] at this; exact this
  | 50, _ => by have := w_2_50 M h w0 (.ofNat 64) W Q; rw [hW 50 (by omega)] at this; exact this
  | 51, _ => by have := w_2_51 M h w0 (.ofNat 64) W Q; rw [hW 51 (by omega)] at this; exact this
  | 52, _ => by have := w_2_52 M h w0 (.ofNat 64) W Q; rw [hW 52 (by omega)] at this; exact this
  | 53, _ => by have := w_2_53 M h w0 (.ofNat 64) W Q; rw [hW 53 (by omega)] at this; exact this
  | 54, _ => by have := w_2_54 M h w0 (.ofNat 64) W Q; rw [hW 54 (by omega)] at this; exact this
  | 55, _ => by have := w_2_55 M h w0 (.ofNat 64) W Q; rw [hW 55 (by omega)] at this; exact this
  | 56, _ => by have := w_2_56 M h w0 (.ofNat 64) W Q; rw [hW 56 (by omega)] at this; exact this
  | 57, _ => by have := w_2_57 M h w0 (.ofNat 64) W Q; rw [hW 57 (by omega)] at this; exact this
  | 58, _ => by have := w_2_58 M h w0 (.ofNat 64) W Q; rw [hW 58 (by omega)] at this; exact this
  | 59, _ => by have := w_2_59 M h w0 (.ofNat 64) W Q; rw [hW 59 (by omega)] at this; exact this
  | 60, _ => by have := w_2_60 M h w0 (.ofNat 64) W Q; rw [hW 60 (by omega)] at this; exact this
  | 61, _ => by have := w_2_61 M h w0 (.ofNat 64) W Q; rw [hW 61 (by omega)] at this; exact this
  | 62, _ => by have := w_2_62 M h w0 (.ofNat 64) W Q; rw [hW 62 (by omega)] at this; exact this
  | 63, _ => by have := w_2_63 M h w0 (.ofNat 64) W Q; rw [hW 63 (by omega)] at this; exact this
  | t + 64, h => by omega
theorem wl_2_1 (M : Nat → Nat) (h : H8) (w0 : World) (Q : Exit → Act → World → Prop) : Tri Tryd.prog E 282 (.blk 6 (.loop wB)) (At gs 282 w0 (wF 2 (.ofNat 64) 0) ⟨wH 2 M h (wAt (blkB M 1) 0), p66⟩) (Exit.then (At gs 282 w0 (wF 2 (.ofNat 64) 64) ⟨wH 2 M h (wAt (blkB M 1) 64), p66⟩) Q) :=
  Tri.blk (Tri.loop (I := fun t => At gs 282 w0 (wF 2 (.ofNat 64) t) ⟨wH 2 M h (wAt (blkB M 1) t), p66⟩) 64
    (fun t ht => by
      have h1 := wv_2_1 M h w0 (wAt (blkB M 1) t) (Exit.inBlock 6 (Exit.then (At gs 282 w0 (wF 2 (.ofNat 64) 64) ⟨wH 2 M h (wAt (blkB M 1) 64), p66⟩) Q)) (fun t _ => rnext_eq _ _ _ _) t ht
      rw [wAt_succ (blkB M 1) t rfl] at h1
      exact h1)
    (Tri.lastV okA (k := 40) (fuel := 70) (l := a5) (ks := wK) gs_lt' (by kernel_rfl) (by unfold Alike; kernel_rfl) (by kernel_rfl) (by kernel_rfl) (by kernel_rfl) (fun _ _ h => h)))
theorem r_2_0 (M : Nat → Nat) (h : H8) (w0 : World) (at_ : Int) (W : Nat → Nat) (x : H8) (Q : Exit → Act → World → Prop) : Tri Tryd.prog E 282 rB (At gs 282 w0 (rF 2 at_ 0) ⟨rH 2 M h W x, p67⟩) (Exit.then (At gs 282 w0 (rF 2 at_ 1) ⟨rH 2 M h W (rndR (getN kW 0) (W 0) x), p67⟩) Q) :=
  Tri.stepV okA (k := 40) (fuel := 70) (l := (a6 (slP (T.get p14 (rA (xr machA 40 70 rB (rF 2 (.ofNat 0) 0) ⟨rH 2 (fun _ => 0) h8zero (fun _ => 0) h8zero, p67⟩)))))) (ks := rK) gs_lt' (by kernel_rfl) (by unfold Alike; kernel_rfl) (by kernel_rfl) (by kernel_rfl) (by kernel_rfl)
theorem r_2_1 (M : Nat → Nat) (h : H8) (w0 : World) (at_ : Int) (W : Nat → Nat) (x : H8) (Q : Exit → Act → World → Prop) : Tri Tryd.prog E 282 rB (At gs 282 w0 (rF 2 at_ 1) ⟨rH 2 M h W x, p67⟩) (Exit.then (At gs 282 w0 (rF 2 at_ 2) ⟨rH 2 M h W (rndR (getN kW 1) (W 1) x), p67⟩) Q) :=
  Tri.stepV okA (k := 40) (fuel := 70) (l := (a6 (slP (T.get p14 (rA (xr machA 40 70 rB (rF 2 (.ofNat 0) 1) ⟨rH 2 (fun _ => 0) h8zero (fun _ => 0) h8zero, p67⟩)))))) (ks := rK) gs_lt' (by kernel_rfl) (by unfold Alike; kernel_rfl) (by kernel_rfl) (by kernel_rfl) (by kernel_rfl)
theorem r_2_2 (M : Nat → Nat) (h : H8) (w0 : World) (at_ : Int) (W : Nat → Nat) (x : H8) (Q : Exit → Act → World → Prop) : Tri Tryd.prog E 282 rB (At gs 282 w0 (rF 2 at_ 2) ⟨rH 2 M h W x, p67⟩) (Exit.then (At gs 282 w0 (rF 2 at_ 3) ⟨rH 2 M h W (rndR (getN kW 2) (W 2) x), p67⟩) Q) :=
  Tri.stepV okA (k := 40) (fuel := 70) (l := (a6 (slP (T.get p14 (rA (xr machA 40 70 rB (rF 2 (.ofNat 0) 2) ⟨rH 2 (fun _ => 0) h8zero (fun _ => 0) h8zero, p67⟩)))))) (ks := rK) gs_lt' (by kernel_rfl) (by unfold Alike; kernel_rfl) (by kernel_rfl) (by kernel_rfl) (by kernel_rfl)
theorem r_2_3 (M : Nat → Nat) (h : H8) (w0 : World) (at_ : Int) (W : Nat → Nat) (x : H8) (Q : Exit → Act → World → Prop) : Tri Tryd.prog E 282 rB (At gs 282 w0 (rF 2 at_ 3) ⟨rH 2 M h W x, p67⟩) (Exit.then (At gs 282 w0 (rF 2 at_ 4) ⟨rH 2 M h W (rndR (getN kW 3) (W 3) x), p67⟩) Q) :=
  Tri.stepV okA (k := 40) (fuel := 70) (l := (a6 (slP (T.get p14 (rA (xr machA 40 70 rB (rF 2 (.ofNat 0) 3) ⟨rH 2 (fun _ => 0) h8zero (fun _ => 0) h8zero, p67⟩)))))) (ks := rK) gs_lt' (by kernel_rfl) (by unfold Alike; kernel_rfl) (by kernel_rfl) (by kernel_rfl) (by kernel_rfl)
theorem r_2_4 (M : Nat → Nat) (h : H8) (w0 : World) (at_ : Int) (W : Nat → Nat) (x : H8) (Q : Exit → Act → World → Prop) : Tri Tryd.prog E 282 rB (At gs 282 w0 (rF 2 at_ 4) ⟨rH 2 M h W x, p67⟩) (Exit.then (At gs 282 w0 (rF 2 at_ 5) ⟨rH 2 M h W (rndR (getN kW 4) (W 4) x), p67⟩) Q) :=
  Tri.stepV okA (k := 40) (fuel := 70) (l := (a6 (slP (T.get p14 (rA (xr machA 40 70 rB (rF 2 (.ofNat 0) 4) ⟨rH 2 (fun _ => 0) h8zero (fun _ => 0) h8zero, p67⟩)))))) (ks := rK) gs_lt' (by kernel_rfl) (by unfold Alike; kernel_rfl) (by kernel_rfl) (by kernel_rfl) (by kernel_rfl)
theorem r_2_5 (M : Nat → Nat) (h : H8) (w0 : World) (at_ : Int) (W : Nat → Nat) (x : H8) (Q : Exit → Act → World → Prop) : Tri Tryd.prog E 282 rB (At gs 282 w0 (rF 2 at_ 5) ⟨rH 2 M h W x, p67⟩) (Exit.then (At gs 282 w0 (rF 2 at_ 6) ⟨rH 2 M h W (rndR (getN kW 5) (W 5) x), p67⟩) Q) :=
  Tri.stepV okA (k := 40) (fuel := 70) (l := (a6 (slP (T.get p14 (rA (xr machA 40 70 rB (rF 2 (.ofNat 0) 5) ⟨rH 2 (fun _ => 0) h8zero (fun _ => 0) h8zero, p67⟩)))))) (ks := rK) gs_lt' (by kernel_rfl) (by unfold Alike; kernel_rfl) (by kernel_rfl) (by kernel_rfl) (by kernel_rfl)
theorem r_2_6 (M : Nat → Nat) (h : H8) (w0 : World) (at_ : Int) (W : Nat → Nat) (x : H8) (Q : Exit → Act → World → Prop) : Tri Tryd.prog E 282 rB (At gs 282 w0 (rF 2 at_ 6) ⟨rH 2 M h W x, p67⟩) (Exit.then (At gs 282 w0 (rF 2 at_ 7) ⟨rH 2 M h W (rndR (getN kW 6) (W 6) x), p67⟩) Q) :=
  Tri.stepV okA (k := 40) (fuel := 70) (l := (a6 (slP (T.get p14 (rA (xr machA 40 70 rB (rF 2 (.ofNat 0) 6) ⟨rH 2 (fun _ => 0) h8zero (fun _ => 0) h8zero, p67⟩)))))) (ks := rK) gs_lt' (by kernel_rfl) (by unfold Alike; kernel_rfl) (by kernel_rfl) (by kernel_rfl) (by kernel_rfl)
theorem r_2_7 (M : Nat → Nat) (h : H8) (w0 : World) (at_ : Int) (W : Nat → Nat) (x : H8) (Q : Exit → Act → World → Prop) : Tri Tryd.prog E 282 rB (At gs 282 w0 (rF 2 at_ 7) ⟨rH 2 M h W x, p67⟩) (Exit.then (At gs 282 w0 (rF 2 at_ 8) ⟨rH 2 M h W (rndR (getN kW 7) (W 7) x), p67⟩) Q) :=
  Tri.stepV okA (k := 40) (fuel := 70) (l := (a6 (slP (T.get p14 (rA (xr machA 40 70 rB (rF 2 (.ofNat 0) 7) ⟨rH 2 (fun _ => 0) h8zero (fun _ => 0) h8zero, p67⟩)))))) (ks := rK) gs_lt' (by kernel_rfl) (by unfold Alike; kernel_rfl) (by kernel_rfl) (by kernel_rfl) (by kernel_rfl)
theorem r_2_8 (M : Nat → Nat) (h : H8) (w0 : World) (at_ : Int) (W : Nat → Nat) (x : H8) (Q : Exit → Act → World → Prop) : Tri Tryd.prog E 282 rB (At gs 282 w0 (rF 2 at_ 8) ⟨rH 2 M h W x, p67⟩) (Exit.then (At gs 282 w0 (rF 2 at_ 9) ⟨rH 2 M h W (rndR (getN kW 8) (W 8) x), p67⟩) Q) :=
  Tri.stepV okA (k := 40) (fuel := 70) (l := (a6 (slP (T.get p14 (rA (xr machA 40 70 rB (rF 2 (.ofNat 0) 8) ⟨rH 2 (fun _ => 0) h8zero (fun _ => 0) h8zero, p67⟩)))))) (ks := rK) gs_lt' (by kernel_rfl) (by unfold Alike; kernel_rfl) (by kernel_rfl) (by kernel_rfl) (by kernel_rfl)
theorem r_2_9 (M : Nat → Nat) (h : H8) (w0 : World) (at_ : Int) (W : Nat → Nat) (x : H8) (Q : Exit → Act → World → Prop) : Tri Tryd.prog E 282 rB (At gs 282 w0 (rF 2 at_ 9) ⟨rH 2 M h W x, p67⟩) (Exit.then (At gs 282 w0 (rF 2 at_ 10) ⟨rH 2 M h W (rndR (getN kW 9) (W 9) x), p67⟩) Q) :=
  Tri.stepV okA (k := 40) (fuel := 70) (l := (a6 (slP (T.get p14 (rA (xr machA 40 70 rB (rF 2 (.ofNat 0) 9) ⟨rH 2 (fun _ => 0) h8zero (fun _ => 0) h8zero, p67⟩)))))) (ks := rK) gs_lt' (by kernel_rfl) (by unfold Alike; kernel_rfl) (by kernel_rfl) (by kernel_rfl) (by kernel_rfl)
theorem r_2_10 (M : Nat → Nat) (h : H8) (w0 : World) (at_ : Int) (W : Nat → Nat) (x : H8) (Q : Exit → Act → World → Prop) : Tri Tryd.prog E 282 rB (At gs 282 w0 (rF 2 at_ 10) ⟨rH 2 M h W x, p67⟩) (Exit.then (At gs 282 w0 (rF 2 at_ 11) ⟨rH 2 M h W (rndR (getN kW 10) (W 10) x), p67⟩) Q) :=
  Tri.stepV okA (k := 40) (fuel := 70) (l := (a6 (slP (T.get p14 (rA (xr machA 40 70 rB (rF 2 (.ofNat 0) 10) ⟨rH 2 (fun _ => 0) h8zero (fun _ => 0) h8zero, p67⟩)))))) (ks := rK) gs_lt' (by kernel_rfl) (by unfold Alike; kernel_rfl) (by kernel_rfl) (by kernel_rfl) (by kernel_rfl)
theorem r_2_11 (M : Nat → Nat) (h : H8) (w0 : World) (at_ : Int) (W : Nat → Nat) (x : H8) (Q : Exit → Act → World → Prop) : Tri Tryd.prog E 282 rB (At gs 282 w0 (rF 2 at_ 11) ⟨rH 2 M h W x, p67⟩) (Exit.then (At gs 282 w0 (rF 2 at_ 12) ⟨rH 2 M h W (rndR (getN kW 11) (W 11) x), p67⟩) Q) :=
  Tri.stepV okA (k := 40) (fuel := 70) (l := (a6 (slP (T.get p14 (rA (xr machA 40 70 rB (rF 2 (.ofNat 0) 11) ⟨rH 2 (fun _ => 0) h8zero (fun _ => 0) h8zero, p67⟩)))))) (ks := rK) gs_lt' (by kernel_rfl) (by unfold Alike; kernel_rfl) (by kernel_rfl) (by kernel_rfl) (by kernel_rfl)
theorem r_2_12 (M : Nat → Nat) (h : H8) (w0 : World) (at_ : Int) (W : Nat → Nat) (x : H8) (Q : Exit → Act → World → Prop) : Tri Tryd.prog E 282 rB (At gs 282 w0 (rF 2 at_ 12) ⟨rH 2 M h W x, p67⟩) (Exit.then (At gs 282 w0 (rF 2 at_ 13) ⟨rH 2 M h W (rndR (getN kW 12) (W 12) x), p67⟩) Q) :=
  Tri.stepV okA (k := 40) (fuel := 70) (l := (a6 (slP (T.get p14 (rA (xr machA 40 70 rB (rF 2 (.ofNat 0) 12) ⟨rH 2 (fun _ => 0) h8zero (fun _ => 0) h8zero, p67⟩)))))) (ks := rK) gs_lt' (by kernel_rfl) (by unfold Alike; kernel_rfl) (by kernel_rfl) (by kernel_rfl) (by kernel_rfl)
theorem r_2_13 (M : Nat → Nat) (h : H8) (w0 : World) (at_ : Int) (W : Nat → Nat) (x : H8) (Q : Exit → Act → World → Prop) : Tri Tryd.prog E 282 rB (At gs 282 w0 (rF 2 at_ 13) ⟨rH 2 M h W x, p67⟩) (Exit.then (At gs 282 w0 (rF 2 at_ 14) ⟨rH 2 M h W (rndR (getN kW 13) (W 13) x), p67⟩) Q) :=
  Tri.stepV okA (k := 40) (fuel := 70) (l := (a6 (slP (T.get p14 (rA (xr machA 40 70 rB (rF 2 (.ofNat 0) 13) ⟨rH 2 (fun _ => 0) h8zero (fun _ => 0) h8zero, p67⟩)))))) (ks := rK) gs_lt' (by kernel_rfl) (by unfold Alike; kernel_rfl) (by kernel_rfl) (by kernel_rfl) (by kernel_rfl)
theorem r_2_14 (M : Nat → Nat) (h : H8) (w0 : World) (at_ : Int) (W : Nat → Nat) (x : H8) (Q : Exit → Act → World → Prop) : Tri Tryd.prog E 282 rB (At gs 282 w0 (rF 2 at_ 14) ⟨rH 2 M h W x, p67⟩) (Exit.then (At gs 282 w0 (rF 2 at_ 15) ⟨rH 2 M h W (rndR (getN kW 14) (W 14) x), p67⟩) Q) :=
  Tri.stepV okA (k := 40) (fuel := 70) (l := (a6 (slP (T.get p14 (rA (xr machA 40 70 rB (rF 2 (.ofNat 0) 14) ⟨rH 2 (fun _ => 0) h8zero (fun _ => 0) h8zero, p67⟩)))))) (ks := rK) gs_lt' (by kernel_rfl) (by unfold Alike; kernel_rfl) (by kernel_rfl) (by kernel_rfl) (by kernel_rfl)
theorem r_2_15 (M : Nat → Nat) (h : H8) (w0 : World) (at_ : Int) (W : Nat → Nat) (x : H8) (Q : Exit → Act → World → Prop) : Tri Tryd.prog E 282 rB (At gs 282 w0 (rF 2 at_ 15) ⟨rH 2 M h W x, p67⟩) (Exit.then (At gs 282 w0 (rF 2 at_ 16) ⟨rH 2 M h W (rndR (getN kW 15) (W 15) x), p67⟩) Q) :=
  Tri.stepV okA (k := 40) (fuel := 70) (l := (a6 (slP (T.get p14 (rA (xr machA 40 70 rB (rF 2 (.ofNat 0) 15) ⟨rH 2 (fun _ => 0) h8zero (fun _ => 0) h8zero, p67⟩)))))) (ks := rK) gs_lt' (by kernel_rfl) (by unfold Alike; kernel_rfl) (by kernel_rfl) (by kernel_rfl) (by kernel_rfl)
theorem r_2_16 (M : Nat → Nat) (h : H8) (w0 : World) (at_ : Int) (W : Nat → Nat) (x : H8) (Q : Exit → Act → World → Prop) : Tri Tryd.prog E 282 rB (At gs 282 w0 (rF 2 at_ 16) ⟨rH 2 M h W x, p67⟩) (Exit.then (At gs 282 w0 (rF 2 at_ 17) ⟨rH 2 M h W (rndR (getN kW 16) (W 16) x), p67⟩) Q) :=
  Tri.stepV okA (k := 40) (fuel := 70) (l := (a6 (slP (T.get p14 (rA (xr machA 40 70 rB (rF 2 (.ofNat 0) 16) ⟨rH 2 (fun _ => 0) h8zero (fun _ => 0) h8zero, p67⟩)))))) (ks := rK) gs_lt' (by kernel_rfl) (by unfold Alike; kernel_rfl) (by kernel_rfl) (by kernel_rfl) (by kernel_rfl)
theorem r_2_17 (M : Nat → Nat) (h : H8) (w0 : World) (at_ : Int) (W : Nat → Nat) (x : H8) (Q : Exit → Act → World → Prop) : Tri Tryd.prog E 282 rB (At gs 282 w0 (rF 2 at_ 17) ⟨rH 2 M h W x, p67⟩) (Exit.then (At gs 282 w0 (rF 2 at_ 18) ⟨rH 2 M h W (rndR (getN kW 17) (W 17) x), p67⟩) Q) :=
  Tri.stepV okA (k := 40) (fuel := 70) (l := (a6 (slP (T.get p14 (rA (xr machA 40 70 rB (rF 2 (.ofNat 0) 17) ⟨rH 2 (fun _ => 0) h8zero (fun _ => 0) h8zero, p67⟩)))))) (ks := rK) gs_lt' (by kernel_rfl) (by unfold Alike; kernel_rfl) (by kernel_rfl) (by kernel_rfl) (by kernel_rfl)
theorem r_2_18 (M : Nat → Nat) (h : H8) (w0 : World) (at_ : Int) (W : Nat → Nat) (x : H8) (Q : Exit → Act → World → Prop) : Tri Tryd.prog E 282 rB (At gs 282 w0 (rF 2 at_ 18) ⟨rH 2 M h W x, p67⟩) (Exit.then (At gs 282 w0 (rF 2 at_ 19) ⟨rH 2 M h W (rndR (getN kW 18) (W 18) x), p67⟩) Q) :=
  Tri.stepV okA (k := 40) (fuel := 70) (l := (a6 (slP (T.get p14 (rA (xr machA 40 70 rB (rF 2 (.ofNat 0) 18) ⟨rH 2 (fun _ => 0) h8zero (fun _ => 0) h8zero, p67⟩)))))) (ks := rK) gs_lt' (by kernel_rfl) (by unfold Alike; kernel_rfl) (by kernel_rfl) (by kernel_rfl) (by kernel_rfl)
theorem r_2_19 (M : Nat → Nat) (h : H8) (w0 : World) (at_ : Int) (W : Nat → Nat) (x : H8) (Q : Exit → Act → World → Prop) : Tri Tryd.prog E 282 rB (At gs 282 w0 (rF 2 at_ 19) ⟨rH 2 M h W x, p67⟩) (Exit.then (At gs 282 w0 (rF 2 at_ 20) ⟨rH 2 M h W (rndR (getN kW 19) (W 19) x), p67⟩) Q) :=
  Tri.stepV okA (k := 40) (fuel := 70) (l := (a6 (slP (T.get p14 (rA (xr machA 40 70 rB (rF 2 (.ofNat 0) 19) ⟨rH 2 (fun _ => 0) h8zero (fun _ => 0) h8zero, p67⟩)))))) (ks := rK) gs_lt' (by kernel_rfl) (by unfold Alike; kernel_rfl) (by kernel_rfl) (by kernel_rfl) (by kernel_rfl)
theorem r_2_20 (M : Nat → Nat) (h : H8) (w0 : World) (at_ : Int) (W : Nat → Nat) (x : H8) (Q : Exit → Act → World → Prop) : Tri Tryd.prog E 282 rB (At gs 282 w0 (rF 2 at_ 20) ⟨rH 2 M h W x, p67⟩) (Exit.then (At gs 282 w0 (rF 2 at_ 21) ⟨rH 2 M h W (rndR (getN kW 20) (W 20) x), p67⟩) Q) :=
  Tri.stepV okA (k := 40) (fuel := 70) (l := (a6 (slP (T.get p14 (rA (xr machA 40 70 rB (rF 2 (.ofNat 0) 20) ⟨rH 2 (fun _ => 0) h8zero (fun _ => 0) h8zero, p67⟩)))))) (ks := rK) gs_lt' (by kernel_rfl) (by unfold Alike; kernel_rfl) (by kernel_rfl) (by kernel_rfl) (by kernel_rfl)
theorem r_2_21 (M : Nat → Nat) (h : H8) (w0 : World) (at_ : Int) (W : Nat → Nat) (x : H8) (Q : Exit → Act → World → Prop) : Tri Tryd.prog E 282 rB (At gs 282 w0 (rF 2 at_ 21) ⟨rH 2 M h W x, p67⟩) (Exit.then (At gs 282 w0 (rF 2 at_ 22) ⟨rH 2 M h W (rndR (getN kW 21) (W 21) x), p67⟩) Q) :=
  Tri.stepV okA (k := 40) (fuel := 70) (l := (a6 (slP (T.get p14 (rA (xr machA 40 70 rB (rF 2 (.ofNat 0) 21) ⟨rH 2 (fun _ => 0) h8zero (fun _ => 0) h8zero, p67⟩)))))) (ks := rK) gs_lt' (by kernel_rfl) (by unfold Alike; kernel_rfl) (by kernel_rfl) (by kernel_rfl) (by kernel_rfl)
theorem r_2_22 (M : Nat → Nat) (h : H8) (w0 : World) (at_ : Int) (W : Nat → Nat) (x : H8) (Q : Exit → Act → World → Prop) : Tri Tryd.prog E 282 rB (At gs 282 w0 (rF 2 at_ 22) ⟨rH 2 M h W x, p67⟩) (Exit.then (At gs 282 w0 (rF 2 at_ 23) ⟨rH 2 M h W (rndR (getN kW 22) (W 22) x), p67⟩) Q) :=
  Tri.stepV okA (k := 40) (fuel := 70) (l := (a6 (slP (T.get p14 (rA (xr machA 40 70 rB (rF 2 (.ofNat 0) 22) ⟨rH 2 (fun _ => 0) h8zero (fun _ => 0) h8zero, p67⟩)))))) (ks := rK) gs_lt' (by kernel_rfl) (by unfold Alike; kernel_rfl) (by kernel_rfl) (by kernel_rfl) (by kernel_rfl)
theorem r_2_23 (M : Nat → Nat) (h : H8) (w0 : World) (at_ : Int) (W : Nat → Nat) (x : H8) (Q : Exit → Act → World → Prop) : Tri Tryd.prog E 282 rB (At gs 282 w0 (rF 2 at_ 23) ⟨rH 2 M h W x, p67⟩) (Exit.then (At gs 282 w0 (rF 2 at_ 24) ⟨rH 2 M h W (rndR (getN kW 23) (W 23) x), p67⟩) Q) :=
  Tri.stepV okA (k := 40) (fuel := 70) (l := (a6 (slP (T.get p14 (rA (xr machA 40 70 rB (rF 2 (.ofNat 0) 23) ⟨rH 2 (fun _ => 0) h8zero (fun _ => 0) h8zero, p67⟩)))))) (ks := rK) gs_lt' (by kernel_rfl) (by unfold Alike; kernel_rfl) (by kernel_rfl) (by kernel_rfl) (by kernel_rfl)
theorem r_2_24 (M : Nat → Nat) (h : H8) (w0 : World) (at_ : Int) (W : Nat → Nat) (x : H8) (Q : Exit → Act → World → Prop) : Tri Tryd.prog E 282 rB (At gs 282 w0 (rF 2 at_ 24) ⟨rH 2 M h W x, p67⟩) (Exit.then (At gs 282 w0 (rF 2 at_ 25) ⟨rH 2 M h W (rndR (getN kW 24) (W 24) x), p67⟩) Q) :=
  Tri.stepV okA (k := 40) (fuel := 70) (l := (a6 (slP (T.get p14 (rA (xr machA 40 70 rB (rF 2 (.ofNat 0) 24) ⟨rH 2 (fun _ => 0) h8zero (fun _ => 0) h8zero, p67⟩)))))) (ks := rK) gs_lt' (by kernel_rfl) (by unfold Alike; kernel_rfl) (by kernel_rfl) (by kernel_rfl) (by kernel_rfl)
theorem r_2_25 (M : Nat → Nat) (h : H8) (w0 : World) (at_ : Int) (W : Nat → Nat) (x : H8) (Q : Exit → Act → World → Prop) : Tri Tryd.prog E 282 rB (At gs 282 w0 (rF 2 at_ 25) ⟨rH 2 M h W x, p67⟩) (Exit.then (At gs 282 w0 (rF 2 at_ 26) ⟨rH 2 M h W (rndR (getN kW 25) (W 25) x), p67⟩) Q) :=
  Tri.stepV okA (k := 40) (fuel := 70) (l := (a6 (slP (T.get p14 (rA (xr machA 40 70 rB (rF 2 (.ofNat 0) 25) ⟨rH 2 (fun _ => 0) h8zero (fun _ => 0) h8zero, p67⟩)))))) (ks := rK) gs_lt' (by kernel_rfl) (by unfold Alike; kernel_rfl) (by kernel_rfl) (by kernel_rfl) (by kernel_rfl)
theorem r_2_26 (M : Nat → Nat) (h : H8) (w0 : World) (at_ : Int) (W : Nat → Nat) (x : H8) (Q : Exit → Act → World → Prop) : Tri Tryd.prog E 282 rB (At gs 282 w0 (rF 2 at_ 26) ⟨rH 2 M h W x, p67⟩) (Exit.then (At gs 282 w0 (rF 2 at_ 27) ⟨rH 2 M h W (rndR (getN kW 26) (W 26) x), p67⟩) Q) :=
  Tri.stepV okA (k := 40) (fuel := 70) (l := (a6 (slP (T.get p14 (rA (xr machA 40 70 rB (rF 2 (.ofNat 0) 26) ⟨rH 2 (fun _ => 0) h8zero (fun _ => 0) h8zero, p67⟩)))))) (ks := rK) gs_lt' (by kernel_rfl) (by unfold Alike; kernel_rfl) (by kernel_rfl) (by kernel_rfl) (by kernel_rfl)
theorem r_2_27 (M : Nat → Nat) (h : H8) (w0 : World) (at_ : Int) (W : Nat → Nat) (x : H8) (Q : Exit → Act → World → Prop) : Tri Tryd.prog E 282 rB (At gs 282 w0 (rF 2 at_ 27) ⟨rH 2 M h W x, p67⟩) (Exit.then (At gs 282 w0 (rF 2 at_ 28) ⟨rH 2 M h W (rndR (getN kW 27) (W 27) x), p67⟩) Q) :=
  Tri.stepV okA (k := 40) (fuel := 70) (l := (a6 (slP (T.get p14 (rA (xr machA 40 70 rB (rF 2 (.ofNat 0) 27) ⟨rH 2 (fun _ => 0) h8zero (fun _ => 0) h8zero, p67⟩)))))) (ks := rK) gs_lt' (by kernel_rfl) (by unfold Alike; kernel_rfl) (by kernel_rfl) (by kernel_rfl) (by kernel_rfl)
theorem r_2_28 (M : Nat → Nat) (h : H8) (w0 : World) (at_ : Int) (W : Nat → Nat) (x : H8) (Q : Exit → Act → World → Prop) : Tri Tryd.prog E 282 rB (At gs 282 w0 (rF 2 at_ 28) ⟨rH 2 M h W x, p67⟩) (Exit.then (At gs 282 w0 (rF 2 at_ 29) ⟨rH 2 M h W (rndR (getN kW 28) (W 28) x), p67⟩) Q) :=
  Tri.stepV okA (k := 40) (fuel := 70) (l := (a6 (slP (T.get p14 (rA (xr machA 40 70 rB (rF 2 (.ofNat 0) 28) ⟨rH 2 (fun _ => 0) h8zero (fun _ => 0) h8zero, p67⟩)))))) (ks := rK) gs_lt' (by kernel_rfl) (by unfold Alike; kernel_rfl) (by kernel_rfl) (by kernel_rfl) (by kernel_rfl)
theorem r_2_29 (M : Nat → Nat) (h : H8) (w0 : World) (at_ : Int) (W : Nat → Nat) (x : H8) (Q : Exit → Act → World → Prop) : Tri Tryd.prog E 282 rB (At gs 282 w0 (rF 2 at_ 29) ⟨rH 2 M h W x, p67⟩) (Exit.then (At gs 282 w0 (rF 2 at_ 30) ⟨rH 2 M h W (rndR (getN kW 29) (W 29) x), p67⟩) Q) :=
  Tri.stepV okA (k := 40) (fuel := 70) (l := (a6 (slP (T.get p14 (rA (xr machA 40 70 rB (rF 2 (.ofNat 0) 29) ⟨rH 2 (fun _ => 0) h8zero (fun _ => 0) h8zero, p67⟩)))))) (ks := rK) gs_lt' (by kernel_rfl) (by unfold Alike; kernel_rfl) (by kernel_rfl) (by kernel_rfl) (by kernel_rfl)
theorem r_2_30 (M : Nat → Nat) (h : H8) (w0 : World) (at_ : Int) (W : Nat → Nat) (x : H8) (Q : Exit → Act → World → Prop) : Tri Tryd.prog E 282 rB (At gs 282 w0 (rF 2 at_ 30) ⟨rH 2 M h W x, p67⟩) (Exit.then (At gs 282 w0 (rF 2 at_ 31) ⟨rH 2 M h W (rndR (getN kW 30) (W 30) x), p67⟩) Q) :=
  Tri.stepV okA (k := 40) (fuel := 70) (l := (a6 (slP (T.get p14 (rA (xr machA 40 70 rB (rF 2 (.ofNat 0) 30) ⟨rH 2 (fun _ => 0) h8zero (fun _ => 0) h8zero, p67⟩)))))) (ks := rK) gs_lt' (by kernel_rfl) (by unfold Alike; kernel_rfl) (by kernel_rfl) (by kernel_rfl) (by kernel_rfl)
theorem r_2_31 (M : Nat → Nat) (h : H8) (w0 : World) (at_ : Int) (W : Nat → Nat) (x : H8) (Q : Exit → Act → World → Prop) : Tri Tryd.prog E 282 rB (At gs 282 w0 (rF 2 at_ 31) ⟨rH 2 M h W x, p67⟩) (Exit.then (At gs 282 w0 (rF 2 at_ 32) ⟨rH 2 M h W (rndR (getN kW 31) (W 31) x), p67⟩) Q) :=
  Tri.stepV okA (k := 40) (fuel := 70) (l := (a6 (slP (T.get p14 (rA (xr machA 40 70 rB (rF 2 (.ofNat 0) 31) ⟨rH 2 (fun _ => 0) h8zero (fun _ => 0) h8zero, p67⟩)))))) (ks := rK) gs_lt' (by kernel_rfl) (by unfold Alike; kernel_rfl) (by kernel_rfl) (by kernel_rfl) (by kernel_rfl)
theorem r_2_32 (M : Nat → Nat) (h : H8) (w0 : World) (at_ : Int) (W : Nat → Nat) (x : H8) (Q : Exit → Act → World → Prop) : Tri Tryd.prog E 282 rB (At gs 282 w0 (rF 2 at_ 32) ⟨rH 2 M h W x, p67⟩) (Exit.then (At gs 282 w0 (rF 2 at_ 33) ⟨rH 2 M h W (rndR (getN kW 32) (W 32) x), p67⟩) Q) :=
  Tri.stepV okA (k := 40) (fuel := 70) (l := (a6 (slP (T.get p14 (rA (xr machA 40 70 rB (rF 2 (.ofNat 0) 32) ⟨rH 2 (fun _ => 0) h8zero (fun _ => 0) h8zero, p67⟩)))))) (ks := rK) gs_lt' (by kernel_rfl) (by unfold Alike; kernel_rfl) (by kernel_rfl) (by kernel_rfl) (by kernel_rfl)
theorem r_2_33 (M : Nat → Nat) (h : H8) (w0 : World) (at_ : Int) (W : Nat → Nat) (x : H8) (Q : Exit → Act → World → Prop) : Tri Tryd.prog E 282 rB (At gs 282 w0 (rF 2 at_ 33) ⟨rH 2 M h W x, p67⟩) (Exit.then (At gs 282 w0 (rF 2 at_ 34) ⟨rH 2 M h W (rndR (getN kW 33) (W 33) x), p67⟩) Q) :=
  Tri.stepV okA (k := 40) (fuel := 70) (l := (a6 (slP (T.get p14 (rA (xr machA 40 70 rB (rF 2 (.ofNat 0) 33) ⟨rH 2 (fun _ => 0) h8zero (fun _ => 0) h8zero, p67⟩)))))) (ks := rK) gs_lt' (by kernel_rfl) (by unfold Alike; kernel_rfl) (by kernel_rfl) (by kernel_rfl) (by kernel_rfl)
theorem r_2_34 (M : Nat → Nat) (h : H8) (w0 : World) (at_ : Int) (W : Nat → Nat) (x : H8) (Q : Exit → Act → World → Prop) : Tri Tryd.prog E 282 rB (At gs 282 w0 (rF 2 at_ 34) ⟨rH 2 M h W x, p67⟩) (Exit.then (At gs 282 w0 (rF 2 at_ 35) ⟨rH 2 M h W (rndR (getN kW 34) (W 34) x), p67⟩) Q) :=
  Tri.stepV okA (k := 40) (fuel := 70) (l := (a6 (slP (T.get p14 (rA (xr machA 40 70 rB (rF 2 (.ofNat 0) 34) ⟨rH 2 (fun _ => 0) h8zero (fun _ => 0) h8zero, p67⟩)))))) (ks := rK) gs_lt' (by kernel_rfl) (by unfold Alike; kernel_rfl) (by kernel_rfl) (by kernel_rfl) (by kernel_rfl)
theorem r_2_35 (M : Nat → Nat) (h : H8) (w0 : World) (at_ : Int) (W : Nat → Nat) (x : H8) (Q : Exit → Act → World → Prop) : Tri Tryd.prog E 282 rB (At gs 282 w0 (rF 2 at_ 35) ⟨rH 2 M h W x, p67⟩) (Exit.then (At gs 282 w0 (rF 2 at_ 36) ⟨rH 2 M h W (rndR (getN kW 35) (W 35) x), p67⟩) Q) :=
  Tri.stepV okA (k := 40) (fuel := 70) (l := (a6 (slP (T.get p14 (rA (xr machA 40 70 rB (rF 2 (.ofNat 0) 35) ⟨rH 2 (fun _ => 0) h8zero (fun _ => 0) h8zero, p67⟩)))))) (ks := rK) gs_lt' (by kernel_rfl) (by unfold Alike; kernel_rfl) (by kernel_rfl) (by kernel_rfl) (by kernel_rfl)
theorem r_2_36 (M : Nat → Nat) (h : H8) (w0 : World) (at_ : Int) (W : Nat → Nat) (x : H8) (Q : Exit → Act → World → Prop) : Tri Tryd.prog E 282 rB (At gs 282 w0 (rF 2 at_ 36) ⟨rH 2 M h W x, p67⟩) (Exit.then (At gs 282 w0 (rF 2 at_ 37) ⟨rH 2 M h W (rndR (getN kW 36) (W 36) x), p67⟩) Q) :=
  Tri.stepV okA (k := 40) (fuel := 70) (l := (a6 (slP (T.get p14 (rA (xr machA 40 70 rB (rF 2 (.ofNat 0) 36) ⟨rH 2 (fun _ => 0) h8zero (fun _ => 0) h8zero, p67⟩)))))) (ks := rK) gs_lt' (by kernel_rfl) (by unfold Alike; kernel_rfl) (by kernel_rfl) (by kernel_rfl) (by kernel_rfl)
theorem r_2_37 (M : Nat → Nat) (h : H8) (w0 : World) (at_ : Int) (W : Nat → Nat) (x : H8) (Q : Exit → Act → World → Prop) : Tri Tryd.prog E 282 rB (At gs 282 w0 (rF 2 at_ 37) ⟨rH 2 M h W x, p67⟩) (Exit.then (At gs 282 w0 (rF 2 at_ 38) ⟨rH 2 M h W (rndR (getN kW 37) (W 37) x), p67⟩) Q) :=
  Tri.stepV okA (k := 40) (fuel := 70) (l := (a6 (slP (T.get p14 (rA (xr machA 40 70 rB (rF 2 (.ofNat 0) 37) ⟨rH 2 (fun _ => 0) h8zero (fun _ => 0) h8zero, p67⟩)))))) (ks := rK) gs_lt' (by kernel_rfl) (by unfold Alike; kernel_rfl) (by kernel_rfl) (by kernel_rfl) (by kernel_rfl)
theorem r_2_38 (M : Nat → Nat) (h : H8) (w0 : World) (at_ : Int) (W : Nat → Nat) (x : H8) (Q : Exit → Act → World → Prop) : Tri Tryd.prog E 282 rB (At gs 282 w0 (rF 2 at_ 38) ⟨rH 2 M h W x, p67⟩) (Exit.then (At gs 282 w0 (rF 2 at_ 39) ⟨rH 2 M h W (rndR (getN kW 38) (W 38) x), p67⟩) Q) :=
  Tri.stepV okA (k := 40) (fuel := 70) (l := (a6 (slP (T.get p14 (rA (xr machA 40 70 rB (rF 2 (.ofNat 0) 38) ⟨rH 2 (fun _ => 0) h8zero (fun _ => 0) h8zero, p67⟩)))))) (ks := rK) gs_lt' (by kernel_rfl) (by unfold Alike; kernel_rfl) (by kernel_rfl) (by kernel_rfl) (by kernel_rfl)
theorem r_2_39 (M : Nat → Nat) (h : H8) (w0 : World) (at_ : Int) (W : Nat → Nat) (x : H8) (Q : Exit → Act → World → Prop) : Tri Tryd.prog E 282 rB (At gs 282 w0 (rF 2 at_ 39) ⟨rH 2 M h W x, p67⟩) (Exit.then (At gs 282 w0 (rF 2 at_ 40) ⟨rH 2 M h W (rndR (getN kW 39) (W 39) x), p67⟩) Q) :=
  Tri.stepV okA (k := 40) (fuel := 70) (l := (a6 (slP (T.get p14 (rA (xr machA 40 70 rB (rF 2 (.ofNat 0) 39) ⟨rH 2 (fun _ => 0) h8zero (fun _ => 0) h8zero, p67⟩)))))) (ks := rK) gs_lt' (by kernel_rfl) (by unfold Alike; kernel_rfl) (by kernel_rfl) (by kernel_rfl) (by kernel_rfl)
theorem r_2_40 (M : Nat → Nat) (h : H8) (w0 : World) (at_ : Int) (W : Nat → Nat) (x : H8) (Q : Exit → Act → World → Prop) : Tri Tryd.prog E 282 rB (At gs 282 w0 (rF 2 at_ 40) ⟨rH 2 M h W x, p67⟩) (Exit.then (At gs 282 w0 (rF 2 at_ 41) ⟨rH 2 M h W (rndR (getN kW 40) (W 40) x), p67⟩) Q) :=
  Tri.stepV okA (k := 40) (fuel := 70) (l := (a6 (slP (T.get p14 (rA (xr machA 40 70 rB (rF 2 (.ofNat 0) 40) ⟨rH 2 (fun _ => 0) h8zero (fun _ => 0) h8zero, p67⟩)))))) (ks := rK) gs_lt' (by kernel_rfl) (by unfold Alike; kernel_rfl) (by kernel_rfl) (by kernel_rfl) (by kernel_rfl)
theorem r_2_41 (M : Nat → Nat) (h : H8) (w0 : World) (at_ : Int) (W : Nat → Nat) (x : H8) (Q : Exit → Act → World → Prop) : Tri Tryd.prog E 282 rB (At gs 282 w0 (rF 2 at_ 41) ⟨rH 2 M h W x, p67⟩) (Exit.then (At gs 282 w0 (rF 2 at_ 42) ⟨rH 2 M h W (rndR (getN kW 41) (W 41) x), p67⟩) Q) :=
  Tri.stepV okA (k := 40) (fuel := 70) (l := (a6 (slP (T.get p14 (rA (xr machA 40 70 rB (rF 2 (.ofNat 0) 41) ⟨rH 2 (fun _ => 0) h8zero (fun _ => 0) h8zero, p67⟩)))))) (ks := rK) gs_lt' (by kernel_rfl) (by unfold Alike; kernel_rfl) (by kernel_rfl) (by kernel_rfl) (by kernel_rfl)
theorem r_2_42 (M : Nat → Nat) (h : H8) (w0 : World) (at_ : Int) (W : Nat → Nat) (x : H8) (Q : Exit → Act → World → Prop) : Tri Tryd.prog E 282 rB (At gs 282 w0 (rF 2 at_ 42) ⟨rH 2 M h W x, p67⟩) (Exit.then (At gs 282 w0 (rF 2 at_ 43) ⟨rH 2 M h W (rndR (getN kW 42) (W 42) x), p67⟩) Q) :=
  Tri.stepV okA (k := 40) (fuel := 70) (l := (a6 (slP (T.get p14 (rA (xr machA 40 70 rB (rF 2 (.ofNat 0) 42) ⟨rH 2 (fun _ => 0) h8zero (fun _ => 0) h8zero, p67⟩)))))) (ks := rK) gs_lt' (by kernel_rfl) (by unfold Alike; kernel_rfl) (by kernel_rfl) (by kernel_rfl) (by kernel_rfl)
theorem r_2_43 (M : Nat → Nat) (h : H8) (w0 : World) (at_ : Int) (W : Nat → Nat) (x : H8) (Q : Exit → Act → World → Prop) : Tri Tryd.prog E 282 rB (At gs 282 w0 (rF 2 at_ 43) ⟨rH 2 M h W x, p67⟩) (Exit.then (At gs 282 w0 (rF 2 at_ 44) ⟨rH 2 M h W (rndR (getN kW 43) (W 43) x), p67⟩) Q) :=
  Tri.stepV okA (k := 40) (fuel := 70) (l := (a6 (slP (T.get p14 (rA (xr machA 40 70 rB (rF 2 (.ofNat 0) 43) ⟨rH 2 (fun _ => 0) h8zero (fun _ => 0) h8zero, p67⟩)))))) (ks := rK) gs_lt' (by kernel_rfl) (by unfold Alike; kernel_rfl) (by kernel_rfl) (by kernel_rfl) (by kernel_rfl)
theorem r_2_44 (M : Nat → Nat) (h : H8) (w0 : World) (at_ : Int) (W : Nat → Nat) (x : H8) (Q : Exit → Act → World → Prop) : Tri Tryd.prog E 282 rB (At gs 282 w0 (rF 2 at_ 44) ⟨rH 2 M h W x, p67⟩) (Exit.then (At gs 282 w0 (rF 2 at_ 45) ⟨rH 2 M h W (rndR (getN kW 44) (W 44) x), p67⟩) Q) :=
  Tri.stepV okA (k := 40) (fuel := 70) (l := (a6 (slP (T.get p14 (rA (xr machA 40 70 rB (rF 2 (.ofNat 0) 44) ⟨rH 2 (fun _ => 0) h8zero (fun _ => 0) h8zero, p67⟩)))))) (ks := rK) gs_lt' (by kernel_rfl) (by unfold Alike; kernel_rfl) (by kernel_rfl) (by kernel_rfl) (by kernel_rfl)
theorem r_2_45 (M : Nat → Nat) (h : H8) (w0 : World) (at_ : Int) (W : Nat → Nat) (x : H8) (Q : Exit → Act → World → Prop) : Tri Tryd.prog E 282 rB (At gs 282 w0 (rF 2 at_ 45) ⟨rH 2 M h W x, p67⟩) (Exit.then (At gs 282 w0 (rF 2 at_ 46) ⟨rH 2 M h W (rndR (getN kW 45) (W 45) x), p67⟩) Q) :=
  Tri.stepV okA (k := 40) (fuel := 70) (l := (a6 (slP (T.get p14 (rA (xr machA 40 70 rB (rF 2 (.ofNat 0) 45) ⟨rH 2 (fun _ => 0) h8zero (fun _ => 0) h8zero, p67⟩)))))) (ks := rK) gs_lt' (by kernel_rfl) (by unfold Alike; kernel_rfl) (by kernel_rfl) (by kernel_rfl) (by kernel_rfl)
theorem r_2_46 (M : Nat → Nat) (h : H8) (w0 : World) (at_ : Int) (W : Nat → Nat) (x : H8) (Q : Exit → Act → World → Prop) : Tri Tryd.prog E 282 rB (At gs 282 w0 (rF 2 at_ 46) ⟨rH 2 M h W x, p67⟩) (Exit.then (At gs 282 w0 (rF 2 at_ 47) ⟨rH 2 M h W (rndR (getN kW 46) (W 46) x), p67⟩) Q) :=
  Tri.stepV okA (k := 40) (fuel := 70) (l := (a6 (slP (T.get p14 (rA (xr machA 40 70 rB (rF 2 (.ofNat 0) 46) ⟨rH 2 (fun _ => 0) h8zero (fun _ => 0) h8zero, p67⟩)))))) (ks := rK) gs_lt' (by kernel_rfl) (by unfold Alike; kernel_rfl) (by kernel_rfl) (by kernel_rfl) (by kernel_rfl)
theorem r_2_47 (M : Nat → Nat) (h : H8) (w0 : World) (at_ : Int) (W : Nat → Nat) (x : H8) (Q : Exit → Act → World → Prop) : Tri Tryd.prog E 282 rB (At gs 282 w0 (rF 2 at_ 47) ⟨rH 2 M h W x, p67⟩) (Exit.then (At gs 282 w0 (rF 2 at_ 48) ⟨rH 2 M h W (rndR (getN kW 47) (W 47) x), p67⟩) Q) :=
  Tri.stepV okA (k := 40) (fuel := 70) (l := (a6 (slP (T.get p14 (rA (xr machA 40 70 rB (rF 2 (.ofNat 0) 47) ⟨rH 2 (fun _ => 0) h8zero (fun _ => 0) h8zero, p67⟩)))))) (ks := rK) gs_lt' (by kernel_rfl) (by unfold Alike; kernel_rfl) (by kernel_rfl) (by kernel_rfl) (by kernel_rfl)
theorem r_2_48 (M : Nat → Nat) (h : H8) (w0 : World) (at_ : Int) (W : Nat → Nat) (x : H8) (Q : Exit → Act → World → Prop) : Tri Tryd.prog E 282 rB (At gs 282 w0 (rF 2 at_ 48) ⟨rH 2 M h W x, p67⟩) (Exit.then (At gs 282 w0 (rF 2 at_ 49) ⟨rH 2 M h W (rndR (getN kW 48) (W 48) x), p67⟩) Q) :=
  Tri.stepV okA (k := 40) (fuel := 70) (l := (a6 (slP (T.get p14 (rA (xr machA 40 70 rB (rF 2 (.ofNat 0) 48) ⟨rH 2 (fun _ => 0) h8zero (fun _ => 0) h8zero, p67⟩)))))) (ks := rK) gs_lt' (by kernel_rfl) (by unfold Alike; kernel_rfl) (by kernel_rfl) (by kernel_rfl) (by kernel_rfl)
theorem r_2_49 (M : Nat → Nat) (h : H8) (w0 : World) (at_ : Int) (W : Nat → Nat) (x : H8) (Q : Exit → Act → World → Prop) : Tri Tryd.prog E 282 rB (At gs 282 w0 (rF 2 at_ 49) ⟨rH 2 M h W x, p67⟩) (Exit.then (At gs 282 w0 (rF 2 at_ 50) ⟨rH 2 M h W (rndR (getN kW 49) (W 49) x), p67⟩) Q) :=
  Tri.stepV okA (k := 40) (fuel := 70) (l := (a6 (slP (T.get p14 (rA (xr machA 40 70 rB (rF 2 (.ofNat 0) 49) ⟨rH 2 (fun _ => 0) h8zero (fun _ => 0) h8zero, p67⟩)))))) (ks := rK) gs_lt' (by kernel_rfl) (by unfold Alike; kernel_rfl) (by kernel_rfl) (by kernel_rfl) (by kernel_rfl)
theorem r_2_50 (M : Nat → Nat) (h : H8) (w0 : World) (at_ : Int) (W : Nat → Nat) (x : H8) (Q : Exit → Act → World → Prop) : Tri Tryd.prog E 282 rB (At gs 282 w0 (rF 2 at_ 50) ⟨rH 2 M h W x, p67⟩) (Exit.then (At gs 282 w0 (rF 2 at_ 51) ⟨rH 2 M h W (rndR (getN kW 50) (W 50) x), p67⟩) Q) :=
  Tri.stepV okA (k := 40) (fuel := 70) (l := (a6 (slP (T.get p14 (rA (xr machA 40 70 rB (rF 2 (.ofNat 0) 50) ⟨rH 2 (fun _ => 0) h8zero (fun _ => 0) h8zero, p67⟩)))))) (ks := rK) gs_lt' (by kernel_rfl) (by unfold Alike; kernel_rfl) (by kernel_rfl) (by kernel_rfl) (by kernel_rfl)
theorem r_2_51 (M : Nat → Nat) (h : H8) (w0 : World) (at_ : Int) (W : Nat → Nat) (x : H8) (Q : Exit → Act → World → Prop) : Tri Tryd.prog E 282 rB (At gs 282 w0 (rF 2 at_ 51) ⟨rH 2 M h W x, p67⟩) (Exit.then (At gs 282 w0 (rF 2 at_ 52) ⟨rH 2 M h W (rndR (getN kW 51) (W 51) x), p67⟩) Q) :=
  Tri.stepV okA (k := 40) (fuel := 70) (l := (a6 (slP (T.get p14 (rA (xr machA 40 70 rB (rF 2 (.ofNat 0) 51) ⟨rH 2 (fun _ => 0) h8zero (fun _ => 0) h8zero, p67⟩)))))) (ks := rK) gs_lt' (by kernel_rfl) (by unfold Alike; kernel_rfl) (by kernel_rfl) (by kernel_rfl) (by kernel_rfl)
theorem r_2_52 (M : Nat → Nat) (h : H8) (w0 : World) (at_ : Int) (W : Nat → Nat) (x : H8) (Q : Exit → Act → World → Prop) : Tri Tryd.prog E 282 rB (At gs 282 w0 (rF 2 at_ 52) ⟨rH 2 M h W x, p67⟩) (Exit.then (At gs 282 w0 (rF 2 at_ 53) ⟨rH 2 M h W (rndR (getN kW 52) (W 52) x), p67⟩) Q) :=
  Tri.stepV okA (k := 40) (fuel := 70) (l := (a6 (slP (T.get p14 (rA (xr machA 40 70 rB (rF 2 (.ofNat 0) 52) ⟨rH 2 (fun _ => 0) h8zero (fun _ => 0) h8zero, p67⟩)))))) (ks := rK) gs_lt' (by kernel_rfl) (by unfold Alike; kernel_rfl) (by kernel_rfl) (by kernel_rfl) (by kernel_rfl)
theorem r_2_53 (M : Nat → Nat) (h : H8) (w0 : World) (at_ : Int) (W : Nat → Nat) (x : H8) (Q : Exit → Act → World → Prop) : Tri Tryd.prog E 282 rB (At gs 282 w0 (rF 2 at_ 53) ⟨rH 2 M h W x, p67⟩) (Exit.then (At gs 282 w0 (rF 2 at_ 54) ⟨rH 2 M h W (rndR (getN kW 53) (W 53) x), p67⟩) Q) :=
  Tri.stepV okA (k := 40) (fuel := 70) (l := (a6 (slP (T.get p14 (rA (xr machA 40 70 rB (rF 2 (.ofNat 0) 53) ⟨rH 2 (fun _ => 0) h8zero (fun _ => 0) h8zero, p67⟩)))))) (ks := rK) gs_lt' (by kernel_rfl) (by unfold Alike; kernel_rfl) (by kernel_rfl) (by kernel_rfl) (by kernel_rfl)
theorem r_2_54 (M : Nat → Nat) (h : H8) (w0 : World) (at_ : Int) (W : Nat → Nat) (x : H8) (Q : Exit → Act → World → Prop) : Tri Tryd.prog E 282 rB (At gs 282 w0 (rF 2 at_ 54) ⟨rH 2 M h W x, p67⟩) (Exit.then (At gs 282 w0 (rF 2 at_ 55) ⟨rH 2 M h W (rndR (getN kW 54) (W 54) x), p67⟩) Q) :=
  Tri.stepV okA (k := 40) (fuel := 70) (l := (a6 (slP (T.get p14 (rA (xr machA 40 70 rB (rF 2 (.ofNat 0) 54) ⟨rH 2 (fun _ => 0) h8zero (fun _ => 0) h8zero, p67⟩)))))) (ks := rK) gs_lt' (by kernel_rfl) (by unfold Alike; kernel_rfl) (by kernel_rfl) (by kernel_rfl) (by kernel_rfl)
theorem r_2_55 (M : Nat → Nat) (h : H8) (w0 : World) (at_ : Int) (W : Nat → Nat) (x : H8) (Q : Exit → Act → World → Prop) : Tri Tryd.prog E 282 rB (At gs 282 w0 (rF 2 at_ 55) ⟨rH 2 M h W x, p67⟩) (Exit.then (At gs 282 w0 (rF 2 at_ 56) ⟨rH 2 M h W (rndR (getN kW 55) (W 55) x), p67⟩) Q) :=
  Tri.stepV okA (k := 40) (fuel := 70) (l := (a6 (slP (T.get p14 (rA (xr machA 40 70 rB (rF 2 (.ofNat 0) 55) ⟨rH 2 (fun _ => 0) h8zero (fun _ => 0) h8zero, p67⟩)))))) (ks := rK) gs_lt' (by kernel_rfl) (by unfold Alike; kernel_rfl) (by kernel_rfl) (by kernel_rfl) (by kernel_rfl)
theorem r_2_56 (M : Nat → Nat) (h : H8) (w0 : World) (at_ : Int) (W : Nat → Nat) (x : H8) (Q : Exit → Act → World → Prop) : Tri Tryd.prog E 282 rB (At gs 282 w0 (rF 2 at_ 56) ⟨rH 2 M h W x, p67⟩) (Exit.then (At gs 282 w0 (rF 2 at_ 57) ⟨rH 2 M h W (rndR (getN kW 56) (W 56) x), p67⟩) Q) :=
  Tri.stepV okA (k := 40) (fuel := 70) (l := (a6 (slP (T.get p14 (rA (xr machA 40 70 rB (rF 2 (.ofNat 0) 56) ⟨rH 2 (fun _ => 0) h8zero (fun _ => 0) h8zero, p67⟩)))))) (ks := rK) gs_lt' (by kernel_rfl) (by unfold Alike; kernel_rfl) (by kernel_rfl) (by kernel_rfl) (by kernel_rfl)
theorem r_2_57 (M : Nat → Nat) (h : H8) (w0 : World) (at_ : Int) (W : Nat → Nat) (x : H8) (Q : Exit → Act → World → Prop) : Tri Tryd.prog E 282 rB (At gs 282 w0 (rF 2 at_ 57) ⟨rH 2 M h W x, p67⟩) (Exit.then (At gs 282 w0 (rF 2 at_ 58) ⟨rH 2 M h W (rndR (getN kW 57) (W 57) x), p67⟩) Q) :=
  Tri.stepV okA (k := 40) (fuel := 70) (l := (a6 (slP (T.get p14 (rA (xr machA 40 70 rB (rF 2 (.ofNat 0) 57) ⟨rH 2 (fun _ => 0) h8zero (fun _ => 0) h8zero, p67⟩)))))) (ks := rK) gs_lt' (by kernel_rfl) (by unfold Alike; kernel_rfl) (by kernel_rfl) (by kernel_rfl) (by kernel_rfl)
theorem r_2_58 (M : Nat → Nat) (h : H8) (w0 : World) (at_ : Int) (W : Nat → Nat) (x : H8) (Q : Exit → Act → World → Prop) : Tri Tryd.prog E 282 rB (At gs 282 w0 (rF 2 at_ 58) ⟨rH 2 M h W x, p67⟩) (Exit.then (At gs 282 w0 (rF 2 at_ 59) ⟨rH 2 M h W (rndR (getN kW 58) (W 58) x), p67⟩) Q) :=
  Tri.stepV okA (k := 40) (fuel := 70) (l := (a6 (slP (T.get p14 (rA (xr machA 40 70 rB (rF 2 (.ofNat 0) 58) ⟨rH 2 (fun _ => 0) h8zero (fun _ => 0) h8zero, p67⟩)))))) (ks := rK) gs_lt' (by kernel_rfl) (by unfold Alike; kernel_rfl) (by kernel_rfl) (by kernel_rfl) (by kernel_rfl)
theorem r_2_59 (M : Nat → Nat) (h : H8) (w0 : World) (at_ : Int) (W : Nat → Nat) (x : H8) (Q : Exit → Act → World → Prop) : Tri Tryd.prog E 282 rB (At gs 282 w0 (rF 2 at_ 59) ⟨rH 2 M h W x, p67⟩) (Exit.then (At gs 282 w0 (rF 2 at_ 60) ⟨rH 2 M h W (rndR (getN kW 59) (W 59) x), p67⟩) Q) :=
  Tri.stepV okA (k := 40) (fuel := 70) (l := (a6 (slP (T.get p14 (rA (xr machA 40 70 rB (rF 2 (.ofNat 0) 59) ⟨rH 2 (fun _ => 0) h8zero (fun _ => 0) h8zero, p67⟩)))))) (ks := rK) gs_lt' (by kernel_rfl) (by unfold Alike; kernel_rfl) (by kernel_rfl) (by kernel_rfl) (by kernel_rfl)
theorem r_2_60 (M : Nat → Nat) (h : H8) (w0 : World) (at_ : Int) (W : Nat → Nat) (x : H8) (Q : Exit → Act → World → Prop) : Tri Tryd.prog E 282 rB (At gs 282 w0 (rF 2 at_ 60) ⟨rH 2 M h W x, p67⟩) (Exit.then (At gs 282 w0 (rF 2 at_ 61) ⟨rH 2 M h W (rndR (getN kW 60) (W 60) x), p67⟩) Q) :=
  Tri.stepV okA (k := 40) (fuel := 70) (l := (a6 (slP (T.get p14 (rA (xr machA 40 70 rB (rF 2 (.ofNat 0) 60) ⟨rH 2 (fun _ => 0) h8zero (fun _ => 0) h8zero, p67⟩)))))) (ks := rK) gs_lt' (by kernel_rfl) (by unfold Alike; kernel_rfl) (by kernel_rfl) (by kernel_rfl) (by kernel_rfl)
theorem r_2_61 (M : Nat → Nat) (h : H8) (w0 : World) (at_ : Int) (W : Nat → Nat) (x : H8) (Q : Exit → Act → World → Prop) : Tri Tryd.prog E 282 rB (At gs 282 w0 (rF 2 at_ 61) ⟨rH 2 M h W x, p67⟩) (Exit.then (At gs 282 w0 (rF 2 at_ 62) ⟨rH 2 M h W (rndR (getN kW 61) (W 61) x), p67⟩) Q) :=
  Tri.stepV okA (k := 40) (fuel := 70) (l := (a6 (slP (T.get p14 (rA (xr machA 40 70 rB (rF 2 (.ofNat 0) 61) ⟨rH 2 (fun _ => 0) h8zero (fun _ => 0) h8zero, p67⟩)))))) (ks := rK) gs_lt' (by kernel_rfl) (by unfold Alike; kernel_rfl) (by kernel_rfl) (by kernel_rfl) (by kernel_rfl)
theorem r_2_62 (M : Nat → Nat) (h : H8) (w0 : World) (at_ : Int) (W : Nat → Nat) (x : H8) (Q : Exit → Act → World → Prop) : Tri Tryd.prog E 282 rB (At gs 282 w0 (rF 2 at_ 62) ⟨rH 2 M h W x, p67⟩) (Exit.then (At gs 282 w0 (rF 2 at_ 63) ⟨rH 2 M h W (rndR (getN kW 62) (W 62) x), p67⟩) Q) :=
  Tri.stepV okA (k := 40) (fuel := 70) (l := (a6 (slP (T.get p14 (rA (xr machA 40 70 rB (rF 2 (.ofNat 0) 62) ⟨rH 2 (fun _ => 0) h8zero (fun _ => 0) h8zero, p67⟩)))))) (ks := rK) gs_lt' (by kernel_rfl) (by unfold Alike; kernel_rfl) (by kernel_rfl) (by kernel_rfl) (by kernel_rfl)
theorem r_2_63 (M : Nat → Nat) (h : H8) (w0 : World) (at_ : Int) (W : Nat → Nat) (x : H8) (Q : Exit → Act → World → Prop) : Tri Tryd.prog E 282 rB (At gs 282 w0 (rF 2 at_ 63) ⟨rH 2 M h W x, p67⟩) (Exit.then (At gs 282 w0 (rF 2 at_ 64) ⟨rH 2 M h W (rndR (getN kW 63) (W 63) x), p67⟩) Q) :=
  Tri.stepV okA (k := 40) (fuel := 70) (l := (a6 (slP (T.get p14 (rA (xr machA 40 70 rB (rF 2 (.ofNat 0) 63) ⟨rH 2 (fun _ => 0) h8zero (fun _ => 0) h8zero, p67⟩)))))) (ks := rK) gs_lt' (by kernel_rfl) (by unfold Alike; kernel_rfl) (by kernel_rfl) (by kernel_rfl) (by kernel_rfl)
theorem rv_2 (M : Nat → Nat) (h : H8) (w0 : World) (at_ : Int) (W : Nat → Nat) (x : H8) (Q : Exit → Act → World → Prop) : ∀ t, t < 64 → Tri Tryd.prog E 282 rB (At gs 282 w0 (rF 2 at_ t) ⟨rH 2 M h W x, p67⟩) (Exit.then (At gs 282 w0 (rF 2 at_ (t + 1)) ⟨rH 2 M h W (rnd (getN kW t) (W t) x), p67⟩) Q)
  | 0, _ => by have := r_2_0 M h w0 at_ W x Q; rw [rndR_eq] at this; exact this
  | 1, _ => by have := r_2_1 M h w0 at_ W x Q; rw [rndR_eq] at this; exact this
  | 2, _ => by have := r_2_2 M h w0 at_ W x Q; rw [rndR_eq] at this; exact this
  | 3, _ => by have := r_2_3 M h w0 at_ W x Q; rw [rndR_eq] at this; exact this
  | 4, _ => by have := r_2_4 M h w0 at_ W x Q; rw [rndR_eq] at this; exact this
  | 5, _ => by have := r_2_5 M h w0 at_ W x Q; rw [rndR_eq] at this; exact this
  | 6, _ => by have := r_2_6 M h w0 at_ W x Q; rw [rndR_eq] at this; exact this
  | 7, _ => by have := r_2_7 M h w0 at_ W x Q; rw [rndR_eq] at this; exact this
  | 8, _ => by have := r_2_8 M h w0 at_ W x Q; rw [rndR_eq] at this; exact this
  | 9, _ => by have := r_2_9 M h w0 at_ W x Q; rw [rndR_eq] at this; exact this
  | 10, _ => by have := r_2_10 M h w0 at_ W x Q; rw [rndR_eq] at this; exact this
  | 11, _ => by have := r_2_11 M h w0 at_ W x Q; rw [rndR_eq] at this; exact this
  | 12, _ => by have := r_2_12 M h w0 at_ W x Q; rw [rndR_eq] at this; exact this
  | 13, _ => by have := r_2_13 M h w0 at_ W x Q; rw [rndR_eq] at this; exact this
  | 14, _ => by have := r_2_14 M h w0 at_ W x Q; rw [rndR_eq] at this; exact this
  | 15, _ => by have := r_2_15 M h w0 at_ W x Q; rw [rndR_eq] at this; exact this
  | 16, _ => by have := r_2_16 M h w0 at_ W x Q; rw [rndR_eq] at this; exact this
  | 17, _ => by have := r_2_17 M h w0 at_ W x Q; rw [rndR_eq] at this; exact this
  | 18, _ => by have := r_2_18 M h w0 at_ W x Q; rw [rndR_eq] at this; exact this
  | 19, _ => by have := r_2_19 M h w0 at_ W x Q; rw [rndR_eq] at this; exact this
  | 20, _ => by have := r_2_20 M h w0 at_ W x Q; rw [rndR_eq] at this; exact this
  | 21, _ => by have := r_2_21 M h w0 at_ W x Q; rw [rndR_eq] at this; exact this
  | 22, _ => by have := r_2_22 M h w0 at_ W x Q; rw [rndR_eq] at this; exact this
  | 23, _ => by have := r_2_23 M h w0 at_ W x Q; rw [rndR_eq] at this; exact this
  | 24, _ => by have := r_2_24 M h w0 at_ W x Q; rw [rndR_eq] at this; exact this
  | 25, _ => by have := r_2_25 M h w0 at_ W x Q; rw [rndR_eq] at this; exact this
  | 26, _ => by have := r_2_26 M h w0 at_ W x Q; rw [rndR_eq] at this; exact this
  | 27, _ => by have := r_2_27 M h w0 at_ W x Q; rw [rndR_eq] at this; exact this
  | 28, _ => by have := r_2_28 M h w0 at_ W x Q; rw [rndR_eq] at this; exact this
  | 29, _ => by have := r_2_29 M h w0 at_ W x Q; rw [rndR_eq] at this; exact this
  | 30, _ => by have := r_2_30 M h w0 at_ W x Q; rw [rndR_eq] at this; exact this
  | 31, _ => by have := r_2_31 M h w0 at_ W x Q; rw [rndR_eq] at this; exact this
  | 32, _ => by have := r_2_32 M h w0 at_ W x Q; rw [rndR_eq] at this; exact this
  | 33, _ => by have := r_2_33 M h w0 at_ W x Q; rw [rndR_eq] at this; exact this
  | 34, _ => by have := r_2_34 M h w0 at_ W x Q; rw [rndR_eq] at this; exact this
  | 35, _ => by have := r_2_35 M h w0 at_ W x Q; rw [rndR_eq] at this; exact this
  | 36, _ => by have := r_2_36 M h w0 at_ W x Q; rw [rndR_eq] at this; exact this
  | 37, _ => by have := r_2_37 M h w0 at_ W x Q; rw [rndR_eq] at this; exact this
  | 38, _ => by have := r_2_38 M h w0 at_ W x Q; rw [rndR_eq] at this; exact this
  | 39, _ => by have := r_2_39 M h w0 at_ W x Q; rw [rndR_eq] at this; exact this
  | 40, _ => by have := r_2_40 M h w0 at_ W x Q; rw [rndR_eq] at this; exact this
  | 41, _ => by have := r_2_41 M h w0 at_ W x Q; rw [rndR_eq] at this; exact this
  | 42, _ => by have := r_2_42 M h w0 at_ W x Q; rw [rndR_eq] at this; exact this
  | 43, _ => by have := r_2_43 M h w0 at_ W x Q; rw [rndR_eq] at this; exact this
  | 44, _ => by have := r_2_44 M h w0 at_ W x Q; rw [rndR_eq] at this; exact this
  | 45, _ => by have := r_2_45 M h w0 at_ W x Q; rw [rndR_eq] at this; exact this
  | 46, _ => by have := r_2_46 M h w0 at_ W x Q; rw [rndR_eq] at this; exact this
  | 47, _ => by have := r_2_47 M h w0 at_ W x Q; rw [rndR_eq] at this; exact this
  | 48, _ => by have := r_2_48 M h w0 at_ W x Q; rw [rndR_eq] at this; exact this
  | 49, _ => by have := r_2_49 M h w0 at_ W x Q; rw [rndR_eq] at this; exact this
  | 50, _ => by have := r_2_50 M h w0 at_ W x Q; rw [rndR_eq] at this; exact this
  | 51, _ => by have := r_2_51 M h w0 at_ W x Q; rw [rndR_eq] at this; exact this
  | 52, _ => by have := r_2_52 M h w0 at_ W x Q; rw [rndR_eq] at this; exact this
  | 53, _ => by have := r_2_53 M h w0 at_ W x Q; rw [rndR_eq] at this; exact this
  | 54, _ => by have := r_2_54 M h w0 at_ W x Q; rw [rndR_eq] at this; exact this
  | 55, _ => by have := r_2_55 M h w0 at_ W x Q; rw [rndR_eq] at this; exact this
  | 56, _ => by have := r_2_56 M h w0 at_ W x Q; rw [rndR_eq] at this; exact this
  | 57, _ => by have := r_2_57 M h w0 at_ W x Q; rw [rndR_eq] at this; exact this
  | 58, _ => by have := r_2_58 M h w0 at_ W x Q; rw [rndR_eq] at this; exact this
  | 59, _ => by have := r_2_59 M h w0 at_ W x Q; rw [rndR_eq] at this; exact this
  | 60, _ => by have := r_2_60 M h w0 at_ W x Q; rw [rndR_eq] at this; exact this
  | 61, _ => by have := r_2_61 M h w0 at_ W x Q; rw [rndR_eq] at this; exact this
  | 62, _ => by have := r_2_62 M h w0 at_ W x Q; rw [rndR_eq] at this; exact this
  | 63, _ => by have := r_2_63 M h w0 at_ W x Q; rw [rndR_eq] at this; exact this
  | t + 64, h => by omega
theorem rl_2 (M : Nat → Nat) (h : H8) (w0 : World) (at_ : Int) (W : Nat → Nat) (x : H8) (Q : Exit → Act → World → Prop) : Tri Tryd.prog E 282 (.blk 8 (.loop rB)) (At gs 282 w0 (rF 2 at_ 0) ⟨rH 2 M h W x, p67⟩) (Exit.then (At gs 282 w0 (rF 2 at_ 64) ⟨rH 2 M h W (rnds W x 64), p67⟩) Q) :=
  Tri.blk (Tri.loop (I := fun t => At gs 282 w0 (rF 2 at_ t) ⟨rH 2 M h W (rnds W x t), p67⟩) 64 (fun t ht => rv_2 M h w0 at_ W (rnds W x t) _ t ht)
    (Tri.lastV okA (k := 40) (fuel := 70) (l := a6 p66) (ks := rK) gs_lt' (by kernel_rfl) (by unfold Alike; kernel_rfl) (by kernel_rfl) (by kernel_rfl) (by kernel_rfl) (fun _ _ h => h)))
theorem at_2_0 (M : Nat → Nat) (h : H8) (w0 : World) (Q : Exit → Act → World → Prop) : Tri Tryd.prog E 282 atB (At gs 282 w0 (aF 2 (.ofNat 0)) ⟨aH 2 M h, p65⟩) (Exit.then (At gs 282 w0 (aF 2 (.ofNat 64)) ⟨aH 2 M (mixF h (blkB M 0)), p65⟩) Q) := by
  rw [atB_shape]
  refine Tri.seq (J := At gs 282 w0 (aF 2 (.ofNat 0)) ⟨aH 2 M h, p65⟩) (Tri.stepV okA (k := 40) (fuel := 70) (l := a4) (ks := aK) gs_lt' (by kernel_rfl) (by unfold Alike; kernel_rfl) (by kernel_rfl) (by kernel_rfl) (by kernel_rfl)) ?_
  refine Tri.seq (J := At gs 282 w0 (aF 2 (.ofNat 0)) ⟨aH 2 M (mixF h (blkB M 0)), p65⟩) ?_ (Tri.stepV okA (k := 40) (fuel := 70) (l := a4) (ks := aK) gs_lt' (by kernel_rfl) (by unfold Alike; kernel_rfl) (by kernel_rfl) (by kernel_rfl) (by kernel_rfl))
  refine Tri.blk ?_
  rw [atY_shape]
  refine Tri.seq (J := At gs 282 w0 (T.set (.slice p65 0 64 (some 64) 1) p9 (aF 2 (.ofNat 0))) ⟨wH 2 M h (fun _ => 0), p66⟩) (Tri.stepV okA (k := 40) (fuel := 70) (l := a5) (ks := [p2, p3, p4, p7, p8, p9]) gs_lt' (by kernel_rfl) (by unfold Alike; kernel_rfl) (by kernel_rfl) (by kernel_rfl) (by kernel_rfl)) ?_
  refine Tri.seq (J := At gs 282 w0 (wF 2 (.ofNat 0) 64) ⟨wH 2 M h (wAt (blkB M 0) 64), p66⟩) ?_ ?_
  · rw [yW_shape]
    exact Tri.seq (J := At gs 282 w0 (wF 2 (.ofNat 0) 0) ⟨wH 2 M h (wAt (blkB M 0) 0), p66⟩) (Tri.stepV okA (k := 40) (fuel := 70) (l := a5) (ks := wK) gs_lt' (by kernel_rfl) (by unfold Alike; kernel_rfl) (by kernel_rfl) (by kernel_rfl) (by kernel_rfl)) (wl_2_0 M h w0 _)
  refine Tri.seq (J := At gs 282 w0 (T.set (.slice p66 0 8 none 1) p14 (T.set (.slice p65 0 64 (some 64) 1) p9 (aF 2 (.ofNat 0)))) ⟨rH 2 M h (wAt (blkB M 0) 64) h, p67⟩) (Tri.stepV okA (k := 40) (fuel := 70) (l := (a6 p67)) (ks := [p2, p3, p4, p7, p8, p9, p14]) gs_lt' (by kernel_rfl) (by unfold Alike; kernel_rfl) (by kernel_rfl) (by kernel_rfl) (by kernel_rfl)) ?_
  refine Tri.seq (J := At gs 282 w0 (rF 2 (.ofNat 0) 64) ⟨rH 2 M h (wAt (blkB M 0) 64) (rnds (wAt (blkB M 0) 64) h 64), p67⟩) ?_ ?_
  · rw [yR_shape]
    exact Tri.seq (J := At gs 282 w0 (rF 2 (.ofNat 0) 0) ⟨rH 2 M h (wAt (blkB M 0) 64) h, p67⟩) (Tri.stepV okA (k := 40) (fuel := 70) (l := (a6 p66)) (ks := rK) gs_lt' (by kernel_rfl) (by unfold Alike; kernel_rfl) (by kernel_rfl) (by kernel_rfl) (by kernel_rfl)) (rl_2 M h w0 _ _ h _)
  exact Tri.endV okA (k := 40) (fuel := 70) (l := a4) (ks := aK) gs_lt' (by kernel_rfl) (by unfold Alike; kernel_rfl) (by kernel_rfl) (by kernel_rfl) (by kernel_rfl) (fun _ _ h => h)
theorem at_2_1 (M : Nat → Nat) (h : H8) (w0 : World) (Q : Exit → Act → World → Prop) : Tri Tryd.prog E 282 atB (At gs 282 w0 (aF 2 (.ofNat 64)) ⟨aH 2 M h, p65⟩) (Exit.then (At gs 282 w0 (aF 2 (.ofNat 128)) ⟨aH 2 M (mixF h (blkB M 1)), p65⟩) Q) := by
  rw [atB_shape]
  refine Tri.seq (J := At gs 282 w0 (aF 2 (.ofNat 64)) ⟨aH 2 M h, p65⟩) (Tri.stepV okA (k := 40) (fuel := 70) (l := a4) (ks := aK) gs_lt' (by kernel_rfl) (by unfold Alike; kernel_rfl) (by kernel_rfl) (by kernel_rfl) (by kernel_rfl)) ?_
  refine Tri.seq (J := At gs 282 w0 (aF 2 (.ofNat 64)) ⟨aH 2 M (mixF h (blkB M 1)), p65⟩) ?_ (Tri.stepV okA (k := 40) (fuel := 70) (l := a4) (ks := aK) gs_lt' (by kernel_rfl) (by unfold Alike; kernel_rfl) (by kernel_rfl) (by kernel_rfl) (by kernel_rfl))
  refine Tri.blk ?_
  rw [atY_shape]
  refine Tri.seq (J := At gs 282 w0 (T.set (.slice p65 0 64 (some 64) 1) p9 (aF 2 (.ofNat 64))) ⟨wH 2 M h (fun _ => 0), p66⟩) (Tri.stepV okA (k := 40) (fuel := 70) (l := a5) (ks := [p2, p3, p4, p7, p8, p9]) gs_lt' (by kernel_rfl) (by unfold Alike; kernel_rfl) (by kernel_rfl) (by kernel_rfl) (by kernel_rfl)) ?_
  refine Tri.seq (J := At gs 282 w0 (wF 2 (.ofNat 64) 64) ⟨wH 2 M h (wAt (blkB M 1) 64), p66⟩) ?_ ?_
  · rw [yW_shape]
    exact Tri.seq (J := At gs 282 w0 (wF 2 (.ofNat 64) 0) ⟨wH 2 M h (wAt (blkB M 1) 0), p66⟩) (Tri.stepV okA (k := 40) (fuel := 70) (l := a5) (ks := wK) gs_lt' (by kernel_rfl) (by unfold Alike; kernel_rfl) (by kernel_rfl) (by kernel_rfl) (by kernel_rfl)) (wl_2_1 M h w0 _)
  refine Tri.seq (J := At gs 282 w0 (T.set (.slice p66 0 8 none 1) p14 (T.set (.slice p65 0 64 (some 64) 1) p9 (aF 2 (.ofNat 64)))) ⟨rH 2 M h (wAt (blkB M 1) 64) h, p67⟩) (Tri.stepV okA (k := 40) (fuel := 70) (l := (a6 p67)) (ks := [p2, p3, p4, p7, p8, p9, p14]) gs_lt' (by kernel_rfl) (by unfold Alike; kernel_rfl) (by kernel_rfl) (by kernel_rfl) (by kernel_rfl)) ?_
  refine Tri.seq (J := At gs 282 w0 (rF 2 (.ofNat 64) 64) ⟨rH 2 M h (wAt (blkB M 1) 64) (rnds (wAt (blkB M 1) 64) h 64), p67⟩) ?_ ?_
  · rw [yR_shape]
    exact Tri.seq (J := At gs 282 w0 (rF 2 (.ofNat 64) 0) ⟨rH 2 M h (wAt (blkB M 1) 64) h, p67⟩) (Tri.stepV okA (k := 40) (fuel := 70) (l := (a6 p66)) (ks := rK) gs_lt' (by kernel_rfl) (by unfold Alike; kernel_rfl) (by kernel_rfl) (by kernel_rfl) (by kernel_rfl)) (rl_2 M h w0 _ _ h _)
  exact Tri.endV okA (k := 40) (fuel := 70) (l := a4) (ks := aK) gs_lt' (by kernel_rfl) (by unfold Alike; kernel_rfl) (by kernel_rfl) (by kernel_rfl) (by kernel_rfl) (fun _ _ h => h)
theorem av_2 (M : Nat → Nat) (w0 : World) (Q : Exit → Act → World → Prop) : ∀ j, j < 2 → Tri Tryd.prog E 282 atB (At gs 282 w0 (aF 2 (.ofNat (Nat.mul 64 j))) ⟨aH 2 M (hAt M j), p65⟩) (Exit.then (At gs 282 w0 (aF 2 (.ofNat (Nat.mul 64 (j + 1)))) ⟨aH 2 M (hAt M (j + 1)), p65⟩) Q)
  | 0, _ => at_2_0 M (hAt M 0) w0 Q
  | 1, _ => at_2_1 M (hAt M 1) w0 Q
  | j + 2, h => by omega
theorem al_2 (M : Nat → Nat) (w0 : World) (Q : Exit → Act → World → Prop) : Tri Tryd.prog E 282 (.blk 4 (.loop atB)) (At gs 282 w0 (aF 2 (.ofNat 0)) ⟨aH 2 M (hAt M 0), p65⟩) (Exit.then (At gs 282 w0 (aF 2 (.ofNat 128)) ⟨aH 2 M (hAt M 2), p65⟩) Q) :=
  Tri.blk (Tri.loop (I := fun j => At gs 282 w0 (aF 2 (.ofNat (Nat.mul 64 j))) ⟨aH 2 M (hAt M j), p65⟩) 2 (fun j hj => av_2 M w0 _ j hj)
    (Tri.lastV okA (k := 40) (fuel := 70) (l := a4) (ks := aK) gs_lt' (by kernel_rfl) (by unfold Alike; kernel_rfl) (by kernel_rfl) (by kernel_rfl) (by kernel_rfl) (fun _ _ h => h)))
theorem ae_2 (M : Nat → Nat) (h : H8) (w0 : World) : Tri Tryd.prog E 282 rfEnd (At gs 282 w0 (aF 2 (.ofNat 128)) ⟨aH 2 M h, p65⟩) (fun e a' w' => e = .ret ∧ ∃ A' σ', At gs 282 w0 A' σ' a' w' ∧ resF (resI f43) A' σ' = some [.agg (bs (outL h))]) :=
  Tri.retV okA (k := 40) (fuel := 70) (by kernel_rfl) (by unfold Alike; kernel_rfl) (by kernel_rfl)
end Go.Proofs.YtknhohgnilamcaaDoor.Ir
