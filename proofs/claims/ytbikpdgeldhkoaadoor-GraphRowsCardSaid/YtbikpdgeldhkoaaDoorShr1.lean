/-
  sargassoref1.Sha, block by block, whatever the message's bytes.
-/
import Derived.Test.YtbikpdgeldhkoaaDoorShd2
namespace Go.Proofs.YtbikpdgeldhkoaaDoor.Ir
set_option linter.unusedVariables false
set_option maxRecDepth 100000
open Go Go.Proofs.YtbikpdgeldhkoaaDoor

noncomputable def rfI : IR := bodyI f62
noncomputable def rfS1 : IR := sndI rfI
noncomputable def rfS2 : IR := sndI rfS1
noncomputable def rfS3 : IR := sndI rfS2
noncomputable def rfS4 : IR := sndI rfS3
noncomputable def rfS5 : IR := sndI rfS4
noncomputable def rfS6 : IR := sndI rfS5
noncomputable def rfS7 : IR := sndI rfS6
noncomputable def rfPre : List IR := [fstI rfI, fstI rfS1, fstI rfS2, fstI rfS3, fstI rfS4, fstI rfS5, fstI rfS6]
noncomputable def rfAT : IR := fstI rfS7
noncomputable def rfEnd : IR := sndI rfS7
theorem rf_shape : rfI = seqL rfPre (.seq rfAT rfEnd) := by kernel_rfl
noncomputable def at0 : IR := fstI rfAT
noncomputable def atB : IR := lopI (blkI (sndI rfAT))
theorem at_shape : rfAT = .seq at0 (.blk 4 (.loop atB)) := by kernel_rfl
noncomputable def atC : IR := fstI atB
noncomputable def atY : IR := blkI (fstI (sndI atB))
noncomputable def atN : IR := sndI (sndI atB)
theorem atB_shape : atB = .seq atC (.seq (.blk 5 atY) atN) := by kernel_rfl
noncomputable def ya : IR := fstI atY
noncomputable def yW : IR := fstI (sndI atY)
noncomputable def yv : IR := fstI (sndI (sndI atY))
noncomputable def yR : IR := fstI (sndI (sndI (sndI atY)))
noncomputable def yA : IR := sndI (sndI (sndI (sndI atY)))
theorem atY_shape : atY = .seq ya (.seq yW (.seq yv (.seq yR yA))) := by kernel_rfl
noncomputable def wI : IR := fstI yW
noncomputable def wB : IR := lopI (blkI (sndI yW))
theorem yW_shape : yW = .seq wI (.blk 6 (.loop wB)) := by kernel_rfl
noncomputable def rI : IR := fstI yR
noncomputable def rB : IR := lopI (blkI (sndI yR))
theorem yR_shape : yR = .seq rI (.blk 8 (.loop rB)) := by kernel_rfl
noncomputable def rpV (t : Nat) (W : Nat → Nat) : Nat := (fun _ : Nat => rnext (W (Nat.sub t 2)) (W (Nat.sub t 7)) (W (Nat.sub t 15)) (W (Nat.sub t 16))) tall60
/-- frames and heaps, by how many blocks there are -/
noncomputable def aF (nb : Nat) (at_ : Int) : T V := T.set (.ptr p61 0) p2 (T.set (.slice p62 0 8 (some 8) 1) p3 (T.set (.slice p63 0 (Nat.mul 64 nb) none 1) p4 (T.set (.slice p64 0 64 (some 64) 1) p7 (T.set (.int .i64 at_) p8 .nil))))
noncomputable def wF (nb : Nat) (at_ : Int) (t : Nat) : T V := T.set (.slice p65 0 64 (some 64) 1) p9 (T.set (.int .i64 (.ofNat t)) p10 (aF nb at_))
noncomputable def rcap (t : Nat) : Option Nat := Nat.rec (motive := fun _ => Option Nat) none (fun _ _ => some 8) t
noncomputable def rF (nb : Nat) (at_ : Int) (t : Nat) : T V := T.set (.slice p66 0 8 (rcap t) 1) p14 (T.set (.int .i64 (.ofNat t)) p15 (T.set (.slice p65 0 64 (some 64) 1) p9 (aF nb at_)))
noncomputable def aH (nb : Nat) (M : Nat → Nat) (h : H8) : T Ob := T.set (.cells (zz (.int .u8 (.ofNat 0)) 32) [] false false) p61 (T.set (.cells (h8V h) [] false false) p62 (T.set (.cells (b8 M (iota (Nat.mul 64 nb) 0)) [] false false) p63 (T.set (.cells (w32 (getN kW) ix64) [] false false) p64 .nil)))
noncomputable def wH (nb : Nat) (M : Nat → Nat) (h : H8) (W : Nat → Nat) : T Ob := T.set (.cells (w32 W ix64) [] false false) p65 (aH nb M h)
noncomputable def rH (nb : Nat) (M : Nat → Nat) (h : H8) (W : Nat → Nat) (x : H8) : T Ob := T.set (.cells (h8V x) [] false false) p66 (wH nb M h W)
noncomputable def aK : List Pos := [p2, p3, p4, p7, p8]
noncomputable def wK : List Pos := [p2, p3, p4, p7, p8, p9, p10]
noncomputable def rK : List Pos := [p2, p3, p4, p7, p8, p9, p14, p15]
noncomputable def a4 : Vw := [(p61, p61), (p62, p62), (p63, p63), (p64, p64)]
noncomputable def a5 : Vw := [(p61, p61), (p62, p62), (p63, p63), (p64, p64), (p65, p65)]
noncomputable def a6 (p : Pos) : Vw := [(p61, p61), (p62, p62), (p63, p63), (p64, p64), (p65, p65), (p66, p)]
noncomputable def slP (v : Option V) : Pos := match v with | some (.slice p _ _ _ _) => p | some (.ptr p _) => p | _ => .H
abbrev SW0 (nb a j t : Nat) : Prop := ∀ (M : Nat → Nat) (h : H8) (w0 : World) (W : Nat → Nat) (Q : Exit → Act → World → Prop), Tri Tryd.prog E 282 wB (At gs 282 w0 (wF nb (.ofNat a) t) ⟨wH nb M h W, p66⟩) (Exit.then (At gs 282 w0 (wF nb (.ofNat a) (t + 1)) ⟨wH nb M h (upN W t (be (blkB M j) t)), p66⟩) Q)
abbrev SW1 (nb t : Nat) : Prop := ∀ (M : Nat → Nat) (h : H8) (w0 : World) (at_ : Int) (W : Nat → Nat) (Q : Exit → Act → World → Prop), Tri Tryd.prog E 282 wB (At gs 282 w0 (wF nb at_ t) ⟨wH nb M h W, p66⟩) (Exit.then (At gs 282 w0 (wF nb at_ (t + 1)) ⟨wH nb M h (upN W t (rpV t W)), p66⟩) Q)
abbrev SR (nb t : Nat) : Prop := ∀ (M : Nat → Nat) (h : H8) (w0 : World) (at_ : Int) (W : Nat → Nat) (x : H8) (Q : Exit → Act → World → Prop), Tri Tryd.prog E 282 rB (At gs 282 w0 (rF nb at_ t) ⟨rH nb M h W x, p67⟩) (Exit.then (At gs 282 w0 (rF nb at_ (t + 1)) ⟨rH nb M h W (rndR (getN kW t) (W t) x), p67⟩) Q)
noncomputable def lR (nb t : Nat) : Vw := a6 (slP (T.get p14 (rA (xr machA 40 70 rB (rF nb (.ofNat 0) t) ⟨rH nb (fun _ => 0) h8zero (fun _ => 0) h8zero, p67⟩))))
theorem w_1_0_0 : SW0 1 0 0 0 := fun M h w0 W Q => Tri.stepV okA (k := 40) (fuel := 70) (l := a5) (ks := wK) gs_lt' (by kernel_rfl) (by unfold Alike; kernel_rfl) (by kernel_rfl) (by kernel_rfl) (by kernel_rfl)
theorem w_1_0_1 : SW0 1 0 0 1 := fun M h w0 W Q => Tri.stepV okA (k := 40) (fuel := 70) (l := a5) (ks := wK) gs_lt' (by kernel_rfl) (by unfold Alike; kernel_rfl) (by kernel_rfl) (by kernel_rfl) (by kernel_rfl)
theorem w_1_0_2 : SW0 1 0 0 2 := fun M h w0 W Q => Tri.stepV okA (k := 40) (fuel := 70) (l := a5) (ks := wK) gs_lt' (by kernel_rfl) (by unfold Alike; kernel_rfl) (by kernel_rfl) (by kernel_rfl) (by kernel_rfl)
theorem w_1_0_3 : SW0 1 0 0 3 := fun M h w0 W Q => Tri.stepV okA (k := 40) (fuel := 70) (l := a5) (ks := wK) gs_lt' (by kernel_rfl) (by unfold Alike; kernel_rfl) (by kernel_rfl) (by kernel_rfl) (by kernel_rfl)
theorem w_1_0_4 : SW0 1 0 0 4 := fun M h w0 W Q => Tri.stepV okA (k := 40) (fuel := 70) (l := a5) (ks := wK) gs_lt' (by kernel_rfl) (by unfold Alike; kernel_rfl) (by kernel_rfl) (by kernel_rfl) (by kernel_rfl)
theorem w_1_0_5 : SW0 1 0 0 5 := fun M h w0 W Q => Tri.stepV okA (k := 40) (fuel := 70) (l := a5) (ks := wK) gs_lt' (by kernel_rfl) (by unfold Alike; kernel_rfl) (by kernel_rfl) (by kernel_rfl) (by kernel_rfl)
theorem w_1_0_6 : SW0 1 0 0 6 := fun M h w0 W Q => Tri.stepV okA (k := 40) (fuel := 70) (l := a5) (ks := wK) gs_lt' (by kernel_rfl) (by unfold Alike; kernel_rfl) (by kernel_rfl) (by kernel_rfl) (by kernel_rfl)
theorem w_1_0_7 : SW0 1 0 0 7 := fun M h w0 W Q => Tri.stepV okA (k := 40) (fuel := 70) (l := a5) (ks := wK) gs_lt' (by kernel_rfl) (by unfold Alike; kernel_rfl) (by kernel_rfl) (by kernel_rfl) (by kernel_rfl)
theorem w_1_0_8 : SW0 1 0 0 8 := fun M h w0 W Q => Tri.stepV okA (k := 40) (fuel := 70) (l := a5) (ks := wK) gs_lt' (by kernel_rfl) (by unfold Alike; kernel_rfl) (by kernel_rfl) (by kernel_rfl) (by kernel_rfl)
theorem w_1_0_9 : SW0 1 0 0 9 := fun M h w0 W Q => Tri.stepV okA (k := 40) (fuel := 70) (l := a5) (ks := wK) gs_lt' (by kernel_rfl) (by unfold Alike; kernel_rfl) (by kernel_rfl) (by kernel_rfl) (by kernel_rfl)
theorem w_1_0_10 : SW0 1 0 0 10 := fun M h w0 W Q => Tri.stepV okA (k := 40) (fuel := 70) (l := a5) (ks := wK) gs_lt' (by kernel_rfl) (by unfold Alike; kernel_rfl) (by kernel_rfl) (by kernel_rfl) (by kernel_rfl)
theorem w_1_0_11 : SW0 1 0 0 11 := fun M h w0 W Q => Tri.stepV okA (k := 40) (fuel := 70) (l := a5) (ks := wK) gs_lt' (by kernel_rfl) (by unfold Alike; kernel_rfl) (by kernel_rfl) (by kernel_rfl) (by kernel_rfl)
theorem w_1_0_12 : SW0 1 0 0 12 := fun M h w0 W Q => Tri.stepV okA (k := 40) (fuel := 70) (l := a5) (ks := wK) gs_lt' (by kernel_rfl) (by unfold Alike; kernel_rfl) (by kernel_rfl) (by kernel_rfl) (by kernel_rfl)
theorem w_1_0_13 : SW0 1 0 0 13 := fun M h w0 W Q => Tri.stepV okA (k := 40) (fuel := 70) (l := a5) (ks := wK) gs_lt' (by kernel_rfl) (by unfold Alike; kernel_rfl) (by kernel_rfl) (by kernel_rfl) (by kernel_rfl)
theorem w_1_0_14 : SW0 1 0 0 14 := fun M h w0 W Q => Tri.stepV okA (k := 40) (fuel := 70) (l := a5) (ks := wK) gs_lt' (by kernel_rfl) (by unfold Alike; kernel_rfl) (by kernel_rfl) (by kernel_rfl) (by kernel_rfl)
theorem w_1_0_15 : SW0 1 0 0 15 := fun M h w0 W Q => Tri.stepV okA (k := 40) (fuel := 70) (l := a5) (ks := wK) gs_lt' (by kernel_rfl) (by unfold Alike; kernel_rfl) (by kernel_rfl) (by kernel_rfl) (by kernel_rfl)
theorem w_1_16 : SW1 1 16 := fun M h w0 at_ W Q => Tri.stepV okA (k := 40) (fuel := 70) (l := a5) (ks := wK) gs_lt' (by kernel_rfl) (by unfold Alike; kernel_rfl) (by kernel_rfl) (by kernel_rfl) (by kernel_rfl)
theorem w_1_17 : SW1 1 17 := fun M h w0 at_ W Q => Tri.stepV okA (k := 40) (fuel := 70) (l := a5) (ks := wK) gs_lt' (by kernel_rfl) (by unfold Alike; kernel_rfl) (by kernel_rfl) (by kernel_rfl) (by kernel_rfl)
theorem w_1_18 : SW1 1 18 := fun M h w0 at_ W Q => Tri.stepV okA (k := 40) (fuel := 70) (l := a5) (ks := wK) gs_lt' (by kernel_rfl) (by unfold Alike; kernel_rfl) (by kernel_rfl) (by kernel_rfl) (by kernel_rfl)
theorem w_1_19 : SW1 1 19 := fun M h w0 at_ W Q => Tri.stepV okA (k := 40) (fuel := 70) (l := a5) (ks := wK) gs_lt' (by kernel_rfl) (by unfold Alike; kernel_rfl) (by kernel_rfl) (by kernel_rfl) (by kernel_rfl)
theorem w_1_20 : SW1 1 20 := fun M h w0 at_ W Q => Tri.stepV okA (k := 40) (fuel := 70) (l := a5) (ks := wK) gs_lt' (by kernel_rfl) (by unfold Alike; kernel_rfl) (by kernel_rfl) (by kernel_rfl) (by kernel_rfl)
theorem w_1_21 : SW1 1 21 := fun M h w0 at_ W Q => Tri.stepV okA (k := 40) (fuel := 70) (l := a5) (ks := wK) gs_lt' (by kernel_rfl) (by unfold Alike; kernel_rfl) (by kernel_rfl) (by kernel_rfl) (by kernel_rfl)
theorem w_1_22 : SW1 1 22 := fun M h w0 at_ W Q => Tri.stepV okA (k := 40) (fuel := 70) (l := a5) (ks := wK) gs_lt' (by kernel_rfl) (by unfold Alike; kernel_rfl) (by kernel_rfl) (by kernel_rfl) (by kernel_rfl)
theorem w_1_23 : SW1 1 23 := fun M h w0 at_ W Q => Tri.stepV okA (k := 40) (fuel := 70) (l := a5) (ks := wK) gs_lt' (by kernel_rfl) (by unfold Alike; kernel_rfl) (by kernel_rfl) (by kernel_rfl) (by kernel_rfl)
theorem w_1_24 : SW1 1 24 := fun M h w0 at_ W Q => Tri.stepV okA (k := 40) (fuel := 70) (l := a5) (ks := wK) gs_lt' (by kernel_rfl) (by unfold Alike; kernel_rfl) (by kernel_rfl) (by kernel_rfl) (by kernel_rfl)
theorem w_1_25 : SW1 1 25 := fun M h w0 at_ W Q => Tri.stepV okA (k := 40) (fuel := 70) (l := a5) (ks := wK) gs_lt' (by kernel_rfl) (by unfold Alike; kernel_rfl) (by kernel_rfl) (by kernel_rfl) (by kernel_rfl)
theorem w_1_26 : SW1 1 26 := fun M h w0 at_ W Q => Tri.stepV okA (k := 40) (fuel := 70) (l := a5) (ks := wK) gs_lt' (by kernel_rfl) (by unfold Alike; kernel_rfl) (by kernel_rfl) (by kernel_rfl) (by kernel_rfl)
theorem w_1_27 : SW1 1 27 := fun M h w0 at_ W Q => Tri.stepV okA (k := 40) (fuel := 70) (l := a5) (ks := wK) gs_lt' (by kernel_rfl) (by unfold Alike; kernel_rfl) (by kernel_rfl) (by kernel_rfl) (by kernel_rfl)
theorem w_1_28 : SW1 1 28 := fun M h w0 at_ W Q => Tri.stepV okA (k := 40) (fuel := 70) (l := a5) (ks := wK) gs_lt' (by kernel_rfl) (by unfold Alike; kernel_rfl) (by kernel_rfl) (by kernel_rfl) (by kernel_rfl)
theorem w_1_29 : SW1 1 29 := fun M h w0 at_ W Q => Tri.stepV okA (k := 40) (fuel := 70) (l := a5) (ks := wK) gs_lt' (by kernel_rfl) (by unfold Alike; kernel_rfl) (by kernel_rfl) (by kernel_rfl) (by kernel_rfl)
theorem w_1_30 : SW1 1 30 := fun M h w0 at_ W Q => Tri.stepV okA (k := 40) (fuel := 70) (l := a5) (ks := wK) gs_lt' (by kernel_rfl) (by unfold Alike; kernel_rfl) (by kernel_rfl) (by kernel_rfl) (by kernel_rfl)
theorem w_1_31 : SW1 1 31 := fun M h w0 at_ W Q => Tri.stepV okA (k := 40) (fuel := 70) (l := a5) (ks := wK) gs_lt' (by kernel_rfl) (by unfold Alike; kernel_rfl) (by kernel_rfl) (by kernel_rfl) (by kernel_rfl)
theorem w_1_32 : SW1 1 32 := fun M h w0 at_ W Q => Tri.stepV okA (k := 40) (fuel := 70) (l := a5) (ks := wK) gs_lt' (by kernel_rfl) (by unfold Alike; kernel_rfl) (by kernel_rfl) (by kernel_rfl) (by kernel_rfl)
theorem w_1_33 : SW1 1 33 := fun M h w0 at_ W Q => Tri.stepV okA (k := 40) (fuel := 70) (l := a5) (ks := wK) gs_lt' (by kernel_rfl) (by unfold Alike; kernel_rfl) (by kernel_rfl) (by kernel_rfl) (by kernel_rfl)
theorem w_1_34 : SW1 1 34 := fun M h w0 at_ W Q => Tri.stepV okA (k := 40) (fuel := 70) (l := a5) (ks := wK) gs_lt' (by kernel_rfl) (by unfold Alike; kernel_rfl) (by kernel_rfl) (by kernel_rfl) (by kernel_rfl)
theorem w_1_35 : SW1 1 35 := fun M h w0 at_ W Q => Tri.stepV okA (k := 40) (fuel := 70) (l := a5) (ks := wK) gs_lt' (by kernel_rfl) (by unfold Alike; kernel_rfl) (by kernel_rfl) (by kernel_rfl) (by kernel_rfl)
theorem w_1_36 : SW1 1 36 := fun M h w0 at_ W Q => Tri.stepV okA (k := 40) (fuel := 70) (l := a5) (ks := wK) gs_lt' (by kernel_rfl) (by unfold Alike; kernel_rfl) (by kernel_rfl) (by kernel_rfl) (by kernel_rfl)
theorem w_1_37 : SW1 1 37 := fun M h w0 at_ W Q => Tri.stepV okA (k := 40) (fuel := 70) (l := a5) (ks := wK) gs_lt' (by kernel_rfl) (by unfold Alike; kernel_rfl) (by kernel_rfl) (by kernel_rfl) (by kernel_rfl)
theorem w_1_38 : SW1 1 38 := fun M h w0 at_ W Q => Tri.stepV okA (k := 40) (fuel := 70) (l := a5) (ks := wK) gs_lt' (by kernel_rfl) (by unfold Alike; kernel_rfl) (by kernel_rfl) (by kernel_rfl) (by kernel_rfl)
theorem w_1_39 : SW1 1 39 := fun M h w0 at_ W Q => Tri.stepV okA (k := 40) (fuel := 70) (l := a5) (ks := wK) gs_lt' (by kernel_rfl) (by unfold Alike; kernel_rfl) (by kernel_rfl) (by kernel_rfl) (by kernel_rfl)
theorem w_1_40 : SW1 1 40 := fun M h w0 at_ W Q => Tri.stepV okA (k := 40) (fuel := 70) (l := a5) (ks := wK) gs_lt' (by kernel_rfl) (by unfold Alike; kernel_rfl) (by kernel_rfl) (by kernel_rfl) (by kernel_rfl)
theorem w_1_41 : SW1 1 41 := fun M h w0 at_ W Q => Tri.stepV okA (k := 40) (fuel := 70) (l := a5) (ks := wK) gs_lt' (by kernel_rfl) (by unfold Alike; kernel_rfl) (by kernel_rfl) (by kernel_rfl) (by kernel_rfl)
theorem w_1_42 : SW1 1 42 := fun M h w0 at_ W Q => Tri.stepV okA (k := 40) (fuel := 70) (l := a5) (ks := wK) gs_lt' (by kernel_rfl) (by unfold Alike; kernel_rfl) (by kernel_rfl) (by kernel_rfl) (by kernel_rfl)
theorem w_1_43 : SW1 1 43 := fun M h w0 at_ W Q => Tri.stepV okA (k := 40) (fuel := 70) (l := a5) (ks := wK) gs_lt' (by kernel_rfl) (by unfold Alike; kernel_rfl) (by kernel_rfl) (by kernel_rfl) (by kernel_rfl)
theorem w_1_44 : SW1 1 44 := fun M h w0 at_ W Q => Tri.stepV okA (k := 40) (fuel := 70) (l := a5) (ks := wK) gs_lt' (by kernel_rfl) (by unfold Alike; kernel_rfl) (by kernel_rfl) (by kernel_rfl) (by kernel_rfl)
theorem w_1_45 : SW1 1 45 := fun M h w0 at_ W Q => Tri.stepV okA (k := 40) (fuel := 70) (l := a5) (ks := wK) gs_lt' (by kernel_rfl) (by unfold Alike; kernel_rfl) (by kernel_rfl) (by kernel_rfl) (by kernel_rfl)
theorem w_1_46 : SW1 1 46 := fun M h w0 at_ W Q => Tri.stepV okA (k := 40) (fuel := 70) (l := a5) (ks := wK) gs_lt' (by kernel_rfl) (by unfold Alike; kernel_rfl) (by kernel_rfl) (by kernel_rfl) (by kernel_rfl)
theorem w_1_47 : SW1 1 47 := fun M h w0 at_ W Q => Tri.stepV okA (k := 40) (fuel := 70) (l := a5) (ks := wK) gs_lt' (by kernel_rfl) (by unfold Alike; kernel_rfl) (by kernel_rfl) (by kernel_rfl) (by kernel_rfl)
theorem w_1_48 : SW1 1 48 := fun M h w0 at_ W Q => Tri.stepV okA (k := 40) (fuel := 70) (l := a5) (ks := wK) gs_lt' (by kernel_rfl) (by unfold Alike; kernel_rfl) (by kernel_rfl) (by kernel_rfl) (by kernel_rfl)
theorem w_1_49 : SW1 1 49 := fun M h w0 at_ W Q => Tri.stepV okA (k := 40) (fuel := 70) (l := a5) (ks := wK) gs_lt' (by kernel_rfl) (by unfold Alike; kernel_rfl) (by kernel_rfl) (by kernel_rfl) (by kernel_rfl)
theorem w_1_50 : SW1 1 50 := fun M h w0 at_ W Q => Tri.stepV okA (k := 40) (fuel := 70) (l := a5) (ks := wK) gs_lt' (by kernel_rfl) (by unfold Alike; kernel_rfl) (by kernel_rfl) (by kernel_rfl) (by kernel_rfl)
theorem w_1_51 : SW1 1 51 := fun M h w0 at_ W Q => Tri.stepV okA (k := 40) (fuel := 70) (l := a5) (ks := wK) gs_lt' (by kernel_rfl) (by unfold Alike; kernel_rfl) (by kernel_rfl) (by kernel_rfl) (by kernel_rfl)
theorem w_1_52 : SW1 1 52 := fun M h w0 at_ W Q => Tri.stepV okA (k := 40) (fuel := 70) (l := a5) (ks := wK) gs_lt' (by kernel_rfl) (by unfold Alike; kernel_rfl) (by kernel_rfl) (by kernel_rfl) (by kernel_rfl)
theorem w_1_53 : SW1 1 53 := fun M h w0 at_ W Q => Tri.stepV okA (k := 40) (fuel := 70) (l := a5) (ks := wK) gs_lt' (by kernel_rfl) (by unfold Alike; kernel_rfl) (by kernel_rfl) (by kernel_rfl) (by kernel_rfl)
theorem w_1_54 : SW1 1 54 := fun M h w0 at_ W Q => Tri.stepV okA (k := 40) (fuel := 70) (l := a5) (ks := wK) gs_lt' (by kernel_rfl) (by unfold Alike; kernel_rfl) (by kernel_rfl) (by kernel_rfl) (by kernel_rfl)
theorem w_1_55 : SW1 1 55 := fun M h w0 at_ W Q => Tri.stepV okA (k := 40) (fuel := 70) (l := a5) (ks := wK) gs_lt' (by kernel_rfl) (by unfold Alike; kernel_rfl) (by kernel_rfl) (by kernel_rfl) (by kernel_rfl)
theorem w_1_56 : SW1 1 56 := fun M h w0 at_ W Q => Tri.stepV okA (k := 40) (fuel := 70) (l := a5) (ks := wK) gs_lt' (by kernel_rfl) (by unfold Alike; kernel_rfl) (by kernel_rfl) (by kernel_rfl) (by kernel_rfl)
theorem w_1_57 : SW1 1 57 := fun M h w0 at_ W Q => Tri.stepV okA (k := 40) (fuel := 70) (l := a5) (ks := wK) gs_lt' (by kernel_rfl) (by unfold Alike; kernel_rfl) (by kernel_rfl) (by kernel_rfl) (by kernel_rfl)
theorem w_1_58 : SW1 1 58 := fun M h w0 at_ W Q => Tri.stepV okA (k := 40) (fuel := 70) (l := a5) (ks := wK) gs_lt' (by kernel_rfl) (by unfold Alike; kernel_rfl) (by kernel_rfl) (by kernel_rfl) (by kernel_rfl)
theorem w_1_59 : SW1 1 59 := fun M h w0 at_ W Q => Tri.stepV okA (k := 40) (fuel := 70) (l := a5) (ks := wK) gs_lt' (by kernel_rfl) (by unfold Alike; kernel_rfl) (by kernel_rfl) (by kernel_rfl) (by kernel_rfl)
theorem w_1_60 : SW1 1 60 := fun M h w0 at_ W Q => Tri.stepV okA (k := 40) (fuel := 70) (l := a5) (ks := wK) gs_lt' (by kernel_rfl) (by unfold Alike; kernel_rfl) (by kernel_rfl) (by kernel_rfl) (by kernel_rfl)
theorem w_1_61 : SW1 1 61 := fun M h w0 at_ W Q => Tri.stepV okA (k := 40) (fuel := 70) (l := a5) (ks := wK) gs_lt' (by kernel_rfl) (by unfold Alike; kernel_rfl) (by kernel_rfl) (by kernel_rfl) (by kernel_rfl)
theorem w_1_62 : SW1 1 62 := fun M h w0 at_ W Q => Tri.stepV okA (k := 40) (fuel := 70) (l := a5) (ks := wK) gs_lt' (by kernel_rfl) (by unfold Alike; kernel_rfl) (by kernel_rfl) (by kernel_rfl) (by kernel_rfl)
theorem w_1_63 : SW1 1 63 := fun M h w0 at_ W Q => Tri.stepV okA (k := 40) (fuel := 70) (l := a5) (ks := wK) gs_lt' (by kernel_rfl) (by unfold Alike; kernel_rfl) (by kernel_rfl) (by kernel_rfl) (by kernel_rfl)
theorem wv_1_0 (M : Nat → Nat) (h : H8) (w0 : World) (W : Nat → Nat) (Q : Exit → Act → World → Prop) (hW : ∀ t, 16 ≤ t → rpV t W = wnext (W (t - 2)) (W (t - 7)) (W (t - 15)) (W (t - 16))) : ∀ t, t < 64 → Tri Tryd.prog E 282 wB (At gs 282 w0 (wF 1 (.ofNat 0) t) ⟨wH 1 M h W, p66⟩) (Exit.then (At gs 282 w0 (wF 1 (.ofNat 0) (t + 1)) ⟨wH 1 M h (upN W t (Bool.rec (motive := fun _ => Nat) (wnext (W (t - 2)) (W (t - 7)) (W (t - 15)) (W (t - 16))) (be (blkB M 0) t) (Nat.blt t 16))), p66⟩) Q)
  | 0, _ => w_1_0_0 M h w0 W Q
  | 1, _ => w_1_0_1 M h w0 W Q
  | 2, _ => w_1_0_2 M h w0 W Q
  | 3, _ => w_1_0_3 M h w0 W Q
  | 4, _ => w_1_0_4 M h w0 W Q
  | 5, _ => w_1_0_5 M h w0 W Q
  | 6, _ => w_1_0_6 M h w0 W Q
  | 7, _ => w_1_0_7 M h w0 W Q
  | 8, _ => w_1_0_8 M h w0 W Q
  | 9, _ => w_1_0_9 M h w0 W Q
  | 10, _ => w_1_0_10 M h w0 W Q
  | 11, _ => w_1_0_11 M h w0 W Q
  | 12, _ => w_1_0_12 M h w0 W Q
  | 13, _ => w_1_0_13 M h w0 W Q
  | 14, _ => w_1_0_14 M h w0 W Q
  | 15, _ => w_1_0_15 M h w0 W Q
  | 16, _ => by have := w_1_16 M h w0 (.ofNat 0) W Q; rw [hW 16 (by omega)] at this; exact this
  | 17, _ => by have := w_1_17 M h w0 (.ofNat 0) W Q; rw [hW 17 (by omega)] at this; exact this
  | 18, _ => by have := w_1_18 M h w0 (.ofNat 0) W Q; rw [hW 18 (by omega)] at this; exact this
  | 19, _ => by have := w_1_19 M h w0 (.ofNat 0) W Q; rw [hW 19 (by omega)] at this; exact this
  | 20, _ => by have := w_1_20 M h w0 (.ofNat 0) W Q; rw [hW 20 (by omega)] at this; exact this
  | 21, _ => by have := w_1_21 M h w0 (.ofNat 0) W Q; rw [hW 21 (by omega)] at this; exact this
  | 22, _ => by have := w_1_22 M h w0 (.ofNat 0) W Q; rw [hW 22 (by omega)] at this; exact this
  | 23, _ => by have := w_1_23 M h w0 (.ofNat 0) W Q; rw [hW 23 (by omega)] at this; exact this
  | 24, _ => by have := w_1_24 M h w0 (.ofNat 0) W Q; rw [hW 24 (by omega)] at this; exact this
  | 25, _ => by have := w_1_25 M h w0 (.ofNat 0) W Q; rw [hW 25 (by omega)] at this; exact this
  | 26, _ => by have := w_1_26 M h w0 (.ofNat 0) W Q; rw [hW 26 (by omega)] at this; exact this
  | 27, _ => by have := w_1_27 M h w0 (.ofNat 0) W Q; rw [hW 27 (by omega)] at this; exact this
  | 28, _ => by have := w_1_28 M h w0 (.ofNat 0) W Q; rw [hW 28 (by omega)] at this; exact this
  | 29, _ => by have := w_1_29 M h w0 (.ofNat 0) W Q; rw [hW 29 (by omega)] at this; exact this
  | 30, _ => by have := w_1_30 M h w0 (.ofNat 0) W Q; rw [hW 30 (by omega)] at this; exact this
  | 31, _ => by have := w_1_31 M h w0 (.ofNat 0) W Q; rw [hW 31 (by omega)] at this; exact this
  | 32, _ => by have := w_1_32 M h w0 (.ofNat 0) W Q; rw [hW 32 (by omega)] at this; exact this
  | 33, _ => by have := w_1_33 M h w0 (.ofNat 0) W Q; rw [hW 33 (by omega)] at this; exact this
  | 34, _ => by have := w_1_34 M h w0 (.ofNat 0) W Q; rw [hW 34 (by omega)] at this; exact this
  | 35, _ => by have := w_1_35 M h w0 (.ofNat 0) W Q; rw [hW 35 (by omega)] at this; exact this
  | 36, _ => by have := w_1_36 M h w0 (.ofNat 0) W Q; rw [hW 36 (by omega)] at this; exact this
  | 37, _ => by have := w_1_37 M h w0 (.ofNat 0) W Q; rw [hW 37 (by omega)] at this; exact this
  | 38, _ => by have := w_1_38 M h w0 (.ofNat 0) W Q; rw [hW 38 (by omega)] at this; exact this
  | 39, _ => by have := w_1_39 M h w0 (.ofNat 0) W Q; rw [hW 39 (by omega)] at this; exact this
  | 40, _ => by have := w_1_40 M h w0 (.ofNat 0) W Q; rw [hW 40 (by omega)] at this; exact this
  | 41, _ => by have := w_1_41 M h w0 (.ofNat 0) W Q; rw [hW 41 (by omega)] at this; exact this
  | 42, _ => by have := w_1_42 M h w0 (.ofNat 0) W Q; rw [hW 42 (by omega)] at this; exact this
  | 43, _ => by have := w_1_43 M h w0 (.ofNat 0) W Q; rw [hW 43 (by omega)] at this; exact this
  | 44, _ => by have := w_1_44 M h w0 (.ofNat 0) W Q; rw [hW 44 (by omega)] at this; exact this
  | 45, _ => by have := w_1_45 M h w0 (.ofNat 0) W Q; rw [hW 45 (by omega)] at this; exact this
  | 46, _ => by have := w_1_46 M h w0 (.ofNat 0) W Q; rw [hW 46 (by omega)] at this; exact this
  | 47, _ => by have := w_1_47 M h w0 (.ofNat 0) W Q; rw [hW 47 (by omega)] at this; exact this
  | 48, _ => by have := w_1_48 M h w0 (.ofNat 0) W Q; rw [hW 48 (by omega)] at this; exact this
  | 49, _ => by have := w_1_49 M h w0 (.ofNat 0) W Q; rw [hW 49 (by omega)] at this; exact this
  | 50, _ => by have := w_1_50 M h w0 (.ofNat 0) W Q; rw [hW 50 (by omega)] at this; exact this
  | 51, _ => by have := w_1_51 M h w0 (.ofNat 0) W Q; rw [hW 51 (by omega)] at this; exact this
  | 52, _ => by have := w_1_52 M h w0 (.ofNat 0) W Q; rw [hW 52 (by omega)] at this; exact this
  | 53, _ => by have := w_1_53 M h w0 (.ofNat 0) W Q; rw [hW 53 (by omega)] at this; exact this
  | 54, _ => by have := w_1_54 M h w0 (.ofNat 0) W Q; rw [hW 54 (by omega)] at this; exact this
  | 55, _ => by have := w_1_55 M h w0 (.ofNat 0) W Q; rw [hW 55 (by omega)] at this; exact this
  | 56, _ => by have := w_1_56 M h w0 (.ofNat 0) W Q; rw [hW 56 (by omega)] at this; exact this
  | 57, _ => by have := w_1_57 M h w0 (.ofNat 0) W Q; rw [hW 57 (by omega)] at this; exact this
  | 58, _ => by have := w_1_58 M h w0 (.ofNat 0) W Q; rw [hW 58 (by omega)] at this; exact this
  | 59, _ => by have := w_1_59 M h w0 (.ofNat 0) W Q; rw [hW 59 (by omega)] at this; exact this
  | 60, _ => by have := w_1_60 M h w0 (.ofNat 0) W Q; rw [hW 60 (by omega)] at this; exact this
  | 61, _ => by have := w_1_61 M h w0 (.ofNat 0) W Q; rw [hW 61 (by omega)] at this; exact this
  | 62, _ => by have := w_1_62 M h w0 (.ofNat 0) W Q; rw [hW 62 (by omega)] at this; exact this
  | 63, _ => by have := w_1_63 M h w0 (.ofNat 0) W Q; rw [hW 63 (by omega)] at this; exact this
  | t + 64, h => by omega
theorem wl_1_0 (M : Nat → Nat) (h : H8) (w0 : World) (Q : Exit → Act → World → Prop) : Tri Tryd.prog E 282 (.blk 6 (.loop wB)) (At gs 282 w0 (wF 1 (.ofNat 0) 0) ⟨wH 1 M h (wAt (blkB M 0) 0), p66⟩) (Exit.then (At gs 282 w0 (wF 1 (.ofNat 0) 64) ⟨wH 1 M h (wAt (blkB M 0) 64), p66⟩) Q) :=
  Tri.blk (Tri.loop (I := fun t => At gs 282 w0 (wF 1 (.ofNat 0) t) ⟨wH 1 M h (wAt (blkB M 0) t), p66⟩) 64
    (fun t ht => by
      have h1 := wv_1_0 M h w0 (wAt (blkB M 0) t) (Exit.inBlock 6 (Exit.then (At gs 282 w0 (wF 1 (.ofNat 0) 64) ⟨wH 1 M h (wAt (blkB M 0) 64), p66⟩) Q)) (fun t _ => rnext_eq _ _ _ _) t ht
      rw [wAt_succ (blkB M 0) t rfl] at h1
      exact h1)
    (Tri.lastV okA (k := 40) (fuel := 70) (l := a5) (ks := wK) gs_lt' (by kernel_rfl) (by unfold Alike; kernel_rfl) (by kernel_rfl) (by kernel_rfl) (by kernel_rfl) (fun _ _ h => h)))
theorem r_1_0 : SR 1 0 := fun M h w0 at_ W x Q => Tri.stepV okA (k := 40) (fuel := 70) (l := (lR 1 0)) (ks := rK) gs_lt' (by kernel_rfl) (by unfold Alike; kernel_rfl) (by kernel_rfl) (by kernel_rfl) (by kernel_rfl)
theorem r_1_1 : SR 1 1 := fun M h w0 at_ W x Q => Tri.stepV okA (k := 40) (fuel := 70) (l := (lR 1 1)) (ks := rK) gs_lt' (by kernel_rfl) (by unfold Alike; kernel_rfl) (by kernel_rfl) (by kernel_rfl) (by kernel_rfl)
theorem r_1_2 : SR 1 2 := fun M h w0 at_ W x Q => Tri.stepV okA (k := 40) (fuel := 70) (l := (lR 1 2)) (ks := rK) gs_lt' (by kernel_rfl) (by unfold Alike; kernel_rfl) (by kernel_rfl) (by kernel_rfl) (by kernel_rfl)
theorem r_1_3 : SR 1 3 := fun M h w0 at_ W x Q => Tri.stepV okA (k := 40) (fuel := 70) (l := (lR 1 3)) (ks := rK) gs_lt' (by kernel_rfl) (by unfold Alike; kernel_rfl) (by kernel_rfl) (by kernel_rfl) (by kernel_rfl)
theorem r_1_4 : SR 1 4 := fun M h w0 at_ W x Q => Tri.stepV okA (k := 40) (fuel := 70) (l := (lR 1 4)) (ks := rK) gs_lt' (by kernel_rfl) (by unfold Alike; kernel_rfl) (by kernel_rfl) (by kernel_rfl) (by kernel_rfl)
theorem r_1_5 : SR 1 5 := fun M h w0 at_ W x Q => Tri.stepV okA (k := 40) (fuel := 70) (l := (lR 1 5)) (ks := rK) gs_lt' (by kernel_rfl) (by unfold Alike; kernel_rfl) (by kernel_rfl) (by kernel_rfl) (by kernel_rfl)
theorem r_1_6 : SR 1 6 := fun M h w0 at_ W x Q => Tri.stepV okA (k := 40) (fuel := 70) (l := (lR 1 6)) (ks := rK) gs_lt' (by kernel_rfl) (by unfold Alike; kernel_rfl) (by kernel_rfl) (by kernel_rfl) (by kernel_rfl)
theorem r_1_7 : SR 1 7 := fun M h w0 at_ W x Q => Tri.stepV okA (k := 40) (fuel := 70) (l := (lR 1 7)) (ks := rK) gs_lt' (by kernel_rfl) (by unfold Alike; kernel_rfl) (by kernel_rfl) (by kernel_rfl) (by kernel_rfl)
theorem r_1_8 : SR 1 8 := fun M h w0 at_ W x Q => Tri.stepV okA (k := 40) (fuel := 70) (l := (lR 1 8)) (ks := rK) gs_lt' (by kernel_rfl) (by unfold Alike; kernel_rfl) (by kernel_rfl) (by kernel_rfl) (by kernel_rfl)
theorem r_1_9 : SR 1 9 := fun M h w0 at_ W x Q => Tri.stepV okA (k := 40) (fuel := 70) (l := (lR 1 9)) (ks := rK) gs_lt' (by kernel_rfl) (by unfold Alike; kernel_rfl) (by kernel_rfl) (by kernel_rfl) (by kernel_rfl)
theorem r_1_10 : SR 1 10 := fun M h w0 at_ W x Q => Tri.stepV okA (k := 40) (fuel := 70) (l := (lR 1 10)) (ks := rK) gs_lt' (by kernel_rfl) (by unfold Alike; kernel_rfl) (by kernel_rfl) (by kernel_rfl) (by kernel_rfl)
theorem r_1_11 : SR 1 11 := fun M h w0 at_ W x Q => Tri.stepV okA (k := 40) (fuel := 70) (l := (lR 1 11)) (ks := rK) gs_lt' (by kernel_rfl) (by unfold Alike; kernel_rfl) (by kernel_rfl) (by kernel_rfl) (by kernel_rfl)
theorem r_1_12 : SR 1 12 := fun M h w0 at_ W x Q => Tri.stepV okA (k := 40) (fuel := 70) (l := (lR 1 12)) (ks := rK) gs_lt' (by kernel_rfl) (by unfold Alike; kernel_rfl) (by kernel_rfl) (by kernel_rfl) (by kernel_rfl)
theorem r_1_13 : SR 1 13 := fun M h w0 at_ W x Q => Tri.stepV okA (k := 40) (fuel := 70) (l := (lR 1 13)) (ks := rK) gs_lt' (by kernel_rfl) (by unfold Alike; kernel_rfl) (by kernel_rfl) (by kernel_rfl) (by kernel_rfl)
theorem r_1_14 : SR 1 14 := fun M h w0 at_ W x Q => Tri.stepV okA (k := 40) (fuel := 70) (l := (lR 1 14)) (ks := rK) gs_lt' (by kernel_rfl) (by unfold Alike; kernel_rfl) (by kernel_rfl) (by kernel_rfl) (by kernel_rfl)
theorem r_1_15 : SR 1 15 := fun M h w0 at_ W x Q => Tri.stepV okA (k := 40) (fuel := 70) (l := (lR 1 15)) (ks := rK) gs_lt' (by kernel_rfl) (by unfold Alike; kernel_rfl) (by kernel_rfl) (by kernel_rfl) (by kernel_rfl)
theorem r_1_16 : SR 1 16 := fun M h w0 at_ W x Q => Tri.stepV okA (k := 40) (fuel := 70) (l := (lR 1 16)) (ks := rK) gs_lt' (by kernel_rfl) (by unfold Alike; kernel_rfl) (by kernel_rfl) (by kernel_rfl) (by kernel_rfl)
theorem r_1_17 : SR 1 17 := fun M h w0 at_ W x Q => Tri.stepV okA (k := 40) (fuel := 70) (l := (lR 1 17)) (ks := rK) gs_lt' (by kernel_rfl) (by unfold Alike; kernel_rfl) (by kernel_rfl) (by kernel_rfl) (by kernel_rfl)
theorem r_1_18 : SR 1 18 := fun M h w0 at_ W x Q => Tri.stepV okA (k := 40) (fuel := 70) (l := (lR 1 18)) (ks := rK) gs_lt' (by kernel_rfl) (by unfold Alike; kernel_rfl) (by kernel_rfl) (by kernel_rfl) (by kernel_rfl)
theorem r_1_19 : SR 1 19 := fun M h w0 at_ W x Q => Tri.stepV okA (k := 40) (fuel := 70) (l := (lR 1 19)) (ks := rK) gs_lt' (by kernel_rfl) (by unfold Alike; kernel_rfl) (by kernel_rfl) (by kernel_rfl) (by kernel_rfl)
theorem r_1_20 : SR 1 20 := fun M h w0 at_ W x Q => Tri.stepV okA (k := 40) (fuel := 70) (l := (lR 1 20)) (ks := rK) gs_lt' (by kernel_rfl) (by unfold Alike; kernel_rfl) (by kernel_rfl) (by kernel_rfl) (by kernel_rfl)
theorem r_1_21 : SR 1 21 := fun M h w0 at_ W x Q => Tri.stepV okA (k := 40) (fuel := 70) (l := (lR 1 21)) (ks := rK) gs_lt' (by kernel_rfl) (by unfold Alike; kernel_rfl) (by kernel_rfl) (by kernel_rfl) (by kernel_rfl)
theorem r_1_22 : SR 1 22 := fun M h w0 at_ W x Q => Tri.stepV okA (k := 40) (fuel := 70) (l := (lR 1 22)) (ks := rK) gs_lt' (by kernel_rfl) (by unfold Alike; kernel_rfl) (by kernel_rfl) (by kernel_rfl) (by kernel_rfl)
theorem r_1_23 : SR 1 23 := fun M h w0 at_ W x Q => Tri.stepV okA (k := 40) (fuel := 70) (l := (lR 1 23)) (ks := rK) gs_lt' (by kernel_rfl) (by unfold Alike; kernel_rfl) (by kernel_rfl) (by kernel_rfl) (by kernel_rfl)
theorem r_1_24 : SR 1 24 := fun M h w0 at_ W x Q => Tri.stepV okA (k := 40) (fuel := 70) (l := (lR 1 24)) (ks := rK) gs_lt' (by kernel_rfl) (by unfold Alike; kernel_rfl) (by kernel_rfl) (by kernel_rfl) (by kernel_rfl)
theorem r_1_25 : SR 1 25 := fun M h w0 at_ W x Q => Tri.stepV okA (k := 40) (fuel := 70) (l := (lR 1 25)) (ks := rK) gs_lt' (by kernel_rfl) (by unfold Alike; kernel_rfl) (by kernel_rfl) (by kernel_rfl) (by kernel_rfl)
theorem r_1_26 : SR 1 26 := fun M h w0 at_ W x Q => Tri.stepV okA (k := 40) (fuel := 70) (l := (lR 1 26)) (ks := rK) gs_lt' (by kernel_rfl) (by unfold Alike; kernel_rfl) (by kernel_rfl) (by kernel_rfl) (by kernel_rfl)
theorem r_1_27 : SR 1 27 := fun M h w0 at_ W x Q => Tri.stepV okA (k := 40) (fuel := 70) (l := (lR 1 27)) (ks := rK) gs_lt' (by kernel_rfl) (by unfold Alike; kernel_rfl) (by kernel_rfl) (by kernel_rfl) (by kernel_rfl)
theorem r_1_28 : SR 1 28 := fun M h w0 at_ W x Q => Tri.stepV okA (k := 40) (fuel := 70) (l := (lR 1 28)) (ks := rK) gs_lt' (by kernel_rfl) (by unfold Alike; kernel_rfl) (by kernel_rfl) (by kernel_rfl) (by kernel_rfl)
theorem r_1_29 : SR 1 29 := fun M h w0 at_ W x Q => Tri.stepV okA (k := 40) (fuel := 70) (l := (lR 1 29)) (ks := rK) gs_lt' (by kernel_rfl) (by unfold Alike; kernel_rfl) (by kernel_rfl) (by kernel_rfl) (by kernel_rfl)
theorem r_1_30 : SR 1 30 := fun M h w0 at_ W x Q => Tri.stepV okA (k := 40) (fuel := 70) (l := (lR 1 30)) (ks := rK) gs_lt' (by kernel_rfl) (by unfold Alike; kernel_rfl) (by kernel_rfl) (by kernel_rfl) (by kernel_rfl)
theorem r_1_31 : SR 1 31 := fun M h w0 at_ W x Q => Tri.stepV okA (k := 40) (fuel := 70) (l := (lR 1 31)) (ks := rK) gs_lt' (by kernel_rfl) (by unfold Alike; kernel_rfl) (by kernel_rfl) (by kernel_rfl) (by kernel_rfl)
theorem r_1_32 : SR 1 32 := fun M h w0 at_ W x Q => Tri.stepV okA (k := 40) (fuel := 70) (l := (lR 1 32)) (ks := rK) gs_lt' (by kernel_rfl) (by unfold Alike; kernel_rfl) (by kernel_rfl) (by kernel_rfl) (by kernel_rfl)
theorem r_1_33 : SR 1 33 := fun M h w0 at_ W x Q => Tri.stepV okA (k := 40) (fuel := 70) (l := (lR 1 33)) (ks := rK) gs_lt' (by kernel_rfl) (by unfold Alike; kernel_rfl) (by kernel_rfl) (by kernel_rfl) (by kernel_rfl)
theorem r_1_34 : SR 1 34 := fun M h w0 at_ W x Q => Tri.stepV okA (k := 40) (fuel := 70) (l := (lR 1 34)) (ks := rK) gs_lt' (by kernel_rfl) (by unfold Alike; kernel_rfl) (by kernel_rfl) (by kernel_rfl) (by kernel_rfl)
theorem r_1_35 : SR 1 35 := fun M h w0 at_ W x Q => Tri.stepV okA (k := 40) (fuel := 70) (l := (lR 1 35)) (ks := rK) gs_lt' (by kernel_rfl) (by unfold Alike; kernel_rfl) (by kernel_rfl) (by kernel_rfl) (by kernel_rfl)
theorem r_1_36 : SR 1 36 := fun M h w0 at_ W x Q => Tri.stepV okA (k := 40) (fuel := 70) (l := (lR 1 36)) (ks := rK) gs_lt' (by kernel_rfl) (by unfold Alike; kernel_rfl) (by kernel_rfl) (by kernel_rfl) (by kernel_rfl)
theorem r_1_37 : SR 1 37 := fun M h w0 at_ W x Q => Tri.stepV okA (k := 40) (fuel := 70) (l := (lR 1 37)) (ks := rK) gs_lt' (by kernel_rfl) (by unfold Alike; kernel_rfl) (by kernel_rfl) (by kernel_rfl) (by kernel_rfl)
theorem r_1_38 : SR 1 38 := fun M h w0 at_ W x Q => Tri.stepV okA (k := 40) (fuel := 70) (l := (lR 1 38)) (ks := rK) gs_lt' (by kernel_rfl) (by unfold Alike; kernel_rfl) (by kernel_rfl) (by kernel_rfl) (by kernel_rfl)
theorem r_1_39 : SR 1 39 := fun M h w0 at_ W x Q => Tri.stepV okA (k := 40) (fuel := 70) (l := (lR 1 39)) (ks := rK) gs_lt' (by kernel_rfl) (by unfold Alike; kernel_rfl) (by kernel_rfl) (by kernel_rfl) (by kernel_rfl)
theorem r_1_40 : SR 1 40 := fun M h w0 at_ W x Q => Tri.stepV okA (k := 40) (fuel := 70) (l := (lR 1 40)) (ks := rK) gs_lt' (by kernel_rfl) (by unfold Alike; kernel_rfl) (by kernel_rfl) (by kernel_rfl) (by kernel_rfl)
theorem r_1_41 : SR 1 41 := fun M h w0 at_ W x Q => Tri.stepV okA (k := 40) (fuel := 70) (l := (lR 1 41)) (ks := rK) gs_lt' (by kernel_rfl) (by unfold Alike; kernel_rfl) (by kernel_rfl) (by kernel_rfl) (by kernel_rfl)
theorem r_1_42 : SR 1 42 := fun M h w0 at_ W x Q => Tri.stepV okA (k := 40) (fuel := 70) (l := (lR 1 42)) (ks := rK) gs_lt' (by kernel_rfl) (by unfold Alike; kernel_rfl) (by kernel_rfl) (by kernel_rfl) (by kernel_rfl)
theorem r_1_43 : SR 1 43 := fun M h w0 at_ W x Q => Tri.stepV okA (k := 40) (fuel := 70) (l := (lR 1 43)) (ks := rK) gs_lt' (by kernel_rfl) (by unfold Alike; kernel_rfl) (by kernel_rfl) (by kernel_rfl) (by kernel_rfl)
theorem r_1_44 : SR 1 44 := fun M h w0 at_ W x Q => Tri.stepV okA (k := 40) (fuel := 70) (l := (lR 1 44)) (ks := rK) gs_lt' (by kernel_rfl) (by unfold Alike; kernel_rfl) (by kernel_rfl) (by kernel_rfl) (by kernel_rfl)
theorem r_1_45 : SR 1 45 := fun M h w0 at_ W x Q => Tri.stepV okA (k := 40) (fuel := 70) (l := (lR 1 45)) (ks := rK) gs_lt' (by kernel_rfl) (by unfold Alike; kernel_rfl) (by kernel_rfl) (by kernel_rfl) (by kernel_rfl)
theorem r_1_46 : SR 1 46 := fun M h w0 at_ W x Q => Tri.stepV okA (k := 40) (fuel := 70) (l := (lR 1 46)) (ks := rK) gs_lt' (by kernel_rfl) (by unfold Alike; kernel_rfl) (by kernel_rfl) (by kernel_rfl) (by kernel_rfl)
theorem r_1_47 : SR 1 47 := fun M h w0 at_ W x Q => Tri.stepV okA (k := 40) (fuel := 70) (l := (lR 1 47)) (ks := rK) gs_lt' (by kernel_rfl) (by unfold Alike; kernel_rfl) (by kernel_rfl) (by kernel_rfl) (by kernel_rfl)
theorem r_1_48 : SR 1 48 := fun M h w0 at_ W x Q => Tri.stepV okA (k := 40) (fuel := 70) (l := (lR 1 48)) (ks := rK) gs_lt' (by kernel_rfl) (by unfold Alike; kernel_rfl) (by kernel_rfl) (by kernel_rfl) (by kernel_rfl)
theorem r_1_49 : SR 1 49 := fun M h w0 at_ W x Q => Tri.stepV okA (k := 40) (fuel := 70) (l := (lR 1 49)) (ks := rK) gs_lt' (by kernel_rfl) (by unfold Alike; kernel_rfl) (by kernel_rfl) (by kernel_rfl) (by kernel_rfl)
theorem r_1_50 : SR 1 50 := fun M h w0 at_ W x Q => Tri.stepV okA (k := 40) (fuel := 70) (l := (lR 1 50)) (ks := rK) gs_lt' (by kernel_rfl) (by unfold Alike; kernel_rfl) (by kernel_rfl) (by kernel_rfl) (by kernel_rfl)
theorem r_1_51 : SR 1 51 := fun M h w0 at_ W x Q => Tri.stepV okA (k := 40) (fuel := 70) (l := (lR 1 51)) (ks := rK) gs_lt' (by kernel_rfl) (by unfold Alike; kernel_rfl) (by kernel_rfl) (by kernel_rfl) (by kernel_rfl)
theorem r_1_52 : SR 1 52 := fun M h w0 at_ W x Q => Tri.stepV okA (k := 40) (fuel := 70) (l := (lR 1 52)) (ks := rK) gs_lt' (by kernel_rfl) (by unfold Alike; kernel_rfl) (by kernel_rfl) (by kernel_rfl) (by kernel_rfl)
theorem r_1_53 : SR 1 53 := fun M h w0 at_ W x Q => Tri.stepV okA (k := 40) (fuel := 70) (l := (lR 1 53)) (ks := rK) gs_lt' (by kernel_rfl) (by unfold Alike; kernel_rfl) (by kernel_rfl) (by kernel_rfl) (by kernel_rfl)
theorem r_1_54 : SR 1 54 := fun M h w0 at_ W x Q => Tri.stepV okA (k := 40) (fuel := 70) (l := (lR 1 54)) (ks := rK) gs_lt' (by kernel_rfl) (by unfold Alike; kernel_rfl) (by kernel_rfl) (by kernel_rfl) (by kernel_rfl)
theorem r_1_55 : SR 1 55 := fun M h w0 at_ W x Q => Tri.stepV okA (k := 40) (fuel := 70) (l := (lR 1 55)) (ks := rK) gs_lt' (by kernel_rfl) (by unfold Alike; kernel_rfl) (by kernel_rfl) (by kernel_rfl) (by kernel_rfl)
theorem r_1_56 : SR 1 56 := fun M h w0 at_ W x Q => Tri.stepV okA (k := 40) (fuel := 70) (l := (lR 1 56)) (ks := rK) gs_lt' (by kernel_rfl) (by unfold Alike; kernel_rfl) (by kernel_rfl) (by kernel_rfl) (by kernel_rfl)
theorem r_1_57 : SR 1 57 := fun M h w0 at_ W x Q => Tri.stepV okA (k := 40) (fuel := 70) (l := (lR 1 57)) (ks := rK) gs_lt' (by kernel_rfl) (by unfold Alike; kernel_rfl) (by kernel_rfl) (by kernel_rfl) (by kernel_rfl)
theorem r_1_58 : SR 1 58 := fun M h w0 at_ W x Q => Tri.stepV okA (k := 40) (fuel := 70) (l := (lR 1 58)) (ks := rK) gs_lt' (by kernel_rfl) (by unfold Alike; kernel_rfl) (by kernel_rfl) (by kernel_rfl) (by kernel_rfl)
theorem r_1_59 : SR 1 59 := fun M h w0 at_ W x Q => Tri.stepV okA (k := 40) (fuel := 70) (l := (lR 1 59)) (ks := rK) gs_lt' (by kernel_rfl) (by unfold Alike; kernel_rfl) (by kernel_rfl) (by kernel_rfl) (by kernel_rfl)
theorem r_1_60 : SR 1 60 := fun M h w0 at_ W x Q => Tri.stepV okA (k := 40) (fuel := 70) (l := (lR 1 60)) (ks := rK) gs_lt' (by kernel_rfl) (by unfold Alike; kernel_rfl) (by kernel_rfl) (by kernel_rfl) (by kernel_rfl)
theorem r_1_61 : SR 1 61 := fun M h w0 at_ W x Q => Tri.stepV okA (k := 40) (fuel := 70) (l := (lR 1 61)) (ks := rK) gs_lt' (by kernel_rfl) (by unfold Alike; kernel_rfl) (by kernel_rfl) (by kernel_rfl) (by kernel_rfl)
theorem r_1_62 : SR 1 62 := fun M h w0 at_ W x Q => Tri.stepV okA (k := 40) (fuel := 70) (l := (lR 1 62)) (ks := rK) gs_lt' (by kernel_rfl) (by unfold Alike; kernel_rfl) (by kernel_rfl) (by kernel_rfl) (by kernel_rfl)
theorem r_1_63 : SR 1 63 := fun M h w0 at_ W x Q => Tri.stepV okA (k := 40) (fuel := 70) (l := (lR 1 63)) (ks := rK) gs_lt' (by kernel_rfl) (by unfold Alike; kernel_rfl) (by kernel_rfl) (by kernel_rfl) (by kernel_rfl)
theorem rv_1 (M : Nat → Nat) (h : H8) (w0 : World) (at_ : Int) (W : Nat → Nat) (x : H8) (Q : Exit → Act → World → Prop) : ∀ t, t < 64 → Tri Tryd.prog E 282 rB (At gs 282 w0 (rF 1 at_ t) ⟨rH 1 M h W x, p67⟩) (Exit.then (At gs 282 w0 (rF 1 at_ (t + 1)) ⟨rH 1 M h W (rnd (getN kW t) (W t) x), p67⟩) Q)
  | 0, _ => by have := r_1_0 M h w0 at_ W x Q; rw [rndR_eq] at this; exact this
  | 1, _ => by have := r_1_1 M h w0 at_ W x Q; rw [rndR_eq] at this; exact this
  | 2, _ => by have := r_1_2 M h w0 at_ W x Q; rw [rndR_eq] at this; exact this
  | 3, _ => by have := r_1_3 M h w0 at_ W x Q; rw [rndR_eq] at this; exact this
  | 4, _ => by have := r_1_4 M h w0 at_ W x Q; rw [rndR_eq] at this; exact this
  | 5, _ => by have := r_1_5 M h w0 at_ W x Q; rw [rndR_eq] at this; exact this
  | 6, _ => by have := r_1_6 M h w0 at_ W x Q; rw [rndR_eq] at this; exact this
  | 7, _ => by have := r_1_7 M h w0 at_ W x Q; rw [rndR_eq] at this; exact this
  | 8, _ => by have := r_1_8 M h w0 at_ W x Q; rw [rndR_eq] at this; exact this
  | 9, _ => by have := r_1_9 M h w0 at_ W x Q; rw [rndR_eq] at this; exact this
  | 10, _ => by have := r_1_10 M h w0 at_ W x Q; rw [rndR_eq] at this; exact this
  | 11, _ => by have := r_1_11 M h w0 at_ W x Q; rw [rndR_eq] at this; exact this
  | 12, _ => by have := r_1_12 M h w0 at_ W x Q; rw [rndR_eq] at this; exact this
  | 13, _ => by have := r_1_13 M h w0 at_ W x Q; rw [rndR_eq] at this; exact this
  | 14, _ => by have := r_1_14 M h w0 at_ W x Q; rw [rndR_eq] at this; exact this
  | 15, _ => by have := r_1_15 M h w0 at_ W x Q; rw [rndR_eq] at this; exact this
  | 16, _ => by have := r_1_16 M h w0 at_ W x Q; rw [rndR_eq] at this; exact this
  | 17, _ => by have := r_1_17 M h w0 at_ W x Q; rw [rndR_eq] at this; exact this
  | 18, _ => by have := r_1_18 M h w0 at_ W x Q; rw [rndR_eq] at this; exact this
  | 19, _ => by have := r_1_19 M h w0 at_ W x Q; rw [rndR_eq] at this; exact this
  | 20, _ => by have := r_1_20 M h w0 at_ W x Q; rw [rndR_eq] at this; exact this
  | 21, _ => by have := r_1_21 M h w0 at_ W x Q; rw [rndR_eq] at this; exact this
  | 22, _ => by have := r_1_22 M h w0 at_ W x Q; rw [rndR_eq] at this; exact this
  | 23, _ => by have := r_1_23 M h w0 at_ W x Q; rw [rndR_eq] at this; exact this
  | 24, _ => by have := r_1_24 M h w0 at_ W x Q; rw [rndR_eq] at this; exact this
  | 25, _ => by have := r_1_25 M h w0 at_ W x Q; rw [rndR_eq] at this; exact this
  | 26, _ => by have := r_1_26 M h w0 at_ W x Q; rw [rndR_eq] at this; exact this
  | 27, _ => by have := r_1_27 M h w0 at_ W x Q; rw [rndR_eq] at this; exact this
  | 28, _ => by have := r_1_28 M h w0 at_ W x Q; rw [rndR_eq] at this; exact this
  | 29, _ => by have := r_1_29 M h w0 at_ W x Q; rw [rndR_eq] at this; exact this
  | 30, _ => by have := r_1_30 M h w0 at_ W x Q; rw [rndR_eq] at this; exact this
  | 31, _ => by have := r_1_31 M h w0 at_ W x Q; rw [rndR_eq] at this; exact this
  | 32, _ => by have := r_1_32 M h w0 at_ W x Q; rw [rndR_eq] at this; exact this
  | 33, _ => by have := r_1_33 M h w0 at_ W x Q; rw [rndR_eq] at this; exact this
  | 34, _ => by have := r_1_34 M h w0 at_ W x Q; rw [rndR_eq] at this; exact this
  | 35, _ => by have := r_1_35 M h w0 at_ W x Q; rw [rndR_eq] at this; exact this
  | 36, _ => by have := r_1_36 M h w0 at_ W x Q; rw [rndR_eq] at this; exact this
  | 37, _ => by have := r_1_37 M h w0 at_ W x Q; rw [rndR_eq] at this; exact this
  | 38, _ => by have := r_1_38 M h w0 at_ W x Q; rw [rndR_eq] at this; exact this
  | 39, _ => by have := r_1_39 M h w0 at_ W x Q; rw [rndR_eq] at this; exact this
  | 40, _ => by have := r_1_40 M h w0 at_ W x Q; rw [rndR_eq] at this; exact this
  | 41, _ => by have := r_1_41 M h w0 at_ W x Q; rw [rndR_eq] at this; exact this
  | 42, _ => by have := r_1_42 M h w0 at_ W x Q; rw [rndR_eq] at this; exact this
  | 43, _ => by have := r_1_43 M h w0 at_ W x Q; rw [rndR_eq] at this; exact this
  | 44, _ => by have := r_1_44 M h w0 at_ W x Q; rw [rndR_eq] at this; exact this
  | 45, _ => by have := r_1_45 M h w0 at_ W x Q; rw [rndR_eq] at this; exact this
  | 46, _ => by have := r_1_46 M h w0 at_ W x Q; rw [rndR_eq] at this; exact this
  | 47, _ => by have := r_1_47 M h w0 at_ W x Q; rw [rndR_eq] at this; exact this
  | 48, _ => by have := r_1_48 M h w0 at_ W x Q; rw [rndR_eq] at this; exact this
  | 49, _ => by have := r_1_49 M h w0 at_ W x Q; rw [rndR_eq] at this; exact this
  | 50, _ => by have := r_1_50 M h w0 at_ W x Q; rw [rndR_eq] at this; exact this
  | 51, _ => by have := r_1_51 M h w0 at_ W x Q; rw [rndR_eq] at this; exact this
  | 52, _ => by have := r_1_52 M h w0 at_ W x Q; rw [rndR_eq] at this; exact this
  | 53, _ => by have := r_1_53 M h w0 at_ W x Q; rw [rndR_eq] at this; exact this
  | 54, _ => by have := r_1_54 M h w0 at_ W x Q; rw [rndR_eq] at this; exact this
  | 55, _ => by have := r_1_55 M h w0 at_ W x Q; rw [rndR_eq] at this; exact this
  | 56, _ => by have := r_1_56 M h w0 at_ W x Q; rw [rndR_eq] at this; exact this
  | 57, _ => by have := r_1_57 M h w0 at_ W x Q; rw [rndR_eq] at this; exact this
  | 58, _ => by have := r_1_58 M h w0 at_ W x Q; rw [rndR_eq] at this; exact this
  | 59, _ => by have := r_1_59 M h w0 at_ W x Q; rw [rndR_eq] at this; exact this
  | 60, _ => by have := r_1_60 M h w0 at_ W x Q; rw [rndR_eq] at this; exact this
  | 61, _ => by have := r_1_61 M h w0 at_ W x Q; rw [rndR_eq] at this; exact this
  | 62, _ => by have := r_1_62 M h w0 at_ W x Q; rw [rndR_eq] at this; exact this
  | 63, _ => by have := r_1_63 M h w0 at_ W x Q; rw [rndR_eq] at this; exact this
  | t + 64, h => by omega
theorem rl_1 (M : Nat → Nat) (h : H8) (w0 : World) (at_ : Int) (W : Nat → Nat) (x : H8) (Q : Exit → Act → World → Prop) : Tri Tryd.prog E 282 (.blk 8 (.loop rB)) (At gs 282 w0 (rF 1 at_ 0) ⟨rH 1 M h W x, p67⟩) (Exit.then (At gs 282 w0 (rF 1 at_ 64) ⟨rH 1 M h W (rnds W x 64), p67⟩) Q) :=
  Tri.blk (Tri.loop (I := fun t => At gs 282 w0 (rF 1 at_ t) ⟨rH 1 M h W (rnds W x t), p67⟩) 64 (fun t ht => rv_1 M h w0 at_ W (rnds W x t) _ t ht)
    (Tri.lastV okA (k := 40) (fuel := 70) (l := a6 p66) (ks := rK) gs_lt' (by kernel_rfl) (by unfold Alike; kernel_rfl) (by kernel_rfl) (by kernel_rfl) (by kernel_rfl) (fun _ _ h => h)))
theorem at_1_0 (M : Nat → Nat) (h : H8) (w0 : World) (Q : Exit → Act → World → Prop) : Tri Tryd.prog E 282 atB (At gs 282 w0 (aF 1 (.ofNat 0)) ⟨aH 1 M h, p65⟩) (Exit.then (At gs 282 w0 (aF 1 (.ofNat 64)) ⟨aH 1 M (mixF h (blkB M 0)), p65⟩) Q) := by
  rw [atB_shape]
  refine Tri.seq (J := At gs 282 w0 (aF 1 (.ofNat 0)) ⟨aH 1 M h, p65⟩) (Tri.stepV okA (k := 40) (fuel := 70) (l := a4) (ks := aK) gs_lt' (by kernel_rfl) (by unfold Alike; kernel_rfl) (by kernel_rfl) (by kernel_rfl) (by kernel_rfl)) ?_
  refine Tri.seq (J := At gs 282 w0 (aF 1 (.ofNat 0)) ⟨aH 1 M (mixF h (blkB M 0)), p65⟩) ?_ (Tri.stepV okA (k := 40) (fuel := 70) (l := a4) (ks := aK) gs_lt' (by kernel_rfl) (by unfold Alike; kernel_rfl) (by kernel_rfl) (by kernel_rfl) (by kernel_rfl))
  refine Tri.blk ?_
  rw [atY_shape]
  refine Tri.seq (J := At gs 282 w0 (T.set (.slice p65 0 64 (some 64) 1) p9 (aF 1 (.ofNat 0))) ⟨wH 1 M h (fun _ => 0), p66⟩) (Tri.stepV okA (k := 40) (fuel := 70) (l := a5) (ks := [p2, p3, p4, p7, p8, p9]) gs_lt' (by kernel_rfl) (by unfold Alike; kernel_rfl) (by kernel_rfl) (by kernel_rfl) (by kernel_rfl)) ?_
  refine Tri.seq (J := At gs 282 w0 (wF 1 (.ofNat 0) 64) ⟨wH 1 M h (wAt (blkB M 0) 64), p66⟩) ?_ ?_
  · rw [yW_shape]
    exact Tri.seq (J := At gs 282 w0 (wF 1 (.ofNat 0) 0) ⟨wH 1 M h (wAt (blkB M 0) 0), p66⟩) (Tri.stepV okA (k := 40) (fuel := 70) (l := a5) (ks := wK) gs_lt' (by kernel_rfl) (by unfold Alike; kernel_rfl) (by kernel_rfl) (by kernel_rfl) (by kernel_rfl)) (wl_1_0 M h w0 _)
  refine Tri.seq (J := At gs 282 w0 (T.set (.slice p66 0 8 none 1) p14 (T.set (.slice p65 0 64 (some 64) 1) p9 (aF 1 (.ofNat 0)))) ⟨rH 1 M h (wAt (blkB M 0) 64) h, p67⟩) (Tri.stepV okA (k := 40) (fuel := 70) (l := (a6 p67)) (ks := [p2, p3, p4, p7, p8, p9, p14]) gs_lt' (by kernel_rfl) (by unfold Alike; kernel_rfl) (by kernel_rfl) (by kernel_rfl) (by kernel_rfl)) ?_
  refine Tri.seq (J := At gs 282 w0 (rF 1 (.ofNat 0) 64) ⟨rH 1 M h (wAt (blkB M 0) 64) (rnds (wAt (blkB M 0) 64) h 64), p67⟩) ?_ ?_
  · rw [yR_shape]
    exact Tri.seq (J := At gs 282 w0 (rF 1 (.ofNat 0) 0) ⟨rH 1 M h (wAt (blkB M 0) 64) h, p67⟩) (Tri.stepV okA (k := 40) (fuel := 70) (l := (a6 p66)) (ks := rK) gs_lt' (by kernel_rfl) (by unfold Alike; kernel_rfl) (by kernel_rfl) (by kernel_rfl) (by kernel_rfl)) (rl_1 M h w0 _ _ h _)
  exact Tri.endV okA (k := 40) (fuel := 70) (l := a4) (ks := aK) gs_lt' (by kernel_rfl) (by unfold Alike; kernel_rfl) (by kernel_rfl) (by kernel_rfl) (by kernel_rfl) (fun _ _ h => h)
theorem av_1 (M : Nat → Nat) (w0 : World) (Q : Exit → Act → World → Prop) : ∀ j, j < 1 → Tri Tryd.prog E 282 atB (At gs 282 w0 (aF 1 (.ofNat (Nat.mul 64 j))) ⟨aH 1 M (hAt M j), p65⟩) (Exit.then (At gs 282 w0 (aF 1 (.ofNat (Nat.mul 64 (j + 1)))) ⟨aH 1 M (hAt M (j + 1)), p65⟩) Q)
  | 0, _ => at_1_0 M (hAt M 0) w0 Q
  | j + 1, h => by omega
theorem al_1 (M : Nat → Nat) (w0 : World) (Q : Exit → Act → World → Prop) : Tri Tryd.prog E 282 (.blk 4 (.loop atB)) (At gs 282 w0 (aF 1 (.ofNat 0)) ⟨aH 1 M (hAt M 0), p65⟩) (Exit.then (At gs 282 w0 (aF 1 (.ofNat 64)) ⟨aH 1 M (hAt M 1), p65⟩) Q) :=
  Tri.blk (Tri.loop (I := fun j => At gs 282 w0 (aF 1 (.ofNat (Nat.mul 64 j))) ⟨aH 1 M (hAt M j), p65⟩) 1 (fun j hj => av_1 M w0 _ j hj)
    (Tri.lastV okA (k := 40) (fuel := 70) (l := a4) (ks := aK) gs_lt' (by kernel_rfl) (by unfold Alike; kernel_rfl) (by kernel_rfl) (by kernel_rfl) (by kernel_rfl) (fun _ _ h => h)))
theorem ae_1 (M : Nat → Nat) (h : H8) (w0 : World) : Tri Tryd.prog E 282 rfEnd (At gs 282 w0 (aF 1 (.ofNat 64)) ⟨aH 1 M h, p65⟩) (fun e a' w' => e = .ret ∧ ∃ A' σ', At gs 282 w0 A' σ' a' w' ∧ resF (resI f62) A' σ' = some [.agg (bs (outL h))]) :=
  Tri.retV okA (k := 40) (fuel := 70) (by kernel_rfl) (by unfold Alike; kernel_rfl) (by kernel_rfl)
theorem w_2_0_0 : SW0 2 0 0 0 := fun M h w0 W Q => Tri.stepV okA (k := 40) (fuel := 70) (l := a5) (ks := wK) gs_lt' (by kernel_rfl) (by unfold Alike; kernel_rfl) (by kernel_rfl) (by kernel_rfl) (by kernel_rfl)
theorem w_2_0_1 : SW0 2 0 0 1 := fun M h w0 W Q => Tri.stepV okA (k := 40) (fuel := 70) (l := a5) (ks := wK) gs_lt' (by kernel_rfl) (by unfold Alike; kernel_rfl) (by kernel_rfl) (by kernel_rfl) (by kernel_rfl)
theorem w_2_0_2 : SW0 2 0 0 2 := fun M h w0 W Q => Tri.stepV okA (k := 40) (fuel := 70) (l := a5) (ks := wK) gs_lt' (by kernel_rfl) (by unfold Alike; kernel_rfl) (by kernel_rfl) (by kernel_rfl) (by kernel_rfl)
theorem w_2_0_3 : SW0 2 0 0 3 := fun M h w0 W Q => Tri.stepV okA (k := 40) (fuel := 70) (l := a5) (ks := wK) gs_lt' (by kernel_rfl) (by unfold Alike; kernel_rfl) (by kernel_rfl) (by kernel_rfl) (by kernel_rfl)
theorem w_2_0_4 : SW0 2 0 0 4 := fun M h w0 W Q => Tri.stepV okA (k := 40) (fuel := 70) (l := a5) (ks := wK) gs_lt' (by kernel_rfl) (by unfold Alike; kernel_rfl) (by kernel_rfl) (by kernel_rfl) (by kernel_rfl)
theorem w_2_0_5 : SW0 2 0 0 5 := fun M h w0 W Q => Tri.stepV okA (k := 40) (fuel := 70) (l := a5) (ks := wK) gs_lt' (by kernel_rfl) (by unfold Alike; kernel_rfl) (by kernel_rfl) (by kernel_rfl) (by kernel_rfl)
theorem w_2_0_6 : SW0 2 0 0 6 := fun M h w0 W Q => Tri.stepV okA (k := 40) (fuel := 70) (l := a5) (ks := wK) gs_lt' (by kernel_rfl) (by unfold Alike; kernel_rfl) (by kernel_rfl) (by kernel_rfl) (by kernel_rfl)
theorem w_2_0_7 : SW0 2 0 0 7 := fun M h w0 W Q => Tri.stepV okA (k := 40) (fuel := 70) (l := a5) (ks := wK) gs_lt' (by kernel_rfl) (by unfold Alike; kernel_rfl) (by kernel_rfl) (by kernel_rfl) (by kernel_rfl)
theorem w_2_0_8 : SW0 2 0 0 8 := fun M h w0 W Q => Tri.stepV okA (k := 40) (fuel := 70) (l := a5) (ks := wK) gs_lt' (by kernel_rfl) (by unfold Alike; kernel_rfl) (by kernel_rfl) (by kernel_rfl) (by kernel_rfl)
theorem w_2_0_9 : SW0 2 0 0 9 := fun M h w0 W Q => Tri.stepV okA (k := 40) (fuel := 70) (l := a5) (ks := wK) gs_lt' (by kernel_rfl) (by unfold Alike; kernel_rfl) (by kernel_rfl) (by kernel_rfl) (by kernel_rfl)
theorem w_2_0_10 : SW0 2 0 0 10 := fun M h w0 W Q => Tri.stepV okA (k := 40) (fuel := 70) (l := a5) (ks := wK) gs_lt' (by kernel_rfl) (by unfold Alike; kernel_rfl) (by kernel_rfl) (by kernel_rfl) (by kernel_rfl)
theorem w_2_0_11 : SW0 2 0 0 11 := fun M h w0 W Q => Tri.stepV okA (k := 40) (fuel := 70) (l := a5) (ks := wK) gs_lt' (by kernel_rfl) (by unfold Alike; kernel_rfl) (by kernel_rfl) (by kernel_rfl) (by kernel_rfl)
theorem w_2_0_12 : SW0 2 0 0 12 := fun M h w0 W Q => Tri.stepV okA (k := 40) (fuel := 70) (l := a5) (ks := wK) gs_lt' (by kernel_rfl) (by unfold Alike; kernel_rfl) (by kernel_rfl) (by kernel_rfl) (by kernel_rfl)
theorem w_2_0_13 : SW0 2 0 0 13 := fun M h w0 W Q => Tri.stepV okA (k := 40) (fuel := 70) (l := a5) (ks := wK) gs_lt' (by kernel_rfl) (by unfold Alike; kernel_rfl) (by kernel_rfl) (by kernel_rfl) (by kernel_rfl)
theorem w_2_0_14 : SW0 2 0 0 14 := fun M h w0 W Q => Tri.stepV okA (k := 40) (fuel := 70) (l := a5) (ks := wK) gs_lt' (by kernel_rfl) (by unfold Alike; kernel_rfl) (by kernel_rfl) (by kernel_rfl) (by kernel_rfl)
theorem w_2_0_15 : SW0 2 0 0 15 := fun M h w0 W Q => Tri.stepV okA (k := 40) (fuel := 70) (l := a5) (ks := wK) gs_lt' (by kernel_rfl) (by unfold Alike; kernel_rfl) (by kernel_rfl) (by kernel_rfl) (by kernel_rfl)
theorem w_2_1_0 : SW0 2 64 1 0 := fun M h w0 W Q => Tri.stepV okA (k := 40) (fuel := 70) (l := a5) (ks := wK) gs_lt' (by kernel_rfl) (by unfold Alike; kernel_rfl) (by kernel_rfl) (by kernel_rfl) (by kernel_rfl)
theorem w_2_1_1 : SW0 2 64 1 1 := fun M h w0 W Q => Tri.stepV okA (k := 40) (fuel := 70) (l := a5) (ks := wK) gs_lt' (by kernel_rfl) (by unfold Alike; kernel_rfl) (by kernel_rfl) (by kernel_rfl) (by kernel_rfl)
theorem w_2_1_2 : SW0 2 64 1 2 := fun M h w0 W Q => Tri.stepV okA (k := 40) (fuel := 70) (l := a5) (ks := wK) gs_lt' (by kernel_rfl) (by unfold Alike; kernel_rfl) (by kernel_rfl) (by kernel_rfl) (by kernel_rfl)
theorem w_2_1_3 : SW0 2 64 1 3 := fun M h w0 W Q => Tri.stepV okA (k := 40) (fuel := 70) (l := a5) (ks := wK) gs_lt' (by kernel_rfl) (by unfold Alike; kernel_rfl) (by kernel_rfl) (by kernel_rfl) (by kernel_rfl)
theorem w_2_1_4 : SW0 2 64 1 4 := fun M h w0 W Q => Tri.stepV okA (k := 40) (fuel := 70) (l := a5) (ks := wK) gs_lt' (by kernel_rfl) (by unfold Alike; kernel_rfl) (by kernel_rfl) (by kernel_rfl) (by kernel_rfl)
theorem w_2_1_5 : SW0 2 64 1 5 := fun M h w0 W Q => Tri.stepV okA (k := 40) (fuel := 70) (l := a5) (ks := wK) gs_lt' (by kernel_rfl) (by unfold Alike; kernel_rfl) (by kernel_rfl) (by kernel_rfl) (by kernel_rfl)
theorem w_2_1_6 : SW0 2 64 1 6 := fun M h w0 W Q => Tri.stepV okA (k := 40) (fuel := 70) (l := a5) (ks := wK) gs_lt' (by kernel_rfl) (by unfold Alike; kernel_rfl) (by kernel_rfl) (by kernel_rfl) (by kernel_rfl)
theorem w_2_1_7 : SW0 2 64 1 7 := fun M h w0 W Q => Tri.stepV okA (k := 40) (fuel := 70) (l := a5) (ks := wK) gs_lt' (by kernel_rfl) (by unfold Alike; kernel_rfl) (by kernel_rfl) (by kernel_rfl) (by kernel_rfl)
theorem w_2_1_8 : SW0 2 64 1 8 := fun M h w0 W Q => Tri.stepV okA (k := 40) (fuel := 70) (l := a5) (ks := wK) gs_lt' (by kernel_rfl) (by unfold Alike; kernel_rfl) (by kernel_rfl) (by kernel_rfl) (by kernel_rfl)
theorem w_2_1_9 : SW0 2 64 1 9 := fun M h w0 W Q => Tri.stepV okA (k := 40) (fuel := 70) (l := a5) (ks := wK) gs_lt' (by kernel_rfl) (by unfold Alike; kernel_rfl) (by kernel_rfl) (by kernel_rfl) (by kernel_rfl)
theorem w_2_1_10 : SW0 2 64 1 10 := fun M h w0 W Q => Tri.stepV okA (k := 40) (fuel := 70) (l := a5) (ks := wK) gs_lt' (by kernel_rfl) (by unfold Alike; kernel_rfl) (by kernel_rfl) (by kernel_rfl) (by kernel_rfl)
theorem w_2_1_11 : SW0 2 64 1 11 := fun M h w0 W Q => Tri.stepV okA (k := 40) (fuel := 70) (l := a5) (ks := wK) gs_lt' (by kernel_rfl) (by unfold Alike; kernel_rfl) (by kernel_rfl) (by kernel_rfl) (by kernel_rfl)
theorem w_2_1_12 : SW0 2 64 1 12 := fun M h w0 W Q => Tri.stepV okA (k := 40) (fuel := 70) (l := a5) (ks := wK) gs_lt' (by kernel_rfl) (by unfold Alike; kernel_rfl) (by kernel_rfl) (by kernel_rfl) (by kernel_rfl)
theorem w_2_1_13 : SW0 2 64 1 13 := fun M h w0 W Q => Tri.stepV okA (k := 40) (fuel := 70) (l := a5) (ks := wK) gs_lt' (by kernel_rfl) (by unfold Alike; kernel_rfl) (by kernel_rfl) (by kernel_rfl) (by kernel_rfl)
theorem w_2_1_14 : SW0 2 64 1 14 := fun M h w0 W Q => Tri.stepV okA (k := 40) (fuel := 70) (l := a5) (ks := wK) gs_lt' (by kernel_rfl) (by unfold Alike; kernel_rfl) (by kernel_rfl) (by kernel_rfl) (by kernel_rfl)
theorem w_2_1_15 : SW0 2 64 1 15 := fun M h w0 W Q => Tri.stepV okA (k := 40) (fuel := 70) (l := a5) (ks := wK) gs_lt' (by kernel_rfl) (by unfold Alike; kernel_rfl) (by kernel_rfl) (by kernel_rfl) (by kernel_rfl)
theorem w_2_16 : SW1 2 16 := fun M h w0 at_ W Q => Tri.stepV okA (k := 40) (fuel := 70) (l := a5) (ks := wK) gs_lt' (by kernel_rfl) (by unfold Alike; kernel_rfl) (by kernel_rfl) (by kernel_rfl) (by kernel_rfl)
theorem w_2_17 : SW1 2 17 := fun M h w0 at_ W Q => Tri.stepV okA (k := 40) (fuel := 70) (l := a5) (ks := wK) gs_lt' (by kernel_rfl) (by unfold Alike; kernel_rfl) (by kernel_rfl) (by kernel_rfl) (by kernel_rfl)
theorem w_2_18 : SW1 2 18 := fun M h w0 at_ W Q => Tri.stepV okA (k := 40) (fuel := 70) (l := a5) (ks := wK) gs_lt' (by kernel_rfl) (by unfold Alike; kernel_rfl) (by kernel_rfl) (by kernel_rfl) (by kernel_rfl)
theorem w_2_19 : SW1 2 19 := fun M h w0 at_ W Q => Tri.stepV okA (k := 40) (fuel := 70) (l := a5) (ks := wK) gs_lt' (by kernel_rfl) (by unfold Alike; kernel_rfl) (by kernel_rfl) (by kernel_rfl) (by kernel_rfl)
theorem w_2_20 : SW1 2 20 := fun M h w0 at_ W Q => Tri.stepV okA (k := 40) (fuel := 70) (l := a5) (ks := wK) gs_lt' (by kernel_rfl) (by unfold Alike; kernel_rfl) (by kernel_rfl) (by kernel_rfl) (by kernel_rfl)
theorem w_2_21 : SW1 2 21 := fun M h w0 at_ W Q => Tri.stepV okA (k := 40) (fuel := 70) (l := a5) (ks := wK) gs_lt' (by kernel_rfl) (by unfold Alike; kernel_rfl) (by kernel_rfl) (by kernel_rfl) (by kernel_rfl)
theorem w_2_22 : SW1 2 22 := fun M h w0 at_ W Q => Tri.stepV okA (k := 40) (fuel := 70) (l := a5) (ks := wK) gs_lt' (by kernel_rfl) (by unfold Alike; kernel_rfl) (by kernel_rfl) (by kernel_rfl) (by kernel_rfl)
theorem w_2_23 : SW1 2 23 := fun M h w0 at_ W Q => Tri.stepV okA (k := 40) (fuel := 70) (l := a5) (ks := wK) gs_lt' (by kernel_rfl) (by unfold Alike; kernel_rfl) (by kernel_rfl) (by kernel_rfl) (by kernel_rfl)
theorem w_2_24 : SW1 2 24 := fun M h w0 at_ W Q => Tri.stepV okA (k := 40) (fuel := 70) (l := a5) (ks := wK) gs_lt' (by kernel_rfl) (by unfold Alike; kernel_rfl) (by kernel_rfl) (by kernel_rfl) (by kernel_rfl)
theorem w_2_25 : SW1 2 25 := fun M h w0 at_ W Q => Tri.stepV okA (k := 40) (fuel := 70) (l := a5) (ks := wK) gs_lt' (by kernel_rfl) (by unfold Alike; kernel_rfl) (by kernel_rfl) (by kernel_rfl) (by kernel_rfl)
theorem w_2_26 : SW1 2 26 := fun M h w0 at_ W Q => Tri.stepV okA (k := 40) (fuel := 70) (l := a5) (ks := wK) gs_lt' (by kernel_rfl) (by unfold Alike; kernel_rfl) (by kernel_rfl) (by kernel_rfl) (by kernel_rfl)
theorem w_2_27 : SW1 2 27 := fun M h w0 at_ W Q => Tri.stepV okA (k := 40) (fuel := 70) (l := a5) (ks := wK) gs_lt' (by kernel_rfl) (by unfold Alike; kernel_rfl) (by kernel_rfl) (by kernel_rfl) (by kernel_rfl)
theorem w_2_28 : SW1 2 28 := fun M h w0 at_ W Q => Tri.stepV okA (k := 40) (fuel := 70) (l := a5) (ks := wK) gs_lt' (by kernel_rfl) (by unfold Alike; kernel_rfl) (by kernel_rfl) (by kernel_rfl) (by kernel_rfl)
theorem w_2_29 : SW1 2 29 := fun M h w0 at_ W Q => Tri.stepV okA (k := 40) (fuel := 70) (l := a5) (ks := wK) gs_lt' (by kernel_rfl) (by unfold Alike; kernel_rfl) (by kernel_rfl) (by kernel_rfl) (by kernel_rfl)
theorem w_2_30 : SW1 2 30 := fun M h w0 at_ W Q => Tri.stepV okA (k := 40) (fuel := 70) (l := a5) (ks := wK) gs_lt' (by kernel_rfl) (by unfold Alike; kernel_rfl) (by kernel_rfl) (by kernel_rfl) (by kernel_rfl)
theorem w_2_31 : SW1 2 31 := fun M h w0 at_ W Q => Tri.stepV okA (k := 40) (fuel := 70) (l := a5) (ks := wK) gs_lt' (by kernel_rfl) (by unfold Alike; kernel_rfl) (by kernel_rfl) (by kernel_rfl) (by kernel_rfl)
theorem w_2_32 : SW1 2 32 := fun M h w0 at_ W Q => Tri.stepV okA (k := 40) (fuel := 70) (l := a5) (ks := wK) gs_lt' (by kernel_rfl) (by unfold Alike; kernel_rfl) (by kernel_rfl) (by kernel_rfl) (by kernel_rfl)
theorem w_2_33 : SW1 2 33 := fun M h w0 at_ W Q => Tri.stepV okA (k := 40) (fuel := 70) (l := a5) (ks := wK) gs_lt' (by kernel_rfl) (by unfold Alike; kernel_rfl) (by kernel_rfl) (by kernel_rfl) (by kernel_rfl)
theorem w_2_34 : SW1 2 34 := fun M h w0 at_ W Q => Tri.stepV okA (k := 40) (fuel := 70) (l := a5) (ks := wK) gs_lt' (by kernel_rfl) (by unfold Alike; kernel_rfl) (by kernel_rfl) (by kernel_rfl) (by kernel_rfl)
theorem w_2_35 : SW1 2 35 := fun M h w0 at_ W Q => Tri.stepV okA (k := 40) (fuel := 70) (l := a5) (ks := wK) gs_lt' (by kernel_rfl) (by unfold Alike; kernel_rfl) (by kernel_rfl) (by kernel_rfl) (by kernel_rfl)
theorem w_2_36 : SW1 2 36 := fun M h w0 at_ W Q => Tri.stepV okA (k := 40) (fuel := 70) (l := a5) (ks := wK) gs_lt' (by kernel_rfl) (by unfold Alike; kernel_rfl) (by kernel_rfl) (by kernel_rfl) (by kernel_rfl)
theorem w_2_37 : SW1 2 37 := fun M h w0 at_ W Q => Tri.stepV okA (k := 40) (fuel := 70) (l := a5) (ks := wK) gs_lt' (by kernel_rfl) (by unfold Alike; kernel_rfl) (by kernel_rfl) (by kernel_rfl) (by kernel_rfl)
theorem w_2_38 : SW1 2 38 := fun M h w0 at_ W Q => Tri.stepV okA (k := 40) (fuel := 70) (l := a5) (ks := wK) gs_lt' (by kernel_rfl) (by unfold Alike; kernel_rfl) (by kernel_rfl) (by kernel_rfl) (by kernel_rfl)
theorem w_2_39 : SW1 2 39 := fun M h w0 at_ W Q => Tri.stepV okA (k := 40) (fuel := 70) (l := a5) (ks := wK) gs_lt' (by kernel_rfl) (by unfold Alike; kernel_rfl) (by kernel_rfl) (by kernel_rfl) (by kernel_rfl)
theorem w_2_40 : SW1 2 40 := fun M h w0 at_ W Q => Tri.stepV okA (k := 40) (fuel := 70) (l := a5) (ks := wK) gs_lt' (by kernel_rfl) (by unfold Alike; kernel_rfl) (by kernel_rfl) (by kernel_rfl) (by kernel_rfl)
theorem w_2_41 : SW1 2 41 := fun M h w0 at_ W Q => Tri.stepV okA (k := 40) (fuel := 70) (l := a5) (ks := wK) gs_lt' (by kernel_rfl) (by unfold Alike; kernel_rfl) (by kernel_rfl) (by kernel_rfl) (by kernel_rfl)
theorem w_2_42 : SW1 2 42 := fun M h w0 at_ W Q => Tri.stepV okA (k := 40) (fuel := 70) (l := a5) (ks := wK) gs_lt' (by kernel_rfl) (by unfold Alike; kernel_rfl) (by kernel_rfl) (by kernel_rfl) (by kernel_rfl)
theorem w_2_43 : SW1 2 43 := fun M h w0 at_ W Q => Tri.stepV okA (k := 40) (fuel := 70) (l := a5) (ks := wK) gs_lt' (by kernel_rfl) (by unfold Alike; kernel_rfl) (by kernel_rfl) (by kernel_rfl) (by kernel_rfl)
theorem w_2_44 : SW1 2 44 := fun M h w0 at_ W Q => Tri.stepV okA (k := 40) (fuel := 70) (l := a5) (ks := wK) gs_lt' (by kernel_rfl) (by unfold Alike; kernel_rfl) (by kernel_rfl) (by kernel_rfl) (by kernel_rfl)
theorem w_2_45 : SW1 2 45 := fun M h w0 at_ W Q => Tri.stepV okA (k := 40) (fuel := 70) (l := a5) (ks := wK) gs_lt' (by kernel_rfl) (by unfold Alike; kernel_rfl) (by kernel_rfl) (by kernel_rfl) (by kernel_rfl)
theorem w_2_46 : SW1 2 46 := fun M h w0 at_ W Q => Tri.stepV okA (k := 40) (fuel := 70) (l := a5) (ks := wK) gs_lt' (by kernel_rfl) (by unfold Alike; kernel_rfl) (by kernel_rfl) (by kernel_rfl) (by kernel_rfl)
theorem w_2_47 : SW1 2 47 := fun M h w0 at_ W Q => Tri.stepV okA (k := 40) (fuel := 70) (l := a5) (ks := wK) gs_lt' (by kernel_rfl) (by unfold Alike; kernel_rfl) (by kernel_rfl) (by kernel_rfl) (by kernel_rfl)
theorem w_2_48 : SW1 2 48 := fun M h w0 at_ W Q => Tri.stepV okA (k := 40) (fuel := 70) (l := a5) (ks := wK) gs_lt' (by kernel_rfl) (by unfold Alike; kernel_rfl) (by kernel_rfl) (by kernel_rfl) (by kernel_rfl)
theorem w_2_49 : SW1 2 49 := fun M h w0 at_ W Q => Tri.stepV okA (k := 40) (fuel := 70) (l := a5) (ks := wK) gs_lt' (by kernel_rfl) (by unfold Alike; kernel_rfl) (by kernel_rfl) (by kernel_rfl) (by kernel_rfl)
theorem w_2_50 : SW1 2 50 := fun M h w0 at_ W Q => Tri.stepV okA (k := 40) (fuel := 70) (l := a5) (ks := wK) gs_lt' (by kernel_rfl) (by unfold Alike; kernel_rfl) (by kernel_rfl) (by kernel_rfl) (by kernel_rfl)
theorem w_2_51 : SW1 2 51 := fun M h w0 at_ W Q => Tri.stepV okA (k := 40) (fuel := 70) (l := a5) (ks := wK) gs_lt' (by kernel_rfl) (by unfold Alike; kernel_rfl) (by kernel_rfl) (by kernel_rfl) (by kernel_rfl)
theorem w_2_52 : SW1 2 52 := fun M h w0 at_ W Q => Tri.stepV okA (k := 40) (fuel := 70) (l := a5) (ks := wK) gs_lt' (by kernel_rfl) (by unfold Alike; kernel_rfl) (by kernel_rfl) (by kernel_rfl) (by kernel_rfl)
theorem w_2_53 : SW1 2 53 := fun M h w0 at_ W Q => Tri.stepV okA (k := 40) (fuel := 70) (l := a5) (ks := wK) gs_lt' (by kernel_rfl) (by unfold Alike; kernel_rfl) (by kernel_rfl) (by kernel_rfl) (by kernel_rfl)
theorem w_2_54 : SW1 2 54 := fun M h w0 at_ W Q => Tri.stepV okA (k := 40) (fuel := 70) (l := a5) (ks := wK) gs_lt' (by kernel_rfl) (by unfold Alike; kernel_rfl) (by kernel_rfl) (by kernel_rfl) (by kernel_rfl)
theorem w_2_55 : SW1 2 55 := fun M h w0 at_ W Q => Tri.stepV okA (k := 40) (fuel := 70) (l := a5) (ks := wK) gs_lt' (by kernel_rfl) (by unfold Alike; kernel_rfl) (by kernel_rfl) (by kernel_rfl) (by kernel_rfl)
theorem w_2_56 : SW1 2 56 := fun M h w0 at_ W Q => Tri.stepV okA (k := 40) (fuel := 70) (l := a5) (ks := wK) gs_lt' (by kernel_rfl) (by unfold Alike; kernel_rfl) (by kernel_rfl) (by kernel_rfl) (by kernel_rfl)
theorem w_2_57 : SW1 2 57 := fun M h w0 at_ W Q => Tri.stepV okA (k := 40) (fuel := 70) (l := a5) (ks := wK) gs_lt' (by kernel_rfl) (by unfold Alike; kernel_rfl) (by kernel_rfl) (by kernel_rfl) (by kernel_rfl)
theorem w_2_58 : SW1 2 58 := fun M h w0 at_ W Q => Tri.stepV okA (k := 40) (fuel := 70) (l := a5) (ks := wK) gs_lt' (by kernel_rfl) (by unfold Alike; kernel_rfl) (by kernel_rfl) (by kernel_rfl) (by kernel_rfl)
theorem w_2_59 : SW1 2 59 := fun M h w0 at_ W Q => Tri.stepV okA (k := 40) (fuel := 70) (l := a5) (ks := wK) gs_lt' (by kernel_rfl) (by unfold Alike; kernel_rfl) (by kernel_rfl) (by kernel_rfl) (by kernel_rfl)
theorem w_2_60 : SW1 2 60 := fun M h w0 at_ W Q => Tri.stepV okA (k := 40) (fuel := 70) (l := a5) (ks := wK) gs_lt' (by kernel_rfl) (by unfold Alike; kernel_rfl) (by kernel_rfl) (by kernel_rfl) (by kernel_rfl)
theorem w_2_61 : SW1 2 61 := fun M h w0 at_ W Q => Tri.stepV okA (k := 40) (fuel := 70) (l := a5) (ks := wK) gs_lt' (by kernel_rfl) (by unfold Alike; kernel_rfl) (by kernel_rfl) (by kernel_rfl) (by kernel_rfl)
theorem w_2_62 : SW1 2 62 := fun M h w0 at_ W Q => Tri.stepV okA (k := 40) (fuel := 70) (l := a5) (ks := wK) gs_lt' (by kernel_rfl) (by unfold Alike; kernel_rfl) (by kernel_rfl) (by kernel_rfl) (by kernel_rfl)
theorem w_2_63 : SW1 2 63 := fun M h w0 at_ W Q => Tri.stepV okA (k := 40) (fuel := 70) (l := a5) (ks := wK) gs_lt' (by kernel_rfl) (by unfold Alike; kernel_rfl) (by kernel_rfl) (by kernel_rfl) (by kernel_rfl)
theorem wv_2_0 (M : Nat → Nat) (h : H8) (w0 : World) (W : Nat → Nat) (Q : Exit → Act → World → Prop) (hW : ∀ t, 16 ≤ t → rpV t W = wnext (W (t - 2)) (W (t - 7)) (W (t - 15)) (W (t - 16))) : ∀ t, t < 64 → Tri Tryd.prog E 282 wB (At gs 282 w0 (wF 2 (.ofNat 0) t) ⟨wH 2 M h W, p66⟩) (Exit.then (At gs 282 w0 (wF 2 (.ofNat 0) (t + 1)) ⟨wH 2 M h (upN W t (Bool.rec (motive := fun _ => Nat) (wnext (W (t - 2)) (W (t - 7)) (W (t - 15)) (W (t - 16))) (be (blkB M 0) t) (Nat.blt t 16))), p66⟩) Q)
  | 0, _ => w_2_0_0 M h w0 W Q
  | 1, _ => w_2_0_1 M h w0 W Q
  | 2, _ => w_2_0_2 M h w0 W Q
  | 3, _ => w_2_0_3 M h w0 W Q
  | 4, _ => w_2_0_4 M h w0 W Q
  | 5, _ => w_2_0_5 M h w0 W Q
  | 6, _ => w_2_0_6 M h w0 W Q
  | 7, _ => w_2_0_7 M h w0 W Q
  | 8, _ => w_2_0_8 M h w0 W Q
  | 9, _ => w_2_0_9 M h w0 W Q
  | 10, _ => w_2_0_10 M h w0 W Q
  | 11, _ => w_2_0_11 M h w0 W Q
  | 12, _ => w_2_0_12 M h w0 W Q
  | 13, _ => w_2_0_13 M h w0 W Q
  | 14, _ => w_2_0_14 M h w0 W Q
  | 15, _ => w_2_0_15 M h w0 W Q
  | 16, _ => by have := w_2_16 M h w0 (.ofNat 0) W Q; rw [hW 16 (by omega)] at this; exact this
  | 17, _ => by have := w_2_17 M h w0 (.ofNat 0) W Q; rw [hW 17 (by omega)] at this; exact this
  | 18, _ => by have := w_2_18 M h w0 (.ofNat 0) W Q; rw [hW 18 (by omega)] at this; exact this
  | 19, _ => by have := w_2_19 M h w0 (.ofNat 0) W Q; rw [hW 19 (by omega)] at this; exact this
  | 20, _ => by have := w_2_20 M h w0 (.ofNat 0) W Q; rw [hW 20 (by omega)] at this; exact this
  | 21, _ => by have := w_2_21 M h w0 (.ofNat 0) W Q; rw [hW 21 (by omega)] at this; exact this
  | 22, _ => by have := w_2_22 M h w0 (.ofNat 0) W Q; rw [hW 22 (by omega)] at this; exact this
  | 23, _ => by have := w_2_23 M h w0 (.ofNat 0) W Q; rw [hW 23 (by omega)] at this; exact this
  | 24, _ => by have := w_2_24 M h w0 (.ofNat 0) W Q; rw [hW 24 (by omega)] at this; exact this
  | 25, _ => by have := w_2_25 M h w0 (.ofNat 0) W Q; rw [hW 25 (by omega)] at this; exact this
  | 26, _ => by have := w_2_26 M h w0 (.ofNat 0) W Q; rw [hW 26 (by omega)] at this; exact this
  | 27, _ => by have := w_2_27 M h w0 (.ofNat 0) W Q; rw [hW 27 (by omega)] at this; exact this
  | 28, _ => by have := w_2_28 M h w0 (.ofNat 0) W Q; rw [hW 28 (by omega)] at this; exact this
  | 29, _ => by have := w_2_29 M h w0 (.ofNat 0) W Q; rw [hW 29 (by omega)] at this; exact this
  | 30, _ => by have := w_2_30 M h w0 (.ofNat 0) W Q; rw [hW 30 (by omega)] at this; exact this
  | 31, _ => by have := w_2_31 M h w0 (.ofNat 0) W Q; rw [hW 31 (by omega)] at this; exact this
  | 32, _ => by have := w_2_32 M h w0 (.ofNat 0) W Q; rw [hW 32 (by omega)] at this; exact this
  | 33, _ => by have := w_2_33 M h w0 (.ofNat 0) W Q; rw [hW 33 (by omega)] at this; exact this
  | 34, _ => by have := w_2_34 M h w0 (.ofNat 0) W Q; rw [hW 34 (by omega)] at this; exact this
  | 35, _ => by have := w_2_35 M h w0 (.ofNat 0) W Q; rw [hW 35 (by omega)] at this; exact this
  | 36, _ => by have := w_2_36 M h w0 (.ofNat 0) W Q; rw [hW 36 (by omega)] at this; exact this
  | 37, _ => by have := w_2_37 M h w0 (.ofNat 0) W Q; rw [hW 37 (by omega)] at this; exact this
  | 38, _ => by have := w_2_38 M h w0 (.ofNat 0) W Q; rw [hW 38 (by omega)] at this; exact this
  | 39, _ => by have := w_2_39 M h w0 (.ofNat 0) W Q; rw [hW 39 (by omega)] at this; exact this
  | 40, _ => by have := w_2_40 M h w0 (.ofNat 0) W Q; rw [hW 40 (by omega)] at this; exact this
  | 41, _ => by have := w_2_41 M h w0 (.ofNat 0) W Q; rw [hW 41 (by omega)] at this; exact this
  | 42, _ => by have := w_2_42 M h w0 (.ofNat 0) W Q; rw [hW 42 (by omega)] at this; exact this
  | 43, _ => by have := w_2_43 M h w0 (.ofNat 0) W Q; rw [hW 43 (by omega)] at this; exact this
  | 44, _ => by have := w_2_44 M h w0 (.ofNat 0) W Q; rw [hW 44 (by omega)] at this; exact this
  | 45, _ => by have := w_2_45 M h w0 (.ofNat 0) W Q; rw [hW 45 (by omega)] at this; exact this
  | 46, _ => by have := w_2_46 M h w0 (.ofNat 0) W Q; rw [hW 46 (by omega)] at this; exact this
  | 47, _ => by have := w_2_47 M h w0 (.ofNat 0) W Q; rw [hW 47 (by omega)] at this; exact this
  | 48, _ => by have := w_2_48 M h w0 (.ofNat 0) W Q; rw [hW 48 (by omega)] at this; exact this
  | 49, _ => by have := w_2_49 M h w0 (.ofNat 0) W Q; rw [hW 49 (by omega)] at this; exact this
  | 50, _ => by have := w_2_50 M h w0 (.ofNat 0) W Q; rw [hW 50 (by omega)] at this; exact this
  | 51, _ => by have := w_2_51 M h w0 (.ofNat 0) W Q; rw [hW 51 (by omega)] at this; exact this
  | 52, _ => by have := w_2_52 M h w0 (.ofNat 0) W Q; rw [hW 52 (by omega)] at this; exact this
  | 53, _ => by have := w_2_53 M h w0 (.ofNat 0) W Q; rw [hW 53 (by omega)] at this; exact this
  | 54, _ => by have := w_2_54 M h w0 (.ofNat 0) W Q; rw [hW 54 (by omega)] at this; exact this
  | 55, _ => by have := w_2_55 M h w0 (.ofNat 0) W Q; rw [hW 55 (by omega)] at this; exact this
  | 56, _ => by have := w_2_56 M h w0 (.ofNat 0) W Q; rw [hW 56 (by omega)] at this; exact this
  | 57, _ => by have := w_2_57 M h w0 (.ofNat 0) W Q; rw [hW 57 (by omega)] at this; exact this
  | 58, _ => by have := w_2_58 M h w0 (.ofNat 0) W Q; rw [hW 58 (by omega)] at this; exact this
  | 59, _ => by have := w_2_59 M h w0 (.ofNat 0) W Q; rw [hW 59 (by omega)] at this; exact this
  | 60, _ => by have := w_2_60 M h w0 (.ofNat 0) W Q; rw [hW 60 (by omega)] at this; exact this
  | 61, _ => by have := w_2_61 M h w0 (.ofNat 0) W Q; rw [hW 61 (by omega)] at this; exact this
  | 62, _ => by have := w_2_62 M h w0 (.ofNat 0) W Q; rw [hW 62 (by omega)] at this; exact this
  | 63, _ => by have := w_2_63 M h w0 (.ofNat 0) W Q; rw [hW 63 (by omega)] at this; exact this
  | t + 64, h => by omega
theorem wl_2_0 (M : Nat → Nat) (h : H8) (w0 : World) (Q : Exit → Act → World → Prop) : Tri Tryd.prog E 282 (.blk 6 (.loop wB)) (At gs 282 w0 (wF 2 (.ofNat 0) 0) ⟨wH 2 M h (wAt (blkB M 0) 0), p66⟩) (Exit.then (At gs 282 w0 (wF 2 (.ofNat 0) 64) ⟨wH 2 M h (wAt (blkB M 0) 64), p66⟩) Q) :=
  Tri.blk (Tri.loop (I := fun t => At gs 282 w0 (wF 2 (.ofNat 0) t) ⟨wH 2 M h (wAt (blkB M 0) t), p66⟩) 64
    (fun t ht => by
      have h1 := wv_2_0 M h w0 (wAt (blkB M 0) t) (Exit.inBlock 6 (Exit.then (At gs 282 w0 (wF 2 (.ofNat 0) 64) ⟨wH 2 M h (wAt (blkB M 0) 64), p66⟩) Q)) (fun t _ => rnext_eq _ _ _ _) t ht
      rw [wAt_succ (blkB M 0) t rfl] at h1
      exact h1)
    (Tri.lastV okA (k := 40) (fuel := 70) (l := a5) (ks := wK) gs_lt' (by kernel_rfl) (by unfold Alike; kernel_rfl) (by kernel_rfl) (by kernel_rfl) (by kernel_rfl) (fun _ _ h => h)))
theorem wv_2_1 (M : Nat → Nat) (h : H8) (w0 : World) (W : Nat → Nat) (Q : Exit → Act → World → Prop) (hW : ∀ t, 16 ≤ t → rpV t W = wnext (W (t - 2)) (W (t - 7)) (W (t - 15)) (W (t - 16))) : ∀ t, t < 64 → Tri Tryd.prog E 282 wB (At gs 282 w0 (wF 2 (.ofNat 64) t) ⟨wH 2 M h W, p66⟩) (Exit.then (At gs 282 w0 (wF 2 (.ofNat 64) (t + 1)) ⟨wH 2 M h (upN W t (Bool.rec (motive := fun _ => Nat) (wnext (W (t - 2)) (W (t - 7)) (W (t - 15)) (W (t - 16))) (be (blkB M 1) t) (Nat.blt t 16))), p66⟩) Q)
  | 0, _ => w_2_1_0 M h w0 W Q
  | 1, _ => w_2_1_1 M h w0 W Q
  | 2, _ => w_2_1_2 M h w0 W Q
  | 3, _ => w_2_1_3 M h w0 W Q
  | 4, _ => w_2_1_4 M h w0 W Q
  | 5, _ => w_2_1_5 M h w0 W Q
  | 6, _ => w_2_1_6 M h w0 W Q
  | 7, _ => w_2_1_7 M h w0 W Q
  | 8, _ => w_2_1_8 M h w0 W Q
  | 9, _ => w_2_1_9 M h w0 W Q
  | 10, _ => w_2_1_10 M h w0 W Q
  | 11, _ => w_2_1_11 M h w0 W Q
  | 12, _ => w_2_1_12 M h w0 W Q
  | 13, _ => w_2_1_13 M h w0 W Q
  | 14, _ => w_2_1_14 M h w0 W Q
  | 15, _ => w_2_1_15 M h w0 W Q
  | 16, _ => by have := w_2_16 M h w0 (.ofNat 64) W Q; rw [hW 16 (by omega)] at this; exact this
  | 17, _ => by have := w_2_17 M h w0 (.ofNat 64) W Q; rw [hW 17 (by omega)] at this; exact this
  | 18, _ => by have := w_2_18 M h w0 (.ofNat 64) W Q; rw [hW 18 (by omega)] at this; exact this
  | 19, _ => by have := w_2_19 M h w0 (.ofNat 64) W Q; rw [hW 19 (by omega)] at this; exact this
  | 20, _ => by have := w_2_20 M h w0 (.ofNat 64) W Q; rw [hW 20 (by omega)] at this; exact this
  | 21, _ => by have := w_2_21 M h w0 (.ofNat 64) W Q; rw [hW 21 (by omega)] at this; exact this
  | 22, _ => by have := w_2_22 M h w0 (.ofNat 64) W Q; rw [hW 22 (by omega)] at this; exact this
  | 23, _ => by have := w_2_23 M h w0 (.ofNat 64) W Q; rw [hW 23 (by omega)] at this; exact this
  | 24, _ => by have := w_2_24 M h w0 (.ofNat 64) W Q; rw [hW 24 (by omega)] at this; exact this
  | 25, _ => by have := w_2_25 M h w0 (.ofNat 64) W Q; rw [hW 25 (by omega)] at this; exact this
  | 26, _ => by have := w_2_26 M h w0 (.ofNat 64) W Q; rw [hW 26 (by omega)] at this; exact this
  | 27, _ => by have := w_2_27 M h w0 (.ofNat 64) W Q; rw [hW 27 (by omega)] at this; exact this
  | 28, _ => by have := w_2_28 M h w0 (.ofNat 64) W Q; rw [hW 28 (by omega)] at this; exact this
  | 29, _ => by have := w_2_29 M h w0 (.ofNat 64) W Q; rw [hW 29 (by omega)] at this; exact this
  | 30, _ => by have := w_2_30 M h w0 (.ofNat 64) W Q; rw [hW 30 (by omega)] at this; exact this
  | 31, _ => by have := w_2_31 M h w0 (.ofNat 64) W Q; rw [hW 31 (by omega)] at this; exact this
  | 32, _ => by have := w_2_32 M h w0 (.ofNat 64) W Q; rw [hW 32 (by omega)] at this; exact this
  | 33, _ => by have := w_2_33 M h w0 (.ofNat 64) W Q; rw [hW 33 (by omega)] at this; exact this
  | 34, _ => by have := w_2_34 M h w0 (.ofNat 64) W Q; rw [hW 34 (by omega)] at this; exact this
  | 35, _ => by have := w_2_35 M h w0 (.ofNat 64) W Q; rw [hW 35 (by omega)] at this; exact this
  | 36, _ => by have := w_2_36 M h w0 (.ofNat 64) W Q; rw [hW 36 (by omega)] at this; exact this
  | 37, _ => by have := w_2_37 M h w0 (.ofNat 64) W Q; rw [hW 37 (by omega)] at this; exact this
  | 38, _ => by have := w_2_38 M h w0 (.ofNat 64) W Q; rw [hW 38 (by omega)] at this; exact this
  | 39, _ => by have := w_2_39 M h w0 (.ofNat 64) W Q; rw [hW 39 (by omega)] at this; exact this
  | 40, _ => by have := w_2_40 M h w0 (.ofNat 64) W Q; rw [hW 40 (by omega)] at this; exact this
  | 41, _ => by have := w_2_41 M h w0 (.ofNat 64) W Q; rw [hW 41 (by omega)] at this; exact this
  | 42, _ => by have := w_2_42 M h w0 (.ofNat 64) W Q; rw [hW 42 (by omega)] at this; exact this
  | 43, _ => by have := w_2_43 M h w0 (.ofNat 64) W Q; rw [hW 43 (by omega)] at this; exact this
  | 44, _ => by have := w_2_44 M h w0 (.ofNat 64) W Q; rw [hW 44 (by omega)] at this; exact this
  | 45, _ => by have := w_2_45 M h w0 (.ofNat 64) W Q; rw [hW 45 (by omega)] at this; exact this
  | 46, _ => by have := w_2_46 M h w0 (.ofNat 64) W Q; rw [hW 46 (by omega)] at this; exact this
  | 47, _ => by have := w_2_47 M h w0 (.ofNat 64) W Q; rw [hW 47 (by omega)] at this; exact this
  | 48, _ => by have := w_2_48 M h w0 (.ofNat 64) W Q; rw [hW 48 (by omega)] at this; exact this
  | 49, _ => by have := w_2_49 M h w0 (.ofNat 64) W Q; rw [hW 49 (by omega)] at this; exact this
  | 50, _ => by have := w_2_50 M h w0 (.ofNat 64) W Q; rw [hW 50 (by omega)] at this; exact this
  | 51, _ => by have := w_2_51 M h w0 (.ofNat 64) W Q; rw [hW 51 (by omega)] at this; exact this
  | 52, _ => by have := w_2_52 M h w0 (.ofNat 64) W Q; rw [hW 52 (by omega)] at this; exact this
  | 53, _ => by have := w_2_53 M h w0 (.ofNat 64) W Q; rw [hW 53 (by omega)] at this; exact this
  | 54, _ => by have := w_2_54 M h w0 (.ofNat 64) W Q; rw [hW 54 (by omega)] at this; exact this
  | 55, _ => by have := w_2_55 M h w0 (.ofNat 64) W Q; rw [hW 55 (by omega)] at this; exact this
  | 56, _ => by have := w_2_56 M h w0 (.ofNat 64) W Q; rw [hW 56 (by omega)] at this; exact this
  | 57, _ => by have := w_2_57 M h w0 (.ofNat 64) W Q; rw [hW 57 (by omega)] at this; exact this
  | 58, _ => by have := w_2_58 M h w0 (.ofNat 64) W Q; rw [hW 58 (by omega)] at this; exact this
  | 59, _ => by have := w_2_59 M h w0 (.ofNat 64) W Q; rw [hW 59 (by omega)] at this; exact this
  | 60, _ => by have := w_2_60 M h w0 (.ofNat 64) W Q; rw [hW 60 (by omega)] at this; exact this
  | 61, _ => by have := w_2_61 M h w0 (.ofNat 64) W Q; rw [hW 61 (by omega)] at this; exact this
  | 62, _ => by have := w_2_62 M h w0 (.ofNat 64) W Q; rw [hW 62 (by omega)] at this; exact this
  | 63, _ => by have := w_2_63 M h w0 (.ofNat 64) W Q; rw [hW 63 (by omega)] at this; exact this
  | t + 64, h => by omega
theorem wl_2_1 (M : Nat → Nat) (h : H8) (w0 : World) (Q : Exit → Act → World → Prop) : Tri Tryd.prog E 282 (.blk 6 (.loop wB)) (At gs 282 w0 (wF 2 (.ofNat 64) 0) ⟨wH 2 M h (wAt (blkB M 1) 0), p66⟩) (Exit.then (At gs 282 w0 (wF 2 (.ofNat 64) 64) ⟨wH 2 M h (wAt (blkB M 1) 64), p66⟩) Q) :=
  Tri.blk (Tri.loop (I := fun t => At gs 282 w0 (wF 2 (.ofNat 64) t) ⟨wH 2 M h (wAt (blkB M 1) t), p66⟩) 64
    (fun t ht => by
      have h1 := wv_2_1 M h w0 (wAt (blkB M 1) t) (Exit.inBlock 6 (Exit.then (At gs 282 w0 (wF 2 (.ofNat 64) 64) ⟨wH 2 M h (wAt (blkB M 1) 64), p66⟩) Q)) (fun t _ => rnext_eq _ _ _ _) t ht
      rw [wAt_succ (blkB M 1) t rfl] at h1
      exact h1)
    (Tri.lastV okA (k := 40) (fuel := 70) (l := a5) (ks := wK) gs_lt' (by kernel_rfl) (by unfold Alike; kernel_rfl) (by kernel_rfl) (by kernel_rfl) (by kernel_rfl) (fun _ _ h => h)))
theorem r_2_0 : SR 2 0 := fun M h w0 at_ W x Q => Tri.stepV okA (k := 40) (fuel := 70) (l := (lR 2 0)) (ks := rK) gs_lt' (by kernel_rfl) (by unfold Alike; kernel_rfl) (by kernel_rfl) (by kernel_rfl) (by kernel_rfl)
theorem r_2_1 : SR 2 1 := fun M h w0 at_ W x Q => Tri.stepV okA (k := 40) (fuel := 70) (l := (lR 2 1)) (ks := rK) gs_lt' (by kernel_rfl) (by unfold Alike; kernel_rfl) (by kernel_rfl) (by kernel_rfl) (by kernel_rfl)
theorem r_2_2 : SR 2 2 := fun M h w0 at_ W x Q => Tri.stepV okA (k := 40) (fuel := 70) (l := (lR 2 2)) (ks := rK) gs_lt' (by kernel_rfl) (by unfold Alike; kernel_rfl) (by kernel_rfl) (by kernel_rfl) (by kernel_rfl)
theorem r_2_3 : SR 2 3 := fun M h w0 at_ W x Q => Tri.stepV okA (k := 40) (fuel := 70) (l := (lR 2 3)) (ks := rK) gs_lt' (by kernel_rfl) (by unfold Alike; kernel_rfl) (by kernel_rfl) (by kernel_rfl) (by kernel_rfl)
theorem r_2_4 : SR 2 4 := fun M h w0 at_ W x Q => Tri.stepV okA (k := 40) (fuel := 70) (l := (lR 2 4)) (ks := rK) gs_lt' (by kernel_rfl) (by unfold Alike; kernel_rfl) (by kernel_rfl) (by kernel_rfl) (by kernel_rfl)
theorem r_2_5 : SR 2 5 := fun M h w0 at_ W x Q => Tri.stepV okA (k := 40) (fuel := 70) (l := (lR 2 5)) (ks := rK) gs_lt' (by kernel_rfl) (by unfold Alike; kernel_rfl) (by kernel_rfl) (by kernel_rfl) (by kernel_rfl)
theorem r_2_6 : SR 2 6 := fun M h w0 at_ W x Q => Tri.stepV okA (k := 40) (fuel := 70) (l := (lR 2 6)) (ks := rK) gs_lt' (by kernel_rfl) (by unfold Alike; kernel_rfl) (by kernel_rfl) (by kernel_rfl) (by kernel_rfl)
theorem r_2_7 : SR 2 7 := fun M h w0 at_ W x Q => Tri.stepV okA (k := 40) (fuel := 70) (l := (lR 2 7)) (ks := rK) gs_lt' (by kernel_rfl) (by unfold Alike; kernel_rfl) (by kernel_rfl) (by kernel_rfl) (by kernel_rfl)
theorem r_2_8 : SR 2 8 := fun M h w0 at_ W x Q => Tri.stepV okA (k := 40) (fuel := 70) (l := (lR 2 8)) (ks := rK) gs_lt' (by kernel_rfl) (by unfold Alike; kernel_rfl) (by kernel_rfl) (by kernel_rfl) (by kernel_rfl)
theorem r_2_9 : SR 2 9 := fun M h w0 at_ W x Q => Tri.stepV okA (k := 40) (fuel := 70) (l := (lR 2 9)) (ks := rK) gs_lt' (by kernel_rfl) (by unfold Alike; kernel_rfl) (by kernel_rfl) (by kernel_rfl) (by kernel_rfl)
theorem r_2_10 : SR 2 10 := fun M h w0 at_ W x Q => Tri.stepV okA (k := 40) (fuel := 70) (l := (lR 2 10)) (ks := rK) gs_lt' (by kernel_rfl) (by unfold Alike; kernel_rfl) (by kernel_rfl) (by kernel_rfl) (by kernel_rfl)
theorem r_2_11 : SR 2 11 := fun M h w0 at_ W x Q => Tri.stepV okA (k := 40) (fuel := 70) (l := (lR 2 11)) (ks := rK) gs_lt' (by kernel_rfl) (by unfold Alike; kernel_rfl) (by kernel_rfl) (by kernel_rfl) (by kernel_rfl)
theorem r_2_12 : SR 2 12 := fun M h w0 at_ W x Q => Tri.stepV okA (k := 40) (fuel := 70) (l := (lR 2 12)) (ks := rK) gs_lt' (by kernel_rfl) (by unfold Alike; kernel_rfl) (by kernel_rfl) (by kernel_rfl) (by kernel_rfl)
theorem r_2_13 : SR 2 13 := fun M h w0 at_ W x Q => Tri.stepV okA (k := 40) (fuel := 70) (l := (lR 2 13)) (ks := rK) gs_lt' (by kernel_rfl) (by unfold Alike; kernel_rfl) (by kernel_rfl) (by kernel_rfl) (by kernel_rfl)
theorem r_2_14 : SR 2 14 := fun M h w0 at_ W x Q => Tri.stepV okA (k := 40) (fuel := 70) (l := (lR 2 14)) (ks := rK) gs_lt' (by kernel_rfl) (by unfold Alike; kernel_rfl) (by kernel_rfl) (by kernel_rfl) (by kernel_rfl)
theorem r_2_15 : SR 2 15 := fun M h w0 at_ W x Q => Tri.stepV okA (k := 40) (fuel := 70) (l := (lR 2 15)) (ks := rK) gs_lt' (by kernel_rfl) (by unfold Alike; kernel_rfl) (by kernel_rfl) (by kernel_rfl) (by kernel_rfl)
theorem r_2_16 : SR 2 16 := fun M h w0 at_ W x Q => Tri.stepV okA (k := 40) (fuel := 70) (l := (lR 2 16)) (ks := rK) gs_lt' (by kernel_rfl) (by unfold Alike; kernel_rfl) (by kernel_rfl) (by kernel_rfl) (by kernel_rfl)
theorem r_2_17 : SR 2 17 := fun M h w0 at_ W x Q => Tri.stepV okA (k := 40) (fuel := 70) (l := (lR 2 17)) (ks := rK) gs_lt' (by kernel_rfl) (by unfold Alike; kernel_rfl) (by kernel_rfl) (by kernel_rfl) (by kernel_rfl)
theorem r_2_18 : SR 2 18 := fun M h w0 at_ W x Q => Tri.stepV okA (k := 40) (fuel := 70) (l := (lR 2 18)) (ks := rK) gs_lt' (by kernel_rfl) (by unfold Alike; kernel_rfl) (by kernel_rfl) (by kernel_rfl) (by kernel_rfl)
theorem r_2_19 : SR 2 19 := fun M h w0 at_ W x Q => Tri.stepV okA (k := 40) (fuel := 70) (l := (lR 2 19)) (ks := rK) gs_lt' (by kernel_rfl) (by unfold Alike; kernel_rfl) (by kernel_rfl) (by kernel_rfl) (by kernel_rfl)
theorem r_2_20 : SR 2 20 := fun M h w0 at_ W x Q => Tri.stepV okA (k := 40) (fuel := 70) (l := (lR 2 20)) (ks := rK) gs_lt' (by kernel_rfl) (by unfold Alike; kernel_rfl) (by kernel_rfl) (by kernel_rfl) (by kernel_rfl)
theorem r_2_21 : SR 2 21 := fun M h w0 at_ W x Q => Tri.stepV okA (k := 40) (fuel := 70) (l := (lR 2 21)) (ks := rK) gs_lt' (by kernel_rfl) (by unfold Alike; kernel_rfl) (by kernel_rfl) (by kernel_rfl) (by kernel_rfl)
theorem r_2_22 : SR 2 22 := fun M h w0 at_ W x Q => Tri.stepV okA (k := 40) (fuel := 70) (l := (lR 2 22)) (ks := rK) gs_lt' (by kernel_rfl) (by unfold Alike; kernel_rfl) (by kernel_rfl) (by kernel_rfl) (by kernel_rfl)
theorem r_2_23 : SR 2 23 := fun M h w0 at_ W x Q => Tri.stepV okA (k := 40) (fuel := 70) (l := (lR 2 23)) (ks := rK) gs_lt' (by kernel_rfl) (by unfold Alike; kernel_rfl) (by kernel_rfl) (by kernel_rfl) (by kernel_rfl)
theorem r_2_24 : SR 2 24 := fun M h w0 at_ W x Q => Tri.stepV okA (k := 40) (fuel := 70) (l := (lR 2 24)) (ks := rK) gs_lt' (by kernel_rfl) (by unfold Alike; kernel_rfl) (by kernel_rfl) (by kernel_rfl) (by kernel_rfl)
theorem r_2_25 : SR 2 25 := fun M h w0 at_ W x Q => Tri.stepV okA (k := 40) (fuel := 70) (l := (lR 2 25)) (ks := rK) gs_lt' (by kernel_rfl) (by unfold Alike; kernel_rfl) (by kernel_rfl) (by kernel_rfl) (by kernel_rfl)
theorem r_2_26 : SR 2 26 := fun M h w0 at_ W x Q => Tri.stepV okA (k := 40) (fuel := 70) (l := (lR 2 26)) (ks := rK) gs_lt' (by kernel_rfl) (by unfold Alike; kernel_rfl) (by kernel_rfl) (by kernel_rfl) (by kernel_rfl)
theorem r_2_27 : SR 2 27 := fun M h w0 at_ W x Q => Tri.stepV okA (k := 40) (fuel := 70) (l := (lR 2 27)) (ks := rK) gs_lt' (by kernel_rfl) (by unfold Alike; kernel_rfl) (by kernel_rfl) (by kernel_rfl) (by kernel_rfl)
theorem r_2_28 : SR 2 28 := fun M h w0 at_ W x Q => Tri.stepV okA (k := 40) (fuel := 70) (l := (lR 2 28)) (ks := rK) gs_lt' (by kernel_rfl) (by unfold Alike; kernel_rfl) (by kernel_rfl) (by kernel_rfl) (by kernel_rfl)
theorem r_2_29 : SR 2 29 := fun M h w0 at_ W x Q => Tri.stepV okA (k := 40) (fuel := 70) (l := (lR 2 29)) (ks := rK) gs_lt' (by kernel_rfl) (by unfold Alike; kernel_rfl) (by kernel_rfl) (by kernel_rfl) (by kernel_rfl)
theorem r_2_30 : SR 2 30 := fun M h w0 at_ W x Q => Tri.stepV okA (k := 40) (fuel := 70) (l := (lR 2 30)) (ks := rK) gs_lt' (by kernel_rfl) (by unfold Alike; kernel_rfl) (by kernel_rfl) (by kernel_rfl) (by kernel_rfl)
theorem r_2_31 : SR 2 31 := fun M h w0 at_ W x Q => Tri.stepV okA (k := 40) (fuel := 70) (l := (lR 2 31)) (ks := rK) gs_lt' (by kernel_rfl) (by unfold Alike; kernel_rfl) (by kernel_rfl) (by kernel_rfl) (by kernel_rfl)
theorem r_2_32 : SR 2 32 := fun M h w0 at_ W x Q => Tri.stepV okA (k := 40) (fuel := 70) (l := (lR 2 32)) (ks := rK) gs_lt' (by kernel_rfl) (by unfold Alike; kernel_rfl) (by kernel_rfl) (by kernel_rfl) (by kernel_rfl)
theorem r_2_33 : SR 2 33 := fun M h w0 at_ W x Q => Tri.stepV okA (k := 40) (fuel := 70) (l := (lR 2 33)) (ks := rK) gs_lt' (by kernel_rfl) (by unfold Alike; kernel_rfl) (by kernel_rfl) (by kernel_rfl) (by kernel_rfl)
theorem r_2_34 : SR 2 34 := fun M h w0 at_ W x Q => Tri.stepV okA (k := 40) (fuel := 70) (l := (lR 2 34)) (ks := rK) gs_lt' (by kernel_rfl) (by unfold Alike; kernel_rfl) (by kernel_rfl) (by kernel_rfl) (by kernel_rfl)
theorem r_2_35 : SR 2 35 := fun M h w0 at_ W x Q => Tri.stepV okA (k := 40) (fuel := 70) (l := (lR 2 35)) (ks := rK) gs_lt' (by kernel_rfl) (by unfold Alike; kernel_rfl) (by kernel_rfl) (by kernel_rfl) (by kernel_rfl)
theorem r_2_36 : SR 2 36 := fun M h w0 at_ W x Q => Tri.stepV okA (k := 40) (fuel := 70) (l := (lR 2 36)) (ks := rK) gs_lt' (by kernel_rfl) (by unfold Alike; kernel_rfl) (by kernel_rfl) (by kernel_rfl) (by kernel_rfl)
theorem r_2_37 : SR 2 37 := fun M h w0 at_ W x Q => Tri.stepV okA (k := 40) (fuel := 70) (l := (lR 2 37)) (ks := rK) gs_lt' (by kernel_rfl) (by unfold Alike; kernel_rfl) (by kernel_rfl) (by kernel_rfl) (by kernel_rfl)
theorem r_2_38 : SR 2 38 := fun M h w0 at_ W x Q => Tri.stepV okA (k := 40) (fuel := 70) (l := (lR 2 38)) (ks := rK) gs_lt' (by kernel_rfl) (by unfold Alike; kernel_rfl) (by kernel_rfl) (by kernel_rfl) (by kernel_rfl)
theorem r_2_39 : SR 2 39 := fun M h w0 at_ W x Q => Tri.stepV okA (k := 40) (fuel := 70) (l := (lR 2 39)) (ks := rK) gs_lt' (by kernel_rfl) (by unfold Alike; kernel_rfl) (by kernel_rfl) (by kernel_rfl) (by kernel_rfl)
theorem r_2_40 : SR 2 40 := fun M h w0 at_ W x Q => Tri.stepV okA (k := 40) (fuel := 70) (l := (lR 2 40)) (ks := rK) gs_lt' (by kernel_rfl) (by unfold Alike; kernel_rfl) (by kernel_rfl) (by kernel_rfl) (by kernel_rfl)
theorem r_2_41 : SR 2 41 := fun M h w0 at_ W x Q => Tri.stepV okA (k := 40) (fuel := 70) (l := (lR 2 41)) (ks := rK) gs_lt' (by kernel_rfl) (by unfold Alike; kernel_rfl) (by kernel_rfl) (by kernel_rfl) (by kernel_rfl)
theorem r_2_42 : SR 2 42 := fun M h w0 at_ W x Q => Tri.stepV okA (k := 40) (fuel := 70) (l := (lR 2 42)) (ks := rK) gs_lt' (by kernel_rfl) (by unfold Alike; kernel_rfl) (by kernel_rfl) (by kernel_rfl) (by kernel_rfl)
theorem r_2_43 : SR 2 43 := fun M h w0 at_ W x Q => Tri.stepV okA (k := 40) (fuel := 70) (l := (lR 2 43)) (ks := rK) gs_lt' (by kernel_rfl) (by unfold Alike; kernel_rfl) (by kernel_rfl) (by kernel_rfl) (by kernel_rfl)
theorem r_2_44 : SR 2 44 := fun M h w0 at_ W x Q => Tri.stepV okA (k := 40) (fuel := 70) (l := (lR 2 44)) (ks := rK) gs_lt' (by kernel_rfl) (by unfold Alike; kernel_rfl) (by kernel_rfl) (by kernel_rfl) (by kernel_rfl)
theorem r_2_45 : SR 2 45 := fun M h w0 at_ W x Q => Tri.stepV okA (k := 40) (fuel := 70) (l := (lR 2 45)) (ks := rK) gs_lt' (by kernel_rfl) (by unfold Alike; kernel_rfl) (by kernel_rfl) (by kernel_rfl) (by kernel_rfl)
theorem r_2_46 : SR 2 46 := fun M h w0 at_ W x Q => Tri.stepV okA (k := 40) (fuel := 70) (l := (lR 2 46)) (ks := rK) gs_lt' (by kernel_rfl) (by unfold Alike; kernel_rfl) (by kernel_rfl) (by kernel_rfl) (by kernel_rfl)
theorem r_2_47 : SR 2 47 := fun M h w0 at_ W x Q => Tri.stepV okA (k := 40) (fuel := 70) (l := (lR 2 47)) (ks := rK) gs_lt' (by kernel_rfl) (by unfold Alike; kernel_rfl) (by kernel_rfl) (by kernel_rfl) (by kernel_rfl)
theorem r_2_48 : SR 2 48 := fun M h w0 at_ W x Q => Tri.stepV okA (k := 40) (fuel := 70) (l := (lR 2 48)) (ks := rK) gs_lt' (by kernel_rfl) (by unfold Alike; kernel_rfl) (by kernel_rfl) (by kernel_rfl) (by kernel_rfl)
theorem r_2_49 : SR 2 49 := fun M h w0 at_ W x Q => Tri.stepV okA (k := 40) (fuel := 70) (l := (lR 2 49)) (ks := rK) gs_lt' (by kernel_rfl) (by unfold Alike; kernel_rfl) (by kernel_rfl) (by kernel_rfl) (by kernel_rfl)
theorem r_2_50 : SR 2 50 := fun M h w0 at_ W x Q => Tri.stepV okA (k := 40) (fuel := 70) (l := (lR 2 50)) (ks := rK) gs_lt' (by kernel_rfl) (by unfold Alike; kernel_rfl) (by kernel_rfl) (by kernel_rfl) (by kernel_rfl)
theorem r_2_51 : SR 2 51 := fun M h w0 at_ W x Q => Tri.stepV okA (k := 40) (fuel := 70) (l := (lR 2 51)) (ks := rK) gs_lt' (by kernel_rfl) (by unfold Alike; kernel_rfl) (by kernel_rfl) (by kernel_rfl) (by kernel_rfl)
theorem r_2_52 : SR 2 52 := fun M h w0 at_ W x Q => Tri.stepV okA (k := 40) (fuel := 70) (l := (lR 2 52)) (ks := rK) gs_lt' (by kernel_rfl) (by unfold Alike; kernel_rfl) (by kernel_rfl) (by kernel_rfl) (by kernel_rfl)
theorem r_2_53 : SR 2 53 := fun M h w0 at_ W x Q => Tri.stepV okA (k := 40) (fuel := 70) (l := (lR 2 53)) (ks := rK) gs_lt' (by kernel_rfl) (by unfold Alike; kernel_rfl) (by kernel_rfl) (by kernel_rfl) (by kernel_rfl)
theorem r_2_54 : SR 2 54 := fun M h w0 at_ W x Q => Tri.stepV okA (k := 40) (fuel := 70) (l := (lR 2 54)) (ks := rK) gs_lt' (by kernel_rfl) (by unfold Alike; kernel_rfl) (by kernel_rfl) (by kernel_rfl) (by kernel_rfl)
theorem r_2_55 : SR 2 55 := fun M h w0 at_ W x Q => Tri.stepV okA (k := 40) (fuel := 70) (l := (lR 2 55)) (ks := rK) gs_lt' (by kernel_rfl) (by unfold Alike; kernel_rfl) (by kernel_rfl) (by kernel_rfl) (by kernel_rfl)
theorem r_2_56 : SR 2 56 := fun M h w0 at_ W x Q => Tri.stepV okA (k := 40) (fuel := 70) (l := (lR 2 56)) (ks := rK) gs_lt' (by kernel_rfl) (by unfold Alike; kernel_rfl) (by kernel_rfl) (by kernel_rfl) (by kernel_rfl)
theorem r_2_57 : SR 2 57 := fun M h w0 at_ W x Q => Tri.stepV okA (k := 40) (fuel := 70) (l := (lR 2 57)) (ks := rK) gs_lt' (by kernel_rfl) (by unfold Alike; kernel_rfl) (by kernel_rfl) (by kernel_rfl) (by kernel_rfl)
theorem r_2_58 : SR 2 58 := fun M h w0 at_ W x Q => Tri.stepV okA (k := 40) (fuel := 70) (l := (lR 2 58)) (ks := rK) gs_lt' (by kernel_rfl) (by unfold Alike; kernel_rfl) (by kernel_rfl) (by kernel_rfl) (by kernel_rfl)
theorem r_2_59 : SR 2 59 := fun M h w0 at_ W x Q => Tri.stepV okA (k := 40) (fuel := 70) (l := (lR 2 59)) (ks := rK) gs_lt' (by kernel_rfl) (by unfold Alike; kernel_rfl) (by kernel_rfl) (by kernel_rfl) (by kernel_rfl)
theorem r_2_60 : SR 2 60 := fun M h w0 at_ W x Q => Tri.stepV okA (k := 40) (fuel := 70) (l := (lR 2 60)) (ks := rK) gs_lt' (by kernel_rfl) (by unfold Alike; kernel_rfl) (by kernel_rfl) (by kernel_rfl) (by kernel_rfl)
theorem r_2_61 : SR 2 61 := fun M h w0 at_ W x Q => Tri.stepV okA (k := 40) (fuel := 70) (l := (lR 2 61)) (ks := rK) gs_lt' (by kernel_rfl) (by unfold Alike; kernel_rfl) (by kernel_rfl) (by kernel_rfl) (by kernel_rfl)
theorem r_2_62 : SR 2 62 := fun M h w0 at_ W x Q => Tri.stepV okA (k := 40) (fuel := 70) (l := (lR 2 62)) (ks := rK) gs_lt' (by kernel_rfl) (by unfold Alike; kernel_rfl) (by kernel_rfl) (by kernel_rfl) (by kernel_rfl)
theorem r_2_63 : SR 2 63 := fun M h w0 at_ W x Q => Tri.stepV okA (k := 40) (fuel := 70) (l := (lR 2 63)) (ks := rK) gs_lt' (by kernel_rfl) (by unfold Alike; kernel_rfl) (by kernel_rfl) (by kernel_rfl) (by kernel_rfl)
theorem rv_2 (M : Nat → Nat) (h : H8) (w0 : World) (at_ : Int) (W : Nat → Nat) (x : H8) (Q : Exit → Act → World → Prop) : ∀ t, t < 64 → Tri Tryd.prog E 282 rB (At gs 282 w0 (rF 2 at_ t) ⟨rH 2 M h W x, p67⟩) (Exit.then (At gs 282 w0 (rF 2 at_ (t + 1)) ⟨rH 2 M h W (rnd (getN kW t) (W t) x), p67⟩) Q)
  | 0, _ => by have := r_2_0 M h w0 at_ W x Q; rw [rndR_eq] at this; exact this
  | 1, _ => by have := r_2_1 M h w0 at_ W x Q; rw [rndR_eq] at this; exact this
  | 2, _ => by have := r_2_2 M h w0 at_ W x Q; rw [rndR_eq] at this; exact this
  | 3, _ => by have := r_2_3 M h w0 at_ W x Q; rw [rndR_eq] at this; exact this
  | 4, _ => by have := r_2_4 M h w0 at_ W x Q; rw [rndR_eq] at this; exact this
  | 5, _ => by have := r_2_5 M h w0 at_ W x Q; rw [rndR_eq] at this; exact this
  | 6, _ => by have := r_2_6 M h w0 at_ W x Q; rw [rndR_eq] at this; exact this
  | 7, _ => by have := r_2_7 M h w0 at_ W x Q; rw [rndR_eq] at this; exact this
  | 8, _ => by have := r_2_8 M h w0 at_ W x Q; rw [rndR_eq] at this; exact this
  | 9, _ => by have := r_2_9 M h w0 at_ W x Q; rw [rndR_eq] at this; exact this
  | 10, _ => by have := r_2_10 M h w0 at_ W x Q; rw [rndR_eq] at this; exact this
  | 11, _ => by have := r_2_11 M h w0 at_ W x Q; rw [rndR_eq] at this; exact this
  | 12, _ => by have := r_2_12 M h w0 at_ W x Q; rw [rndR_eq] at this; exact this
  | 13, _ => by have := r_2_13 M h w0 at_ W x Q; rw [rndR_eq] at this; exact this
  | 14, _ => by have := r_2_14 M h w0 at_ W x Q; rw [rndR_eq] at this; exact this
  | 15, _ => by have := r_2_15 M h w0 at_ W x Q; rw [rndR_eq] at this; exact this
  | 16, _ => by have := r_2_16 M h w0 at_ W x Q; rw [rndR_eq] at this; exact this
  | 17, _ => by have := r_2_17 M h w0 at_ W x Q; rw [rndR_eq] at this; exact this
  | 18, _ => by have := r_2_18 M h w0 at_ W x Q; rw [rndR_eq] at this; exact this
  | 19, _ => by have := r_2_19 M h w0 at_ W x Q; rw [rndR_eq] at this; exact this
  | 20, _ => by have := r_2_20 M h w0 at_ W x Q; rw [rndR_eq] at this; exact this
  | 21, _ => by have := r_2_21 M h w0 at_ W x Q; rw [rndR_eq] at this; exact this
  | 22, _ => by have := r_2_22 M h w0 at_ W x Q; rw [rndR_eq] at this; exact this
  | 23, _ => by have := r_2_23 M h w0 at_ W x Q; rw [rndR_eq] at this; exact this
  | 24, _ => by have := r_2_24 M h w0 at_ W x Q; rw [rndR_eq] at this; exact this
  | 25, _ => by have := r_2_25 M h w0 at_ W x Q; rw [rndR_eq] at this; exact this
  | 26, _ => by have := r_2_26 M h w0 at_ W x Q; rw [rndR_eq] at this; exact this
  | 27, _ => by have := r_2_27 M h w0 at_ W x Q; rw [rndR_eq] at this; exact this
  | 28, _ => by have := r_2_28 M h w0 at_ W x Q; rw [rndR_eq] at this; exact this
  | 29, _ => by have := r_2_29 M h w0 at_ W x Q; rw [rndR_eq] at this; exact this
  | 30, _ => by have := r_2_30 M h w0 at_ W x Q; rw [rndR_eq] at this; exact this
  | 31, _ => by have := r_2_31 M h w0 at_ W x Q; rw [rndR_eq] at this; exact this
  | 32, _ => by have := r_2_32 M h w0 at_ W x Q; rw [rndR_eq] at this; exact this
  | 33, _ => by have := r_2_33 M h w0 at_ W x Q; rw [rndR_eq] at this; exact this
  | 34, _ => by have := r_2_34 M h w0 at_ W x Q; rw [rndR_eq] at this; exact this
  | 35, _ => by have := r_2_35 M h w0 at_ W x Q; rw [rndR_eq] at this; exact this
  | 36, _ => by have := r_2_36 M h w0 at_ W x Q; rw [rndR_eq] at this; exact this
  | 37, _ => by have := r_2_37 M h w0 at_ W x Q; rw [rndR_eq] at this; exact this
  | 38, _ => by have := r_2_38 M h w0 at_ W x Q; rw [rndR_eq] at this; exact this
  | 39, _ => by have := r_2_39 M h w0 at_ W x Q; rw [rndR_eq] at this; exact this
  | 40, _ => by have := r_2_40 M h w0 at_ W x Q; rw [rndR_eq] at this; exact this
  | 41, _ => by have := r_2_41 M h w0 at_ W x Q; rw [rndR_eq] at this; exact this
  | 42, _ => by have := r_2_42 M h w0 at_ W x Q; rw [rndR_eq] at this; exact this
  | 43, _ => by have := r_2_43 M h w0 at_ W x Q; rw [rndR_eq] at this; exact this
  | 44, _ => by have := r_2_44 M h w0 at_ W x Q; rw [rndR_eq] at this; exact this
  | 45, _ => by have := r_2_45 M h w0 at_ W x Q; rw [rndR_eq] at this; exact this
  | 46, _ => by have := r_2_46 M h w0 at_ W x Q; rw [rndR_eq] at this; exact this
  | 47, _ => by have := r_2_47 M h w0 at_ W x Q; rw [rndR_eq] at this; exact this
  | 48, _ => by have := r_2_48 M h w0 at_ W x Q; rw [rndR_eq] at this; exact this
  | 49, _ => by have := r_2_49 M h w0 at_ W x Q; rw [rndR_eq] at this; exact this
  | 50, _ => by have := r_2_50 M h w0 at_ W x Q; rw [rndR_eq] at this; exact this
  | 51, _ => by have := r_2_51 M h w0 at_ W x Q; rw [rndR_eq] at this; exact this
  | 52, _ => by have := r_2_52 M h w0 at_ W x Q; rw [rndR_eq] at this; exact this
  | 53, _ => by have := r_2_53 M h w0 at_ W x Q; rw [rndR_eq] at this; exact this
  | 54, _ => by have := r_2_54 M h w0 at_ W x Q; rw [rndR_eq] at this; exact this
  | 55, _ => by have := r_2_55 M h w0 at_ W x Q; rw [rndR_eq] at this; exact this
  | 56, _ => by have := r_2_56 M h w0 at_ W x Q; rw [rndR_eq] at this; exact this
  | 57, _ => by have := r_2_57 M h w0 at_ W x Q; rw [rndR_eq] at this; exact this
  | 58, _ => by have := r_2_58 M h w0 at_ W x Q; rw [rndR_eq] at this; exact this
  | 59, _ => by have := r_2_59 M h w0 at_ W x Q; rw [rndR_eq] at this; exact this
  | 60, _ => by have := r_2_60 M h w0 at_ W x Q; rw [rndR_eq] at this; exact this
  | 61, _ => by have := r_2_61 M h w0 at_ W x Q; rw [rndR_eq] at this; exact this
  | 62, _ => by have := r_2_62 M h w0 at_ W x Q; rw [rndR_eq] at this; exact this
  | 63, _ => by have := r_2_63 M h w0 at_ W x Q; rw [rndR_eq] at this; exact this
  | t + 64, h => by omega
theorem rl_2 (M : Nat → Nat) (h : H8) (w0 : World) (at_ : Int) (W : Nat → Nat) (x : H8) (Q : Exit → Act → World → Prop) : Tri Tryd.prog E 282 (.blk 8 (.loop rB)) (At gs 282 w0 (rF 2 at_ 0) ⟨rH 2 M h W x, p67⟩) (Exit.then (At gs 282 w0 (rF 2 at_ 64) ⟨rH 2 M h W (rnds W x 64), p67⟩) Q) :=
  Tri.blk (Tri.loop (I := fun t => At gs 282 w0 (rF 2 at_ t) ⟨rH 2 M h W (rnds W x t), p67⟩) 64 (fun t ht => rv_2 M h w0 at_ W (rnds W x t) _ t ht)
    (Tri.lastV okA (k := 40) (fuel := 70) (l := a6 p66) (ks := rK) gs_lt' (by kernel_rfl) (by unfold Alike; kernel_rfl) (by kernel_rfl) (by kernel_rfl) (by kernel_rfl) (fun _ _ h => h)))
theorem at_2_0 (M : Nat → Nat) (h : H8) (w0 : World) (Q : Exit → Act → World → Prop) : Tri Tryd.prog E 282 atB (At gs 282 w0 (aF 2 (.ofNat 0)) ⟨aH 2 M h, p65⟩) (Exit.then (At gs 282 w0 (aF 2 (.ofNat 64)) ⟨aH 2 M (mixF h (blkB M 0)), p65⟩) Q) := by
  rw [atB_shape]
  refine Tri.seq (J := At gs 282 w0 (aF 2 (.ofNat 0)) ⟨aH 2 M h, p65⟩) (Tri.stepV okA (k := 40) (fuel := 70) (l := a4) (ks := aK) gs_lt' (by kernel_rfl) (by unfold Alike; kernel_rfl) (by kernel_rfl) (by kernel_rfl) (by kernel_rfl)) ?_
  refine Tri.seq (J := At gs 282 w0 (aF 2 (.ofNat 0)) ⟨aH 2 M (mixF h (blkB M 0)), p65⟩) ?_ (Tri.stepV okA (k := 40) (fuel := 70) (l := a4) (ks := aK) gs_lt' (by kernel_rfl) (by unfold Alike; kernel_rfl) (by kernel_rfl) (by kernel_rfl) (by kernel_rfl))
  refine Tri.blk ?_
  rw [atY_shape]
  refine Tri.seq (J := At gs 282 w0 (T.set (.slice p65 0 64 (some 64) 1) p9 (aF 2 (.ofNat 0))) ⟨wH 2 M h (fun _ => 0), p66⟩) (Tri.stepV okA (k := 40) (fuel := 70) (l := a5) (ks := [p2, p3, p4, p7, p8, p9]) gs_lt' (by kernel_rfl) (by unfold Alike; kernel_rfl) (by kernel_rfl) (by kernel_rfl) (by kernel_rfl)) ?_
  refine Tri.seq (J := At gs 282 w0 (wF 2 (.ofNat 0) 64) ⟨wH 2 M h (wAt (blkB M 0) 64), p66⟩) ?_ ?_
  · rw [yW_shape]
    exact Tri.seq (J := At gs 282 w0 (wF 2 (.ofNat 0) 0) ⟨wH 2 M h (wAt (blkB M 0) 0), p66⟩) (Tri.stepV okA (k := 40) (fuel := 70) (l := a5) (ks := wK) gs_lt' (by kernel_rfl) (by unfold Alike; kernel_rfl) (by kernel_rfl) (by kernel_rfl) (by kernel_rfl)) (wl_2_0 M h w0 _)
  refine Tri.seq (J := At gs 282 w0 (T.set (.slice p66 0 8 none 1) p14 (T.set (.slice p65 0 64 (some 64) 1) p9 (aF 2 (.ofNat 0)))) ⟨rH 2 M h (wAt (blkB M 0) 64) h, p67⟩) (Tri.stepV okA (k := 40) (fuel := 70) (l := (a6 p67)) (ks := [p2, p3, p4, p7, p8, p9, p14]) gs_lt' (by kernel_rfl) (by unfold Alike; kernel_rfl) (by kernel_rfl) (by kernel_rfl) (by kernel_rfl)) ?_
  refine Tri.seq (J := At gs 282 w0 (rF 2 (.ofNat 0) 64) ⟨rH 2 M h (wAt (blkB M 0) 64) (rnds (wAt (blkB M 0) 64) h 64), p67⟩) ?_ ?_
  · rw [yR_shape]
    exact Tri.seq (J := At gs 282 w0 (rF 2 (.ofNat 0) 0) ⟨rH 2 M h (wAt (blkB M 0) 64) h, p67⟩) (Tri.stepV okA (k := 40) (fuel := 70) (l := (a6 p66)) (ks := rK) gs_lt' (by kernel_rfl) (by unfold Alike; kernel_rfl) (by kernel_rfl) (by kernel_rfl) (by kernel_rfl)) (rl_2 M h w0 _ _ h _)
  exact Tri.endV okA (k := 40) (fuel := 70) (l := a4) (ks := aK) gs_lt' (by kernel_rfl) (by unfold Alike; kernel_rfl) (by kernel_rfl) (by kernel_rfl) (by kernel_rfl) (fun _ _ h => h)
theorem at_2_1 (M : Nat → Nat) (h : H8) (w0 : World) (Q : Exit → Act → World → Prop) : Tri Tryd.prog E 282 atB (At gs 282 w0 (aF 2 (.ofNat 64)) ⟨aH 2 M h, p65⟩) (Exit.then (At gs 282 w0 (aF 2 (.ofNat 128)) ⟨aH 2 M (mixF h (blkB M 1)), p65⟩) Q) := by
  rw [atB_shape]
  refine Tri.seq (J := At gs 282 w0 (aF 2 (.ofNat 64)) ⟨aH 2 M h, p65⟩) (Tri.stepV okA (k := 40) (fuel := 70) (l := a4) (ks := aK) gs_lt' (by kernel_rfl) (by unfold Alike; kernel_rfl) (by kernel_rfl) (by kernel_rfl) (by kernel_rfl)) ?_
  refine Tri.seq (J := At gs 282 w0 (aF 2 (.ofNat 64)) ⟨aH 2 M (mixF h (blkB M 1)), p65⟩) ?_ (Tri.stepV okA (k := 40) (fuel := 70) (l := a4) (ks := aK) gs_lt' (by kernel_rfl) (by unfold Alike; kernel_rfl) (by kernel_rfl) (by kernel_rfl) (by kernel_rfl))
  refine Tri.blk ?_
  rw [atY_shape]
  refine Tri.seq (J := At gs 282 w0 (T.set (.slice p65 0 64 (some 64) 1) p9 (aF 2 (.ofNat 64))) ⟨wH 2 M h (fun _ => 0), p66⟩) (Tri.stepV okA (k := 40) (fuel := 70) (l := a5) (ks := [p2, p3, p4, p7, p8, p9]) gs_lt' (by kernel_rfl) (by unfold Alike; kernel_rfl) (by kernel_rfl) (by kernel_rfl) (by kernel_rfl)) ?_
  refine Tri.seq (J := At gs 282 w0 (wF 2 (.ofNat 64) 64) ⟨wH 2 M h (wAt (blkB M 1) 64), p66⟩) ?_ ?_
  · rw [yW_shape]
    exact Tri.seq (J := At gs 282 w0 (wF 2 (.ofNat 64) 0) ⟨wH 2 M h (wAt (blkB M 1) 0), p66⟩) (Tri.stepV okA (k := 40) (fuel := 70) (l := a5) (ks := wK) gs_lt' (by kernel_rfl) (by unfold Alike; kernel_rfl) (by kernel_rfl) (by kernel_rfl) (by kernel_rfl)) (wl_2_1 M h w0 _)
  refine Tri.seq (J := At gs 282 w0 (T.set (.slice p66 0 8 none 1) p14 (T.set (.slice p65 0 64 (some 64) 1) p9 (aF 2 (.ofNat 64)))) ⟨rH 2 M h (wAt (blkB M 1) 64) h, p67⟩) (Tri.stepV okA (k := 40) (fuel := 70) (l := (a6 p67)) (ks := [p2, p3, p4, p7, p8, p9, p14]) gs_lt' (by kernel_rfl) (by unfold Alike; kernel_rfl) (by kernel_rfl) (by kernel_rfl) (by kernel_rfl)) ?_
  refine Tri.seq (J := At gs 282 w0 (rF 2 (.ofNat 64) 64) ⟨rH 2 M h (wAt (blkB M 1) 64) (rnds (wAt (blkB M 1) 64) h 64), p67⟩) ?_ ?_
  · rw [yR_shape]
    exact Tri.seq (J := At gs 282 w0 (rF 2 (.ofNat 64) 0) ⟨rH 2 M h (wAt (blkB M 1) 64) h, p67⟩) (Tri.stepV okA (k := 40) (fuel := 70) (l := (a6 p66)) (ks := rK) gs_lt' (by kernel_rfl) (by unfold Alike; kernel_rfl) (by kernel_rfl) (by kernel_rfl) (by kernel_rfl)) (rl_2 M h w0 _ _ h _)
  exact Tri.endV okA (k := 40) (fuel := 70) (l := a4) (ks := aK) gs_lt' (by kernel_rfl) (by unfold Alike; kernel_rfl) (by kernel_rfl) (by kernel_rfl) (by kernel_rfl) (fun _ _ h => h)
theorem av_2 (M : Nat → Nat) (w0 : World) (Q : Exit → Act → World → Prop) : ∀ j, j < 2 → Tri Tryd.prog E 282 atB (At gs 282 w0 (aF 2 (.ofNat (Nat.mul 64 j))) ⟨aH 2 M (hAt M j), p65⟩) (Exit.then (At gs 282 w0 (aF 2 (.ofNat (Nat.mul 64 (j + 1)))) ⟨aH 2 M (hAt M (j + 1)), p65⟩) Q)
  | 0, _ => at_2_0 M (hAt M 0) w0 Q
  | 1, _ => at_2_1 M (hAt M 1) w0 Q
  | j + 2, h => by omega
theorem al_2 (M : Nat → Nat) (w0 : World) (Q : Exit → Act → World → Prop) : Tri Tryd.prog E 282 (.blk 4 (.loop atB)) (At gs 282 w0 (aF 2 (.ofNat 0)) ⟨aH 2 M (hAt M 0), p65⟩) (Exit.then (At gs 282 w0 (aF 2 (.ofNat 128)) ⟨aH 2 M (hAt M 2), p65⟩) Q) :=
  Tri.blk (Tri.loop (I := fun j => At gs 282 w0 (aF 2 (.ofNat (Nat.mul 64 j))) ⟨aH 2 M (hAt M j), p65⟩) 2 (fun j hj => av_2 M w0 _ j hj)
    (Tri.lastV okA (k := 40) (fuel := 70) (l := a4) (ks := aK) gs_lt' (by kernel_rfl) (by unfold Alike; kernel_rfl) (by kernel_rfl) (by kernel_rfl) (by kernel_rfl) (fun _ _ h => h)))
theorem ae_2 (M : Nat → Nat) (h : H8) (w0 : World) : Tri Tryd.prog E 282 rfEnd (At gs 282 w0 (aF 2 (.ofNat 128)) ⟨aH 2 M h, p65⟩) (fun e a' w' => e = .ret ∧ ∃ A' σ', At gs 282 w0 A' σ' a' w' ∧ resF (resI f62) A' σ' = some [.agg (bs (outL h))]) :=
  Tri.retV okA (k := 40) (fuel := 70) (by kernel_rfl) (by unfold Alike; kernel_rfl) (by kernel_rfl)
end Go.Proofs.YtbikpdgeldhkoaaDoor.Ir
