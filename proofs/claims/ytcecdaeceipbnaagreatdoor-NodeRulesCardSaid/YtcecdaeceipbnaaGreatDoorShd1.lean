/-
  digest.spread: the 64 words of a block, whatever its bytes.
-/
import Derived.Test.YtcecdaeceipbnaaGreatDoorNrB
import Derived.Test.YtcecdaeceipbnaaGreatDoorEnThree
namespace Go.Proofs.YtcecdaeceipbnaaGreatDoor.Ir
set_option linter.unusedVariables false
set_option maxRecDepth 100000
open Go Go.Proofs.YtcecdaeceipbnaaGreatDoor

noncomputable def ix8 : List Nat := [0, 1, 2, 3, 4, 5, 6, 7]
noncomputable def ix64 : List Nat := [0, 1, 2, 3, 4, 5, 6, 7, 8, 9, 10, 11, 12, 13, 14, 15, 16, 17, 18, 19, 20, 21, 22, 23, 24, 25, 26, 27, 28, 29, 30, 31, 32, 33, 34, 35, 36, 37, 38, 39, 40, 41, 42, 43, 44, 45, 46, 47, 48, 49, 50, 51, 52, 53, 54, 55, 56, 57, 58, 59, 60, 61, 62, 63]
noncomputable def w32 (W : Nat → Nat) (l : List Nat) : List V := lmap (fun i => V.int .u32 (.ofNat (W i))) l
noncomputable def b8 (B : Nat → Nat) (l : List Nat) : List V := lmap (fun i => V.int .u8 (.ofNat (B i))) l
noncomputable def spI : IR := bodyI f110
noncomputable def sp0 : IR := fstI spI
noncomputable def sp1 : IR := fstI (sndI spI)
noncomputable def spL : IR := fstI (sndI (sndI spI))
noncomputable def sp2 : IR := fstI spL
noncomputable def spB : IR := lopI (blkI (sndI spL))
noncomputable def spT : IR := sndI (sndI (sndI spI))
noncomputable def ng60 : Nat := p60.nat
noncomputable def spF (t : Nat) : T V := T.set (.slice p60 0 64 none 1) p0 (T.set (.ptr p61 0) p2 (T.set (.ptr p62 0) p3 (T.set (.int .i64 (.ofNat t)) p8 .nil)))
noncomputable def bH (B : Nat → Nat) : T Ob := T.set (.cells (b8 B ix64) [] false true) p60 .nil
noncomputable def spH (W B : Nat → Nat) : T Ob := T.set (.cells (zz (.int .u32 (.ofNat 0)) 64) [] false false) p61 (T.set (.cells (w32 W ix64) [] false false) p62 (bH B))
noncomputable def spV (t : Nat) (W B : Nat → Nat) : Nat := (fun _ : Nat => Bool.rec (motive := fun _ => Nat) (wnext (W (Nat.sub t 2)) (W (Nat.sub t 7)) (W (Nat.sub t 15)) (W (Nat.sub t 16))) (be B t) (Nat.blt t 16)) tall60
noncomputable def v3 : Vw := [(p60, p60), (p61, p61), (p62, p62)]
noncomputable def spK : List Pos := [p0, p2, p3, p8]

theorem sp_0 (W B : Nat → Nat) (w0 : World) (Q : Exit → Act → World → Prop) : Tri Tryz.prog E 80 spB (At gs 80 w0 (spF 0) ⟨spH W B, p63⟩) (Exit.then (At gs 80 w0 (spF 1) ⟨spH (upN W 0 (spV 0 W B)) B, p63⟩) Q) :=
  Tri.stepV okA (k := 40) (fuel := 40) (l := v3) (ks := spK) gs_lt' (by kernel_rfl) (by unfold Alike; kernel_rfl) (by kernel_rfl) (by kernel_rfl) (by kernel_rfl)
theorem sp_1 (W B : Nat → Nat) (w0 : World) (Q : Exit → Act → World → Prop) : Tri Tryz.prog E 80 spB (At gs 80 w0 (spF 1) ⟨spH W B, p63⟩) (Exit.then (At gs 80 w0 (spF 2) ⟨spH (upN W 1 (spV 1 W B)) B, p63⟩) Q) :=
  Tri.stepV okA (k := 40) (fuel := 40) (l := v3) (ks := spK) gs_lt' (by kernel_rfl) (by unfold Alike; kernel_rfl) (by kernel_rfl) (by kernel_rfl) (by kernel_rfl)
theorem sp_2 (W B : Nat → Nat) (w0 : World) (Q : Exit → Act → World → Prop) : Tri Tryz.prog E 80 spB (At gs 80 w0 (spF 2) ⟨spH W B, p63⟩) (Exit.then (At gs 80 w0 (spF 3) ⟨spH (upN W 2 (spV 2 W B)) B, p63⟩) Q) :=
  Tri.stepV okA (k := 40) (fuel := 40) (l := v3) (ks := spK) gs_lt' (by kernel_rfl) (by unfold Alike; kernel_rfl) (by kernel_rfl) (by kernel_rfl) (by kernel_rfl)
theorem sp_3 (W B : Nat → Nat) (w0 : World) (Q : Exit → Act → World → Prop) : Tri Tryz.prog E 80 spB (At gs 80 w0 (spF 3) ⟨spH W B, p63⟩) (Exit.then (At gs 80 w0 (spF 4) ⟨spH (upN W 3 (spV 3 W B)) B, p63⟩) Q) :=
  Tri.stepV okA (k := 40) (fuel := 40) (l := v3) (ks := spK) gs_lt' (by kernel_rfl) (by unfold Alike; kernel_rfl) (by kernel_rfl) (by kernel_rfl) (by kernel_rfl)
theorem sp_4 (W B : Nat → Nat) (w0 : World) (Q : Exit → Act → World → Prop) : Tri Tryz.prog E 80 spB (At gs 80 w0 (spF 4) ⟨spH W B, p63⟩) (Exit.then (At gs 80 w0 (spF 5) ⟨spH (upN W 4 (spV 4 W B)) B, p63⟩) Q) :=
  Tri.stepV okA (k := 40) (fuel := 40) (l := v3) (ks := spK) gs_lt' (by kernel_rfl) (by unfold Alike; kernel_rfl) (by kernel_rfl) (by kernel_rfl) (by kernel_rfl)
theorem sp_5 (W B : Nat → Nat) (w0 : World) (Q : Exit → Act → World → Prop) : Tri Tryz.prog E 80 spB (At gs 80 w0 (spF 5) ⟨spH W B, p63⟩) (Exit.then (At gs 80 w0 (spF 6) ⟨spH (upN W 5 (spV 5 W B)) B, p63⟩) Q) :=
  Tri.stepV okA (k := 40) (fuel := 40) (l := v3) (ks := spK) gs_lt' (by kernel_rfl) (by unfold Alike; kernel_rfl) (by kernel_rfl) (by kernel_rfl) (by kernel_rfl)
theorem sp_6 (W B : Nat → Nat) (w0 : World) (Q : Exit → Act → World → Prop) : Tri Tryz.prog E 80 spB (At gs 80 w0 (spF 6) ⟨spH W B, p63⟩) (Exit.then (At gs 80 w0 (spF 7) ⟨spH (upN W 6 (spV 6 W B)) B, p63⟩) Q) :=
  Tri.stepV okA (k := 40) (fuel := 40) (l := v3) (ks := spK) gs_lt' (by kernel_rfl) (by unfold Alike; kernel_rfl) (by kernel_rfl) (by kernel_rfl) (by kernel_rfl)
theorem sp_7 (W B : Nat → Nat) (w0 : World) (Q : Exit → Act → World → Prop) : Tri Tryz.prog E 80 spB (At gs 80 w0 (spF 7) ⟨spH W B, p63⟩) (Exit.then (At gs 80 w0 (spF 8) ⟨spH (upN W 7 (spV 7 W B)) B, p63⟩) Q) :=
  Tri.stepV okA (k := 40) (fuel := 40) (l := v3) (ks := spK) gs_lt' (by kernel_rfl) (by unfold Alike; kernel_rfl) (by kernel_rfl) (by kernel_rfl) (by kernel_rfl)
theorem sp_8 (W B : Nat → Nat) (w0 : World) (Q : Exit → Act → World → Prop) : Tri Tryz.prog E 80 spB (At gs 80 w0 (spF 8) ⟨spH W B, p63⟩) (Exit.then (At gs 80 w0 (spF 9) ⟨spH (upN W 8 (spV 8 W B)) B, p63⟩) Q) :=
  Tri.stepV okA (k := 40) (fuel := 40) (l := v3) (ks := spK) gs_lt' (by kernel_rfl) (by unfold Alike; kernel_rfl) (by kernel_rfl) (by kernel_rfl) (by kernel_rfl)
theorem sp_9 (W B : Nat → Nat) (w0 : World) (Q : Exit → Act → World → Prop) : Tri Tryz.prog E 80 spB (At gs 80 w0 (spF 9) ⟨spH W B, p63⟩) (Exit.then (At gs 80 w0 (spF 10) ⟨spH (upN W 9 (spV 9 W B)) B, p63⟩) Q) :=
  Tri.stepV okA (k := 40) (fuel := 40) (l := v3) (ks := spK) gs_lt' (by kernel_rfl) (by unfold Alike; kernel_rfl) (by kernel_rfl) (by kernel_rfl) (by kernel_rfl)
theorem sp_10 (W B : Nat → Nat) (w0 : World) (Q : Exit → Act → World → Prop) : Tri Tryz.prog E 80 spB (At gs 80 w0 (spF 10) ⟨spH W B, p63⟩) (Exit.then (At gs 80 w0 (spF 11) ⟨spH (upN W 10 (spV 10 W B)) B, p63⟩) Q) :=
  Tri.stepV okA (k := 40) (fuel := 40) (l := v3) (ks := spK) gs_lt' (by kernel_rfl) (by unfold Alike; kernel_rfl) (by kernel_rfl) (by kernel_rfl) (by kernel_rfl)
theorem sp_11 (W B : Nat → Nat) (w0 : World) (Q : Exit → Act → World → Prop) : Tri Tryz.prog E 80 spB (At gs 80 w0 (spF 11) ⟨spH W B, p63⟩) (Exit.then (At gs 80 w0 (spF 12) ⟨spH (upN W 11 (spV 11 W B)) B, p63⟩) Q) :=
  Tri.stepV okA (k := 40) (fuel := 40) (l := v3) (ks := spK) gs_lt' (by kernel_rfl) (by unfold Alike; kernel_rfl) (by kernel_rfl) (by kernel_rfl) (by kernel_rfl)
theorem sp_12 (W B : Nat → Nat) (w0 : World) (Q : Exit → Act → World → Prop) : Tri Tryz.prog E 80 spB (At gs 80 w0 (spF 12) ⟨spH W B, p63⟩) (Exit.then (At gs 80 w0 (spF 13) ⟨spH (upN W 12 (spV 12 W B)) B, p63⟩) Q) :=
  Tri.stepV okA (k := 40) (fuel := 40) (l := v3) (ks := spK) gs_lt' (by kernel_rfl) (by unfold Alike; kernel_rfl) (by kernel_rfl) (by kernel_rfl) (by kernel_rfl)
theorem sp_13 (W B : Nat → Nat) (w0 : World) (Q : Exit → Act → World → Prop) : Tri Tryz.prog E 80 spB (At gs 80 w0 (spF 13) ⟨spH W B, p63⟩) (Exit.then (At gs 80 w0 (spF 14) ⟨spH (upN W 13 (spV 13 W B)) B, p63⟩) Q) :=
  Tri.stepV okA (k := 40) (fuel := 40) (l := v3) (ks := spK) gs_lt' (by kernel_rfl) (by unfold Alike; kernel_rfl) (by kernel_rfl) (by kernel_rfl) (by kernel_rfl)
theorem sp_14 (W B : Nat → Nat) (w0 : World) (Q : Exit → Act → World → Prop) : Tri Tryz.prog E 80 spB (At gs 80 w0 (spF 14) ⟨spH W B, p63⟩) (Exit.then (At gs 80 w0 (spF 15) ⟨spH (upN W 14 (spV 14 W B)) B, p63⟩) Q) :=
  Tri.stepV okA (k := 40) (fuel := 40) (l := v3) (ks := spK) gs_lt' (by kernel_rfl) (by unfold Alike; kernel_rfl) (by kernel_rfl) (by kernel_rfl) (by kernel_rfl)
theorem sp_15 (W B : Nat → Nat) (w0 : World) (Q : Exit → Act → World → Prop) : Tri Tryz.prog E 80 spB (At gs 80 w0 (spF 15) ⟨spH W B, p63⟩) (Exit.then (At gs 80 w0 (spF 16) ⟨spH (upN W 15 (spV 15 W B)) B, p63⟩) Q) :=
  Tri.stepV okA (k := 40) (fuel := 40) (l := v3) (ks := spK) gs_lt' (by kernel_rfl) (by unfold Alike; kernel_rfl) (by kernel_rfl) (by kernel_rfl) (by kernel_rfl)
theorem sp_16 (W B : Nat → Nat) (w0 : World) (Q : Exit → Act → World → Prop) : Tri Tryz.prog E 80 spB (At gs 80 w0 (spF 16) ⟨spH W B, p63⟩) (Exit.then (At gs 80 w0 (spF 17) ⟨spH (upN W 16 (spV 16 W B)) B, p63⟩) Q) :=
  Tri.stepV okA (k := 40) (fuel := 40) (l := v3) (ks := spK) gs_lt' (by kernel_rfl) (by unfold Alike; kernel_rfl) (by kernel_rfl) (by kernel_rfl) (by kernel_rfl)
theorem sp_17 (W B : Nat → Nat) (w0 : World) (Q : Exit → Act → World → Prop) : Tri Tryz.prog E 80 spB (At gs 80 w0 (spF 17) ⟨spH W B, p63⟩) (Exit.then (At gs 80 w0 (spF 18) ⟨spH (upN W 17 (spV 17 W B)) B, p63⟩) Q) :=
  Tri.stepV okA (k := 40) (fuel := 40) (l := v3) (ks := spK) gs_lt' (by kernel_rfl) (by unfold Alike; kernel_rfl) (by kernel_rfl) (by kernel_rfl) (by kernel_rfl)
theorem sp_18 (W B : Nat → Nat) (w0 : World) (Q : Exit → Act → World → Prop) : Tri Tryz.prog E 80 spB (At gs 80 w0 (spF 18) ⟨spH W B, p63⟩) (Exit.then (At gs 80 w0 (spF 19) ⟨spH (upN W 18 (spV 18 W B)) B, p63⟩) Q) :=
  Tri.stepV okA (k := 40) (fuel := 40) (l := v3) (ks := spK) gs_lt' (by kernel_rfl) (by unfold Alike; kernel_rfl) (by kernel_rfl) (by kernel_rfl) (by kernel_rfl)
theorem sp_19 (W B : Nat → Nat) (w0 : World) (Q : Exit → Act → World → Prop) : Tri Tryz.prog E 80 spB (At gs 80 w0 (spF 19) ⟨spH W B, p63⟩) (Exit.then (At gs 80 w0 (spF 20) ⟨spH (upN W 19 (spV 19 W B)) B, p63⟩) Q) :=
  Tri.stepV okA (k := 40) (fuel := 40) (l := v3) (ks := spK) gs_lt' (by kernel_rfl) (by unfold Alike; kernel_rfl) (by kernel_rfl) (by kernel_rfl) (by kernel_rfl)
theorem sp_20 (W B : Nat → Nat) (w0 : World) (Q : Exit → Act → World → Prop) : Tri Tryz.prog E 80 spB (At gs 80 w0 (spF 20) ⟨spH W B, p63⟩) (Exit.then (At gs 80 w0 (spF 21) ⟨spH (upN W 20 (spV 20 W B)) B, p63⟩) Q) :=
  Tri.stepV okA (k := 40) (fuel := 40) (l := v3) (ks := spK) gs_lt' (by kernel_rfl) (by unfold Alike; kernel_rfl) (by kernel_rfl) (by kernel_rfl) (by kernel_rfl)
theorem sp_21 (W B : Nat → Nat) (w0 : World) (Q : Exit → Act → World → Prop) : Tri Tryz.prog E 80 spB (At gs 80 w0 (spF 21) ⟨spH W B, p63⟩) (Exit.then (At gs 80 w0 (spF 22) ⟨spH (upN W 21 (spV 21 W B)) B, p63⟩) Q) :=
  Tri.stepV okA (k := 40) (fuel := 40) (l := v3) (ks := spK) gs_lt' (by kernel_rfl) (by unfold Alike; kernel_rfl) (by kernel_rfl) (by kernel_rfl) (by kernel_rfl)
theorem sp_22 (W B : Nat → Nat) (w0 : World) (Q : Exit → Act → World → Prop) : Tri Tryz.prog E 80 spB (At gs 80 w0 (spF 22) ⟨spH W B, p63⟩) (Exit.then (At gs 80 w0 (spF 23) ⟨spH (upN W 22 (spV 22 W B)) B, p63⟩) Q) :=
  Tri.stepV okA (k := 40) (fuel := 40) (l := v3) (ks := spK) gs_lt' (by kernel_rfl) (by unfold Alike; kernel_rfl) (by kernel_rfl) (by kernel_rfl) (by kernel_rfl)
theorem sp_23 (W B : Nat → Nat) (w0 : World) (Q : Exit → Act → World → Prop) : Tri Tryz.prog E 80 spB (At gs 80 w0 (spF 23) ⟨spH W B, p63⟩) (Exit.then (At gs 80 w0 (spF 24) ⟨spH (upN W 23 (spV 23 W B)) B, p63⟩) Q) :=
  Tri.stepV okA (k := 40) (fuel := 40) (l := v3) (ks := spK) gs_lt' (by kernel_rfl) (by unfold Alike; kernel_rfl) (by kernel_rfl) (by kernel_rfl) (by kernel_rfl)
theorem sp_24 (W B : Nat → Nat) (w0 : World) (Q : Exit → Act → World → Prop) : Tri Tryz.prog E 80 spB (At gs 80 w0 (spF 24) ⟨spH W B, p63⟩) (Exit.then (At gs 80 w0 (spF 25) ⟨spH (upN W 24 (spV 24 W B)) B, p63⟩) Q) :=
  Tri.stepV okA (k := 40) (fuel := 40) (l := v3) (ks := spK) gs_lt' (by kernel_rfl) (by unfold Alike; kernel_rfl) (by kernel_rfl) (by kernel_rfl) (by kernel_rfl)
theorem sp_25 (W B : Nat → Nat) (w0 : World) (Q : Exit → Act → World → Prop) : Tri Tryz.prog E 80 spB (At gs 80 w0 (spF 25) ⟨spH W B, p63⟩) (Exit.then (At gs 80 w0 (spF 26) ⟨spH (upN W 25 (spV 25 W B)) B, p63⟩) Q) :=
  Tri.stepV okA (k := 40) (fuel := 40) (l := v3) (ks := spK) gs_lt' (by kernel_rfl) (by unfold Alike; kernel_rfl) (by kernel_rfl) (by kernel_rfl) (by kernel_rfl)
theorem sp_26 (W B : Nat → Nat) (w0 : World) (Q : Exit → Act → World → Prop) : Tri Tryz.prog E 80 spB (At gs 80 w0 (spF 26) ⟨spH W B, p63⟩) (Exit.then (At gs 80 w0 (spF 27) ⟨spH (upN W 26 (spV 26 W B)) B, p63⟩) Q) :=
  Tri.stepV okA (k := 40) (fuel := 40) (l := v3) (ks := spK) gs_lt' (by kernel_rfl) (by unfold Alike; kernel_rfl) (by kernel_rfl) (by kernel_rfl) (by kernel_rfl)
theorem sp_27 (W B : Nat → Nat) (w0 : World) (Q : Exit → Act → World → Prop) : Tri Tryz.prog E 80 spB (At gs 80 w0 (spF 27) ⟨spH W B, p63⟩) (Exit.then (At gs 80 w0 (spF 28) ⟨spH (upN W 27 (spV 27 W B)) B, p63⟩) Q) :=
  Tri.stepV okA (k := 40) (fuel := 40) (l := v3) (ks := spK) gs_lt' (by kernel_rfl) (by unfold Alike; kernel_rfl) (by kernel_rfl) (by kernel_rfl) (by kernel_rfl)
theorem sp_28 (W B : Nat → Nat) (w0 : World) (Q : Exit → Act → World → Prop) : Tri Tryz.prog E 80 spB (At gs 80 w0 (spF 28) ⟨spH W B, p63⟩) (Exit.then (At gs 80 w0 (spF 29) ⟨spH (upN W 28 (spV 28 W B)) B, p63⟩) Q) :=
  Tri.stepV okA (k := 40) (fuel := 40) (l := v3) (ks := spK) gs_lt' (by kernel_rfl) (by unfold Alike; kernel_rfl) (by kernel_rfl) (by kernel_rfl) (by kernel_rfl)
theorem sp_29 (W B : Nat → Nat) (w0 : World) (Q : Exit → Act → World → Prop) : Tri Tryz.prog E 80 spB (At gs 80 w0 (spF 29) ⟨spH W B, p63⟩) (Exit.then (At gs 80 w0 (spF 30) ⟨spH (upN W 29 (spV 29 W B)) B, p63⟩) Q) :=
  Tri.stepV okA (k := 40) (fuel := 40) (l := v3) (ks := spK) gs_lt' (by kernel_rfl) (by unfold Alike; kernel_rfl) (by kernel_rfl) (by kernel_rfl) (by kernel_rfl)
theorem sp_30 (W B : Nat → Nat) (w0 : World) (Q : Exit → Act → World → Prop) : Tri Tryz.prog E 80 spB (At gs 80 w0 (spF 30) ⟨spH W B, p63⟩) (Exit.then (At gs 80 w0 (spF 31) ⟨spH (upN W 30 (spV 30 W B)) B, p63⟩) Q) :=
  Tri.stepV okA (k := 40) (fuel := 40) (l := v3) (ks := spK) gs_lt' (by kernel_rfl) (by unfold Alike; kernel_rfl) (by kernel_rfl) (by kernel_rfl) (by kernel_rfl)
theorem sp_31 (W B : Nat → Nat) (w0 : World) (Q : Exit → Act → World → Prop) : Tri Tryz.prog E 80 spB (At gs 80 w0 (spF 31) ⟨spH W B, p63⟩) (Exit.then (At gs 80 w0 (spF 32) ⟨spH (upN W 31 (spV 31 W B)) B, p63⟩) Q) :=
  Tri.stepV okA (k := 40) (fuel := 40) (l := v3) (ks := spK) gs_lt' (by kernel_rfl) (by unfold Alike; kernel_rfl) (by kernel_rfl) (by kernel_rfl) (by kernel_rfl)
theorem sp_32 (W B : Nat → Nat) (w0 : World) (Q : Exit → Act → World → Prop) : Tri Tryz.prog E 80 spB (At gs 80 w0 (spF 32) ⟨spH W B, p63⟩) (Exit.then (At gs 80 w0 (spF 33) ⟨spH (upN W 32 (spV 32 W B)) B, p63⟩) Q) :=
  Tri.stepV okA (k := 40) (fuel := 40) (l := v3) (ks := spK) gs_lt' (by kernel_rfl) (by unfold Alike; kernel_rfl) (by kernel_rfl) (by kernel_rfl) (by kernel_rfl)
theorem sp_33 (W B : Nat → Nat) (w0 : World) (Q : Exit → Act → World → Prop) : Tri Tryz.prog E 80 spB (At gs 80 w0 (spF 33) ⟨spH W B, p63⟩) (Exit.then (At gs 80 w0 (spF 34) ⟨spH (upN W 33 (spV 33 W B)) B, p63⟩) Q) :=
  Tri.stepV okA (k := 40) (fuel := 40) (l := v3) (ks := spK) gs_lt' (by kernel_rfl) (by unfold Alike; kernel_rfl) (by kernel_rfl) (by kernel_rfl) (by kernel_rfl)
theorem sp_34 (W B : Nat → Nat) (w0 : World) (Q : Exit → Act → World → Prop) : Tri Tryz.prog E 80 spB (At gs 80 w0 (spF 34) ⟨spH W B, p63⟩) (Exit.then (At gs 80 w0 (spF 35) ⟨spH (upN W 34 (spV 34 W B)) B, p63⟩) Q) :=
  Tri.stepV okA (k := 40) (fuel := 40) (l := v3) (ks := spK) gs_lt' (by kernel_rfl) (by unfold Alike; kernel_rfl) (by kernel_rfl) (by kernel_rfl) (by kernel_rfl)
theorem sp_35 (W B : Nat → Nat) (w0 : World) (Q : Exit → Act → World → Prop) : Tri Tryz.prog E 80 spB (At gs 80 w0 (spF 35) ⟨spH W B, p63⟩) (Exit.then (At gs 80 w0 (spF 36) ⟨spH (upN W 35 (spV 35 W B)) B, p63⟩) Q) :=
  Tri.stepV okA (k := 40) (fuel := 40) (l := v3) (ks := spK) gs_lt' (by kernel_rfl) (by unfold Alike; kernel_rfl) (by kernel_rfl) (by kernel_rfl) (by kernel_rfl)
theorem sp_36 (W B : Nat → Nat) (w0 : World) (Q : Exit → Act → World → Prop) : Tri Tryz.prog E 80 spB (At gs 80 w0 (spF 36) ⟨spH W B, p63⟩) (Exit.then (At gs 80 w0 (spF 37) ⟨spH (upN W 36 (spV 36 W B)) B, p63⟩) Q) :=
  Tri.stepV okA (k := 40) (fuel := 40) (l := v3) (ks := spK) gs_lt' (by kernel_rfl) (by unfold Alike; kernel_rfl) (by kernel_rfl) (by kernel_rfl) (by kernel_rfl)
theorem sp_37 (W B : Nat → Nat) (w0 : World) (Q : Exit → Act → World → Prop) : Tri Tryz.prog E 80 spB (At gs 80 w0 (spF 37) ⟨spH W B, p63⟩) (Exit.then (At gs 80 w0 (spF 38) ⟨spH (upN W 37 (spV 37 W B)) B, p63⟩) Q) :=
  Tri.stepV okA (k := 40) (fuel := 40) (l := v3) (ks := spK) gs_lt' (by kernel_rfl) (by unfold Alike; kernel_rfl) (by kernel_rfl) (by kernel_rfl) (by kernel_rfl)
theorem sp_38 (W B : Nat → Nat) (w0 : World) (Q : Exit → Act → World → Prop) : Tri Tryz.prog E 80 spB (At gs 80 w0 (spF 38) ⟨spH W B, p63⟩) (Exit.then (At gs 80 w0 (spF 39) ⟨spH (upN W 38 (spV 38 W B)) B, p63⟩) Q) :=
  Tri.stepV okA (k := 40) (fuel := 40) (l := v3) (ks := spK) gs_lt' (by kernel_rfl) (by unfold Alike; kernel_rfl) (by kernel_rfl) (by kernel_rfl) (by kernel_rfl)
theorem sp_39 (W B : Nat → Nat) (w0 : World) (Q : Exit → Act → World → Prop) : Tri Tryz.prog E 80 spB (At gs 80 w0 (spF 39) ⟨spH W B, p63⟩) (Exit.then (At gs 80 w0 (spF 40) ⟨spH (upN W 39 (spV 39 W B)) B, p63⟩) Q) :=
  Tri.stepV okA (k := 40) (fuel := 40) (l := v3) (ks := spK) gs_lt' (by kernel_rfl) (by unfold Alike; kernel_rfl) (by kernel_rfl) (by kernel_rfl) (by kernel_rfl)
theorem sp_40 (W B : Nat → Nat) (w0 : World) (Q : Exit → Act → World → Prop) : Tri Tryz.prog E 80 spB (At gs 80 w0 (spF 40) ⟨spH W B, p63⟩) (Exit.then (At gs 80 w0 (spF 41) ⟨spH (upN W 40 (spV 40 W B)) B, p63⟩) Q) :=
  Tri.stepV okA (k := 40) (fuel := 40) (l := v3) (ks := spK) gs_lt' (by kernel_rfl) (by unfold Alike; kernel_rfl) (by kernel_rfl) (by kernel_rfl) (by kernel_rfl)
theorem sp_41 (W B : Nat → Nat) (w0 : World) (Q : Exit → Act → World → Prop) : Tri Tryz.prog E 80 spB (At gs 80 w0 (spF 41) ⟨spH W B, p63⟩) (Exit.then (At gs 80 w0 (spF 42) ⟨spH (upN W 41 (spV 41 W B)) B, p63⟩) Q) :=
  Tri.stepV okA (k := 40) (fuel := 40) (l := v3) (ks := spK) gs_lt' (by kernel_rfl) (by unfold Alike; kernel_rfl) (by kernel_rfl) (by kernel_rfl) (by kernel_rfl)
theorem sp_42 (W B : Nat → Nat) (w0 : World) (Q : Exit → Act → World → Prop) : Tri Tryz.prog E 80 spB (At gs 80 w0 (spF 42) ⟨spH W B, p63⟩) (Exit.then (At gs 80 w0 (spF 43) ⟨spH (upN W 42 (spV 42 W B)) B, p63⟩) Q) :=
  Tri.stepV okA (k := 40) (fuel := 40) (l := v3) (ks := spK) gs_lt' (by kernel_rfl) (by unfold Alike; kernel_rfl) (by kernel_rfl) (by kernel_rfl) (by kernel_rfl)
theorem sp_43 (W B : Nat → Nat) (w0 : World) (Q : Exit → Act → World → Prop) : Tri Tryz.prog E 80 spB (At gs 80 w0 (spF 43) ⟨spH W B, p63⟩) (Exit.then (At gs 80 w0 (spF 44) ⟨spH (upN W 43 (spV 43 W B)) B, p63⟩) Q) :=
  Tri.stepV okA (k := 40) (fuel := 40) (l := v3) (ks := spK) gs_lt' (by kernel_rfl) (by unfold Alike; kernel_rfl) (by kernel_rfl) (by kernel_rfl) (by kernel_rfl)
theorem sp_44 (W B : Nat → Nat) (w0 : World) (Q : Exit → Act → World → Prop) : Tri Tryz.prog E 80 spB (At gs 80 w0 (spF 44) ⟨spH W B, p63⟩) (Exit.then (At gs 80 w0 (spF 45) ⟨spH (upN W 44 (spV 44 W B)) B, p63⟩) Q) :=
  Tri.stepV okA (k := 40) (fuel := 40) (l := v3) (ks := spK) gs_lt' (by kernel_rfl) (by unfold Alike; kernel_rfl) (by kernel_rfl) (by kernel_rfl) (by kernel_rfl)
theorem sp_45 (W B : Nat → Nat) (w0 : World) (Q : Exit → Act → World → Prop) : Tri Tryz.prog E 80 spB (At gs 80 w0 (spF 45) ⟨spH W B, p63⟩) (Exit.then (At gs 80 w0 (spF 46) ⟨spH (upN W 45 (spV 45 W B)) B, p63⟩) Q) :=
  Tri.stepV okA (k := 40) (fuel := 40) (l := v3) (ks := spK) gs_lt' (by kernel_rfl) (by unfold Alike; kernel_rfl) (by kernel_rfl) (by kernel_rfl) (by kernel_rfl)
theorem sp_46 (W B : Nat → Nat) (w0 : World) (Q : Exit → Act → World → Prop) : Tri Tryz.prog E 80 spB (At gs 80 w0 (spF 46) ⟨spH W B, p63⟩) (Exit.then (At gs 80 w0 (spF 47) ⟨spH (upN W 46 (spV 46 W B)) B, p63⟩) Q) :=
  Tri.stepV okA (k := 40) (fuel := 40) (l := v3) (ks := spK) gs_lt' (by kernel_rfl) (by unfold Alike; kernel_rfl) (by kernel_rfl) (by kernel_rfl) (by kernel_rfl)
theorem sp_47 (W B : Nat → Nat) (w0 : World) (Q : Exit → Act → World → Prop) : Tri Tryz.prog E 80 spB (At gs 80 w0 (spF 47) ⟨spH W B, p63⟩) (Exit.then (At gs 80 w0 (spF 48) ⟨spH (upN W 47 (spV 47 W B)) B, p63⟩) Q) :=
  Tri.stepV okA (k := 40) (fuel := 40) (l := v3) (ks := spK) gs_lt' (by kernel_rfl) (by unfold Alike; kernel_rfl) (by kernel_rfl) (by kernel_rfl) (by kernel_rfl)
theorem sp_48 (W B : Nat → Nat) (w0 : World) (Q : Exit → Act → World → Prop) : Tri Tryz.prog E 80 spB (At gs 80 w0 (spF 48) ⟨spH W B, p63⟩) (Exit.then (At gs 80 w0 (spF 49) ⟨spH (upN W 48 (spV 48 W B)) B, p63⟩) Q) :=
  Tri.stepV okA (k := 40) (fuel := 40) (l := v3) (ks := spK) gs_lt' (by kernel_rfl) (by unfold Alike; kernel_rfl) (by kernel_rfl) (by kernel_rfl) (by kernel_rfl)
theorem sp_49 (W B : Nat → Nat) (w0 : World) (Q : Exit → Act → World → Prop) : Tri Tryz.prog E 80 spB (At gs 80 w0 (spF 49) ⟨spH W B, p63⟩) (Exit.then (At gs 80 w0 (spF 50) ⟨spH (upN W 49 (spV 49 W B)) B, p63⟩) Q) :=
  Tri.stepV okA (k := 40) (fuel := 40) (l := v3) (ks := spK) gs_lt' (by kernel_rfl) (by unfold Alike; kernel_rfl) (by kernel_rfl) (by kernel_rfl) (by kernel_rfl)
theorem sp_50 (W B : Nat → Nat) (w0 : World) (Q : Exit → Act → World → Prop) : Tri Tryz.prog E 80 spB (At gs 80 w0 (spF 50) ⟨spH W B, p63⟩) (Exit.then (At gs 80 w0 (spF 51) ⟨spH (upN W 50 (spV 50 W B)) B, p63⟩) Q) :=
  Tri.stepV okA (k := 40) (fuel := 40) (l := v3) (ks := spK) gs_lt' (by kernel_rfl) (by unfold Alike; kernel_rfl) (by kernel_rfl) (by kernel_rfl) (by kernel_rfl)
theorem sp_51 (W B : Nat → Nat) (w0 : World) (Q : Exit → Act → World → Prop) : Tri Tryz.prog E 80 spB (At gs 80 w0 (spF 51) ⟨spH W B, p63⟩) (Exit.then (At gs 80 w0 (spF 52) ⟨spH (upN W 51 (spV 51 W B)) B, p63⟩) Q) :=
  Tri.stepV okA (k := 40) (fuel := 40) (l := v3) (ks := spK) gs_lt' (by kernel_rfl) (by unfold Alike; kernel_rfl) (by kernel_rfl) (by kernel_rfl) (by kernel_rfl)
theorem sp_52 (W B : Nat → Nat) (w0 : World) (Q : Exit → Act → World → Prop) : Tri Tryz.prog E 80 spB (At gs 80 w0 (spF 52) ⟨spH W B, p63⟩) (Exit.then (At gs 80 w0 (spF 53) ⟨spH (upN W 52 (spV 52 W B)) B, p63⟩) Q) :=
  Tri.stepV okA (k := 40) (fuel := 40) (l := v3) (ks := spK) gs_lt' (by kernel_rfl) (by unfold Alike; kernel_rfl) (by kernel_rfl) (by kernel_rfl) (by kernel_rfl)
theorem sp_53 (W B : Nat → Nat) (w0 : World) (Q : Exit → Act → World → Prop) : Tri Tryz.prog E 80 spB (At gs 80 w0 (spF 53) ⟨spH W B, p63⟩) (Exit.then (At gs 80 w0 (spF 54) ⟨spH (upN W 53 (spV 53 W B)) B, p63⟩) Q) :=
  Tri.stepV okA (k := 40) (fuel := 40) (l := v3) (ks := spK) gs_lt' (by kernel_rfl) (by unfold Alike; kernel_rfl) (by kernel_rfl) (by kernel_rfl) (by kernel_rfl)
theorem sp_54 (W B : Nat → Nat) (w0 : World) (Q : Exit → Act → World → Prop) : Tri Tryz.prog E 80 spB (At gs 80 w0 (spF 54) ⟨spH W B, p63⟩) (Exit.then (At gs 80 w0 (spF 55) ⟨spH (upN W 54 (spV 54 W B)) B, p63⟩) Q) :=
  Tri.stepV okA (k := 40) (fuel := 40) (l := v3) (ks := spK) gs_lt' (by kernel_rfl) (by unfold Alike; kernel_rfl) (by kernel_rfl) (by kernel_rfl) (by kernel_rfl)
theorem sp_55 (W B : Nat → Nat) (w0 : World) (Q : Exit → Act → World → Prop) : Tri Tryz.prog E 80 spB (At gs 80 w0 (spF 55) ⟨spH W B, p63⟩) (Exit.then (At gs 80 w0 (spF 56) ⟨spH (upN W 55 (spV 55 W B)) B, p63⟩) Q) :=
  Tri.stepV okA (k := 40) (fuel := 40) (l := v3) (ks := spK) gs_lt' (by kernel_rfl) (by unfold Alike; kernel_rfl) (by kernel_rfl) (by kernel_rfl) (by kernel_rfl)
theorem sp_56 (W B : Nat → Nat) (w0 : World) (Q : Exit → Act → World → Prop) : Tri Tryz.prog E 80 spB (At gs 80 w0 (spF 56) ⟨spH W B, p63⟩) (Exit.then (At gs 80 w0 (spF 57) ⟨spH (upN W 56 (spV 56 W B)) B, p63⟩) Q) :=
  Tri.stepV okA (k := 40) (fuel := 40) (l := v3) (ks := spK) gs_lt' (by kernel_rfl) (by unfold Alike; kernel_rfl) (by kernel_rfl) (by kernel_rfl) (by kernel_rfl)
theorem sp_57 (W B : Nat → Nat) (w0 : World) (Q : Exit → Act → World → Prop) : Tri Tryz.prog E 80 spB (At gs 80 w0 (spF 57) ⟨spH W B, p63⟩) (Exit.then (At gs 80 w0 (spF 58) ⟨spH (upN W 57 (spV 57 W B)) B, p63⟩) Q) :=
  Tri.stepV okA (k := 40) (fuel := 40) (l := v3) (ks := spK) gs_lt' (by kernel_rfl) (by unfold Alike; kernel_rfl) (by kernel_rfl) (by kernel_rfl) (by kernel_rfl)
theorem sp_58 (W B : Nat → Nat) (w0 : World) (Q : Exit → Act → World → Prop) : Tri Tryz.prog E 80 spB (At gs 80 w0 (spF 58) ⟨spH W B, p63⟩) (Exit.then (At gs 80 w0 (spF 59) ⟨spH (upN W 58 (spV 58 W B)) B, p63⟩) Q) :=
  Tri.stepV okA (k := 40) (fuel := 40) (l := v3) (ks := spK) gs_lt' (by kernel_rfl) (by unfold Alike; kernel_rfl) (by kernel_rfl) (by kernel_rfl) (by kernel_rfl)
theorem sp_59 (W B : Nat → Nat) (w0 : World) (Q : Exit → Act → World → Prop) : Tri Tryz.prog E 80 spB (At gs 80 w0 (spF 59) ⟨spH W B, p63⟩) (Exit.then (At gs 80 w0 (spF 60) ⟨spH (upN W 59 (spV 59 W B)) B, p63⟩) Q) :=
  Tri.stepV okA (k := 40) (fuel := 40) (l := v3) (ks := spK) gs_lt' (by kernel_rfl) (by unfold Alike; kernel_rfl) (by kernel_rfl) (by kernel_rfl) (by kernel_rfl)
theorem sp_60 (W B : Nat → Nat) (w0 : World) (Q : Exit → Act → World → Prop) : Tri Tryz.prog E 80 spB (At gs 80 w0 (spF 60) ⟨spH W B, p63⟩) (Exit.then (At gs 80 w0 (spF 61) ⟨spH (upN W 60 (spV 60 W B)) B, p63⟩) Q) :=
  Tri.stepV okA (k := 40) (fuel := 40) (l := v3) (ks := spK) gs_lt' (by kernel_rfl) (by unfold Alike; kernel_rfl) (by kernel_rfl) (by kernel_rfl) (by kernel_rfl)
theorem sp_61 (W B : Nat → Nat) (w0 : World) (Q : Exit → Act → World → Prop) : Tri Tryz.prog E 80 spB (At gs 80 w0 (spF 61) ⟨spH W B, p63⟩) (Exit.then (At gs 80 w0 (spF 62) ⟨spH (upN W 61 (spV 61 W B)) B, p63⟩) Q) :=
  Tri.stepV okA (k := 40) (fuel := 40) (l := v3) (ks := spK) gs_lt' (by kernel_rfl) (by unfold Alike; kernel_rfl) (by kernel_rfl) (by kernel_rfl) (by kernel_rfl)
theorem sp_62 (W B : Nat → Nat) (w0 : World) (Q : Exit → Act → World → Prop) : Tri Tryz.prog E 80 spB (At gs 80 w0 (spF 62) ⟨spH W B, p63⟩) (Exit.then (At gs 80 w0 (spF 63) ⟨spH (upN W 62 (spV 62 W B)) B, p63⟩) Q) :=
  Tri.stepV okA (k := 40) (fuel := 40) (l := v3) (ks := spK) gs_lt' (by kernel_rfl) (by unfold Alike; kernel_rfl) (by kernel_rfl) (by kernel_rfl) (by kernel_rfl)
theorem sp_63 (W B : Nat → Nat) (w0 : World) (Q : Exit → Act → World → Prop) : Tri Tryz.prog E 80 spB (At gs 80 w0 (spF 63) ⟨spH W B, p63⟩) (Exit.then (At gs 80 w0 (spF 64) ⟨spH (upN W 63 (spV 63 W B)) B, p63⟩) Q) :=
  Tri.stepV okA (k := 40) (fuel := 40) (l := v3) (ks := spK) gs_lt' (by kernel_rfl) (by unfold Alike; kernel_rfl) (by kernel_rfl) (by kernel_rfl) (by kernel_rfl)
theorem sp_all (W B : Nat → Nat) (w0 : World) (Q : Exit → Act → World → Prop) : ∀ t, t < 64 → Tri Tryz.prog E 80 spB (At gs 80 w0 (spF t) ⟨spH W B, p63⟩) (Exit.then (At gs 80 w0 (spF (t + 1)) ⟨spH (upN W t (spV t W B)) B, p63⟩) Q)
  | 0, _ => sp_0 W B w0 Q
  | 1, _ => sp_1 W B w0 Q
  | 2, _ => sp_2 W B w0 Q
  | 3, _ => sp_3 W B w0 Q
  | 4, _ => sp_4 W B w0 Q
  | 5, _ => sp_5 W B w0 Q
  | 6, _ => sp_6 W B w0 Q
  | 7, _ => sp_7 W B w0 Q
  | 8, _ => sp_8 W B w0 Q
  | 9, _ => sp_9 W B w0 Q
  | 10, _ => sp_10 W B w0 Q
  | 11, _ => sp_11 W B w0 Q
  | 12, _ => sp_12 W B w0 Q
  | 13, _ => sp_13 W B w0 Q
  | 14, _ => sp_14 W B w0 Q
  | 15, _ => sp_15 W B w0 Q
  | 16, _ => sp_16 W B w0 Q
  | 17, _ => sp_17 W B w0 Q
  | 18, _ => sp_18 W B w0 Q
  | 19, _ => sp_19 W B w0 Q
  | 20, _ => sp_20 W B w0 Q
  | 21, _ => sp_21 W B w0 Q
  | 22, _ => sp_22 W B w0 Q
  | 23, _ => sp_23 W B w0 Q
  | 24, _ => sp_24 W B w0 Q
  | 25, _ => sp_25 W B w0 Q
  | 26, _ => sp_26 W B w0 Q
  | 27, _ => sp_27 W B w0 Q
  | 28, _ => sp_28 W B w0 Q
  | 29, _ => sp_29 W B w0 Q
  | 30, _ => sp_30 W B w0 Q
  | 31, _ => sp_31 W B w0 Q
  | 32, _ => sp_32 W B w0 Q
  | 33, _ => sp_33 W B w0 Q
  | 34, _ => sp_34 W B w0 Q
  | 35, _ => sp_35 W B w0 Q
  | 36, _ => sp_36 W B w0 Q
  | 37, _ => sp_37 W B w0 Q
  | 38, _ => sp_38 W B w0 Q
  | 39, _ => sp_39 W B w0 Q
  | 40, _ => sp_40 W B w0 Q
  | 41, _ => sp_41 W B w0 Q
  | 42, _ => sp_42 W B w0 Q
  | 43, _ => sp_43 W B w0 Q
  | 44, _ => sp_44 W B w0 Q
  | 45, _ => sp_45 W B w0 Q
  | 46, _ => sp_46 W B w0 Q
  | 47, _ => sp_47 W B w0 Q
  | 48, _ => sp_48 W B w0 Q
  | 49, _ => sp_49 W B w0 Q
  | 50, _ => sp_50 W B w0 Q
  | 51, _ => sp_51 W B w0 Q
  | 52, _ => sp_52 W B w0 Q
  | 53, _ => sp_53 W B w0 Q
  | 54, _ => sp_54 W B w0 Q
  | 55, _ => sp_55 W B w0 Q
  | 56, _ => sp_56 W B w0 Q
  | 57, _ => sp_57 W B w0 Q
  | 58, _ => sp_58 W B w0 Q
  | 59, _ => sp_59 W B w0 Q
  | 60, _ => sp_60 W B w0 Q
  | 61, _ => sp_61 W B w0 Q
  | 62, _ => sp_62 W B w0 Q
  | 63, _ => sp_63 W B w0 Q
  | t + 64, h => by omega
theorem sp_last (W B : Nat → Nat) (w0 : World) (Q : Exit → Act → World → Prop) : Tri Tryz.prog E 80 spB (At gs 80 w0 (spF 64) ⟨spH W B, p63⟩) (Exit.then (fun _ _ => False) (Exit.inBlock 0 (Exit.then (At gs 80 w0 (spF 64) ⟨spH W B, p63⟩) Q))) :=
  Tri.lastV okA (k := 40) (fuel := 40) (l := v3) (ks := spK) gs_lt' (by kernel_rfl) (by unfold Alike; kernel_rfl) (by kernel_rfl) (by kernel_rfl) (by kernel_rfl) (fun _ _ h => h)
theorem spV_eq (t : Nat) (B : Nat → Nat) : spV t (wAt B t) B = Bool.rec (motive := fun _ => Nat) (wnext (wAt B t (t - 2)) (wAt B t (t - 7)) (wAt B t (t - 15)) (wAt B t (t - 16))) (be B t) (Nat.blt t 16) := rfl
theorem sp_loop (B : Nat → Nat) (w0 : World) (Q : Exit → Act → World → Prop) : Tri Tryz.prog E 80 (.blk 0 (.loop spB)) (At gs 80 w0 (spF 0) ⟨spH (wAt B 0) B, p63⟩) (Exit.then (At gs 80 w0 (spF 64) ⟨spH (wAt B 64) B, p63⟩) Q) :=
  Tri.blk (Tri.loop (I := fun t => At gs 80 w0 (spF t) ⟨spH (wAt B t) B, p63⟩) 64
    (fun t ht => by
      have h := sp_all (wAt B t) B w0 (Exit.inBlock 0 (Exit.then (At gs 80 w0 (spF 64) ⟨spH (wAt B 64) B, p63⟩) Q)) t ht
      rw [wAt_succ B t (spV_eq t B)] at h
      exact h)
    (sp_last (wAt B 64) B w0 Q))
/-- up to the loop -/
noncomputable def A00 : T V := frameOf [.slice p60 0 64 none 1] .H .nil
noncomputable def g0 (B : Nat → Nat) := xr machA 40 40 sp0 A00 ⟨bH B, p61⟩
theorem g0_x (B : Nat → Nat) : isX .nrm (g0 B) = true := by kernel_rfl
theorem g0_c (B : Nat → Nat) : Alike (rC (g0 B)) := by unfold Alike; kernel_rfl
noncomputable def g1 (B : Nat → Nat) := xr machA 40 40 sp1 (rA (g0 B)) (rS (g0 B))
theorem g1_x (B : Nat → Nat) : isX .nrm (g1 B) = true := by kernel_rfl
theorem g1_c (B : Nat → Nat) : Alike (rC (g1 B)) := by unfold Alike; kernel_rfl
noncomputable def spO (B : Nat → Nat) : V := .agg (w32 (wAt B 64) ix64)
theorem sp_shape : spI = .seq sp0 (.seq sp1 (.seq (.seq sp2 (.blk 0 (.loop spB))) spT)) := by kernel_rfl
theorem sp_tri (B : Nat → Nat) (w0 : World) : Tri Tryz.prog E 80 spI (At gs 80 w0 A00 ⟨bH B, p61⟩) (fun e a' w' => e = .ret ∧ ∃ A' σ', At gs 80 w0 A' σ' a' w' ∧ resF (resI f110) A' σ' = some [spO B]) := by
  rw [sp_shape]
  refine Tri.seq (J := At gs 80 w0 (rA (g0 B)) (rS (g0 B))) (Tri.runX okA (g0_x B) (g0_c B) (fun a w h => h)) ?_
  refine Tri.seq (J := At gs 80 w0 (rA (g1 B)) (rS (g1 B))) (Tri.runX okA (g1_x B) (g1_c B) (fun a w h => h)) ?_
  refine Tri.seq (J := At gs 80 w0 (spF 64) ⟨spH (wAt B 64) B, p63⟩) ?_ ?_
  · refine Tri.seq (J := At gs 80 w0 (spF 0) ⟨spH (wAt B 0) B, p63⟩) ?_ (sp_loop B w0 _)
    exact Tri.stepV okA (k := 40) (fuel := 40) (l := v3) (ks := spK) gs_lt' (by kernel_rfl) (by unfold Alike; kernel_rfl) (by kernel_rfl) (by kernel_rfl) (by kernel_rfl)
  · exact Tri.retV okA (k := 40) (fuel := 40) (by kernel_rfl) (by unfold Alike; kernel_rfl) (by kernel_rfl)
end Go.Proofs.YtcecdaeceipbnaaGreatDoor.Ir
