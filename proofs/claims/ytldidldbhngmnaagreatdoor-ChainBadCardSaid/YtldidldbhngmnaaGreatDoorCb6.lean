/-
  ChainBad: for all numbers the law answers true.
-/
import Derived.Test.YtldidldbhngmnaaGreatDoorCb5a
import Derived.Test.YtldidldbhngmnaaGreatDoorCb5b
import Derived.Test.YtldidldbhngmnaaGreatDoorCb5c
import Derived.Test.YtldidldbhngmnaaGreatDoorCb5d
import Derived.Test.YtldidldbhngmnaaGreatDoorCb5e
import Derived.Test.YtldidldbhngmnaaGreatDoorCb5f
import Derived.Test.YtldidldbhngmnaaGreatDoorCb5g
import Derived.Test.YtldidldbhngmnaaGreatDoorCb5h
import Derived.Test.YtldidldbhngmnaaGreatDoorCb5i
set_option linter.unusedVariables false
set_option linter.unusedSimpArgs false
set_option linter.unusedSectionVars false
namespace Go.Proofs.YtldidldbhngmnaaGreatDoor.Ir
set_option maxRecDepth 100000
open Go Go.Proofs.YtldidldbhngmnaaGreatDoor
theorem law_true (n a b : Int) : ∃ σ2,runFn (machR gR) 300 p3 [.int .i64 n,.int .i64 a,.int .i64 b] sg0 = some (.bool true,σ2) := by
 have h6 := em_lt a 6 (by decide)
 have hr := rlog_ok n
 have hk : Int.toNat (Int.emod a (.ofNat 6)) = 0 ∨ Int.toNat (Int.emod a (.ofNat 6)) = 1 ∨ Int.toNat (Int.emod a (.ofNat 6)) = 2 ∨ Int.toNat (Int.emod a (.ofNat 6)) = 3 ∨ Int.toNat (Int.emod a (.ofNat 6)) = 4 ∨ Int.toNat (Int.emod a (.ofNat 6)) = 5 := by omega
 rcases hk with ha | ha | ha | ha | ha | ha
 ·have hs := em_lt b 2 (by decide)
  have hs : Int.toNat (Int.emod b (.ofNat 2)) = 0 ∨ Int.toNat (Int.emod b (.ofNat 2)) = 1 := by omega
  rcases hs with hb | hb
  ·exact Hot.resO_run (path_0_0 gR n a b) hr (fixT_eq (tn_eq hb) (tn_eq ha))
  ·exact Hot.resO_run (path_0_1 gR n a b) hr (fixT_eq (tn_eq hb) (tn_eq ha))
 ·have hs := em_lt b 3 (by decide)
  have hs : Int.toNat (Int.emod b (.ofNat 3)) = 0 ∨ Int.toNat (Int.emod b (.ofNat 3)) = 1 ∨ Int.toNat (Int.emod b (.ofNat 3)) = 2 := by omega
  rcases hs with hb | hb | hb
  ·exact Hot.resO_run (path_1_0 gR n a b) hr (fixT_eq (tn_eq hb) (tn_eq ha))
  ·exact Hot.resO_run (path_1_1 gR n a b) hr (fixT_eq (tn_eq hb) (tn_eq ha))
  ·exact Hot.resO_run (path_1_2 gR n a b) hr (fixT_eq (tn_eq hb) (tn_eq ha))
 ·have hs := em_lt b 4 (by decide)
  have hs : Int.toNat (Int.emod b (.ofNat 4)) = 0 ∨ Int.toNat (Int.emod b (.ofNat 4)) = 1 ∨ Int.toNat (Int.emod b (.ofNat 4)) = 2 ∨ Int.toNat (Int.emod b (.ofNat 4)) = 3 := by omega
  rcases hs with hb | hb | hb | hb
  ·exact Hot.resO_run (path_2_0 gR n a b) hr (fixT_eq (tn_eq hb) (tn_eq ha))
  ·exact Hot.resO_run (path_2_1 gR n a b) hr (fixT_eq (tn_eq hb) (tn_eq ha))
  ·exact Hot.resO_run (path_2_2 gR n a b) hr (fixT_eq (tn_eq hb) (tn_eq ha))
  ·exact Hot.resO_run (path_2_3 gR n a b) hr (fixT_eq (tn_eq hb) (tn_eq ha))
 ·have hs := em_lt b 5 (by decide)
  have hs : Int.toNat (Int.emod b (.ofNat 5)) = 0 ∨ Int.toNat (Int.emod b (.ofNat 5)) = 1 ∨ Int.toNat (Int.emod b (.ofNat 5)) = 2 ∨ Int.toNat (Int.emod b (.ofNat 5)) = 3 ∨ Int.toNat (Int.emod b (.ofNat 5)) = 4 := by omega
  rcases hs with hb | hb | hb | hb | hb
  ·exact Hot.resO_run (path_3_0 gR n a b) hr (fixT_eq (tn_eq hb) (tn_eq ha))
  ·exact Hot.resO_run (path_3_1 gR n a b) hr (fixT_eq (tn_eq hb) (tn_eq ha))
  ·exact Hot.resO_run (path_3_2 gR n a b) hr (fixT_eq (tn_eq hb) (tn_eq ha))
  ·exact Hot.resO_run (path_3_3 gR n a b) hr (fixT_eq (tn_eq hb) (tn_eq ha))
  ·exact Hot.resO_run (path_3_4 gR n a b) hr (fixT_eq (tn_eq hb) (tn_eq ha))
 ·have hs := em_lt b 6 (by decide)
  have hs : Int.toNat (Int.emod b (.ofNat 6)) = 0 ∨ Int.toNat (Int.emod b (.ofNat 6)) = 1 ∨ Int.toNat (Int.emod b (.ofNat 6)) = 2 ∨ Int.toNat (Int.emod b (.ofNat 6)) = 3 ∨ Int.toNat (Int.emod b (.ofNat 6)) = 4 ∨ Int.toNat (Int.emod b (.ofNat 6)) = 5 := by omega
  rcases hs with hb | hb | hb | hb | hb | hb
  ·exact Hot.resO_run (path_4_0 gR n a b) hr (fixT_eq (tn_eq hb) (tn_eq ha))
  ·exact Hot.resO_run (path_4_1 gR n a b) hr (fixT_eq (tn_eq hb) (tn_eq ha))
  ·exact Hot.resO_run (path_4_2 gR n a b) hr (fixT_eq (tn_eq hb) (tn_eq ha))
  ·exact Hot.resO_run (path_4_3 gR n a b) hr (fixT_eq (tn_eq hb) (tn_eq ha))
  ·exact Hot.resO_run (path_4_4 gR n a b) hr (fixT_eq (tn_eq hb) (tn_eq ha))
  ·exact Hot.resO_run (path_4_5 gR n a b) hr (fixT_eq (tn_eq hb) (tn_eq ha))
 ·have hs := em_lt b 7 (by decide)
  have hs : Int.toNat (Int.emod b (.ofNat 7)) = 0 ∨ Int.toNat (Int.emod b (.ofNat 7)) = 1 ∨ Int.toNat (Int.emod b (.ofNat 7)) = 2 ∨ Int.toNat (Int.emod b (.ofNat 7)) = 3 ∨ Int.toNat (Int.emod b (.ofNat 7)) = 4 ∨ Int.toNat (Int.emod b (.ofNat 7)) = 5 ∨ Int.toNat (Int.emod b (.ofNat 7)) = 6 := by omega
  rcases hs with hb | hb | hb | hb | hb | hb | hb
  ·exact Hot.resO_run (path_5_0 gR n a b) hr (fixT_eq (tn_eq hb) (tn_eq ha))
  ·exact Hot.resO_run (path_5_1 gR n a b) hr (fixT_eq (tn_eq hb) (tn_eq ha))
  ·exact Hot.resO_run (path_5_2 gR n a b) hr (fixT_eq (tn_eq hb) (tn_eq ha))
  ·exact Hot.resO_run (path_5_3 gR n a b) hr (fixT_eq (tn_eq hb) (tn_eq ha))
  ·exact Hot.resO_run (path_5_4 gR n a b) hr (fixT_eq (tn_eq hb) (tn_eq ha))
  ·exact Hot.resO_run (path_5_5 gR n a b) hr (fixT_eq (tn_eq hb) (tn_eq ha))
  ·exact Hot.resO_run (path_5_6 gR n a b) hr (fixT_eq (tn_eq hb) (tn_eq ha))
end Go.Proofs.YtldidldbhngmnaaGreatDoor.Ir
