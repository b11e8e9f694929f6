/-
  BuildChild: for all numbers the law answers true.
-/
import Derived.Test.YtknhohgnilamcaaGreatDoorBc4a
import Derived.Test.YtknhohgnilamcaaGreatDoorBc4b
import Derived.Test.YtknhohgnilamcaaGreatDoorBc4c
import Derived.Test.YtknhohgnilamcaaGreatDoorBc4d
namespace Go.Proofs.YtknhohgnilamcaaGreatDoor.Ir
set_option linter.unusedVariables false
set_option linter.unusedSimpArgs false
set_option maxRecDepth 100000
open Go Go.Proofs.YtknhohgnilamcaaGreatDoor
theorem law_true (a b c : Int) (t : Bool) : ∃ σ2, runFn machC 300 p5 [.int .i64 a, .int .i64 b, .int .i64 c, .bool t] sg0 = some (.bool true, σ2) := by
  have vF := F_lt a
  have vC := C_lt b
  have vO := C_lt c
  cases t with
  | false =>
    cases e_be1 : be1 a b with
    | true =>
      cases e_be2b : be2b a b c with
      | true =>
        cases e_ee : ee a b c with
        | true =>
          exfalso
          simp only [be1_eq, be2b_eq, ee_eq, decide_eq_true_eq, decide_eq_false_iff_not] at e_be1 e_be2b e_ee
          omega
        | false =>
          cases e_gg : gg a b c with
          | true =>
            exact Hot.resO_run (path1 a b c) (by simp [log1, e_be1, e_be2b, e_ee, e_gg]) (dgT_eq _)
          | false =>
            exfalso
            simp only [be1_eq, be2b_eq, ee_eq, gg_eq, decide_eq_true_eq, decide_eq_false_iff_not] at e_be1 e_be2b e_ee e_gg
            omega
      | false =>
        cases e_ee : ee a b c with
        | true =>
          exact Hot.resO_run (path3 a b c) (by simp [log3, e_be1, e_be2b, e_ee]) (dgT_eq _)
        | false =>
          cases e_gg : gg a b c with
          | true =>
            exfalso
            simp only [be1_eq, be2b_eq, ee_eq, gg_eq, decide_eq_true_eq, decide_eq_false_iff_not] at e_be1 e_be2b e_ee e_gg
            omega
          | false =>
            exact Hot.resO_run (path5 a b c) (by simp [log5, e_be1, e_be2b, e_ee, e_gg]) (dgT_eq _)
    | false =>
      cases e_be2a : be2a a c with
      | true =>
        cases e_ee : ee a b c with
        | true =>
          exfalso
          simp only [be1_eq, be2a_eq, ee_eq, decide_eq_true_eq, decide_eq_false_iff_not] at e_be1 e_be2a e_ee
          omega
        | false =>
          cases e_gg : gg a b c with
          | true =>
            exact Hot.resO_run (path7 a b c) (by simp [log7, e_be1, e_be2a, e_ee, e_gg]) (dgT_eq _)
          | false =>
            exfalso
            simp only [be1_eq, be2a_eq, ee_eq, gg_eq, decide_eq_true_eq, decide_eq_false_iff_not] at e_be1 e_be2a e_ee e_gg
            omega
      | false =>
        cases e_be3 : be3 b c with
        | true =>
          cases e_ee : ee a b c with
          | true =>
            exact Hot.resO_run (path9 a b c) (by simp [log9, e_be1, e_be2a, e_be3, e_ee]) (dgT_eq _)
          | false =>
            cases e_gg : gg a b c with
            | true =>
              exfalso
              simp only [be1_eq, be2a_eq, be3_eq, ee_eq, gg_eq, decide_eq_true_eq, decide_eq_false_iff_not] at e_be1 e_be2a e_be3 e_ee e_gg
              omega
            | false =>
              exact Hot.resO_run (path11 a b c) (by simp [log11, e_be1, e_be2a, e_be3, e_ee, e_gg]) (dgT_eq _)
        | false =>
          cases e_ee : ee a b c with
          | true =>
            exact Hot.resO_run (path12 a b c) (by simp [log12, e_be1, e_be2a, e_be3, e_ee]) (dgT_eq _)
          | false =>
            cases e_gg : gg a b c with
            | true =>
              exfalso
              simp only [be1_eq, be2a_eq, be3_eq, ee_eq, gg_eq, decide_eq_true_eq, decide_eq_false_iff_not] at e_be1 e_be2a e_be3 e_ee e_gg
              omega
            | false =>
              exact Hot.resO_run (path14 a b c) (by simp [log14, e_be1, e_be2a, e_be3, e_ee, e_gg]) (dgT_eq _)
  | true =>
    cases e_be2a : be2a a c with
    | true =>
      cases e_ef : ef a c with
      | true =>
        exfalso
        simp only [be2a_eq, ef_eq, decide_eq_true_eq, decide_eq_false_iff_not] at e_be2a e_ef
        omega
      | false =>
        cases e_gf : gf a c with
        | true =>
          exact Hot.resO_run (path16 a b c) (by simp [log16, e_be2a, e_ef, e_gf]) (dgT_eq _)
        | false =>
          exfalso
          simp only [be2a_eq, ef_eq, gf_eq, decide_eq_true_eq, decide_eq_false_iff_not] at e_be2a e_ef e_gf
          omega
    | false =>
      cases e_ef : ef a c with
      | true =>
        exact Hot.resO_run (path18 a b c) (by simp [log18, e_be2a, e_ef]) (dgT_eq _)
      | false =>
        cases e_gf : gf a c with
        | true =>
          exfalso
          simp only [be2a_eq, ef_eq, gf_eq, decide_eq_true_eq, decide_eq_false_iff_not] at e_be2a e_ef e_gf
          omega
        | false =>
          exact Hot.resO_run (path20 a b c) (by simp [log20, e_be2a, e_ef, e_gf]) (dgT_eq _)
end Go.Proofs.YtknhohgnilamcaaGreatDoor.Ir
