/-
  TrimChild: for all numbers the law answers true.
-/
import Derived.Test.YtknhohgnilamcaaGreatDoorTc4a
import Derived.Test.YtknhohgnilamcaaGreatDoorTc4b
import Derived.Test.YtknhohgnilamcaaGreatDoorTc4c
import Derived.Test.YtknhohgnilamcaaGreatDoorTc4d
namespace Go.Proofs.YtknhohgnilamcaaGreatDoor.Ir
set_option linter.unusedVariables false
set_option linter.unusedSimpArgs false
set_option maxRecDepth 100000
open Go Go.Proofs.YtknhohgnilamcaaGreatDoor
theorem law_true (a b c : Int) : ∃ σ2, runFn machC 300 p4 [.int .i64 a, .int .i64 b, .int .i64 c] sg0 = some (.bool true, σ2) := by
  have vF := F_lt a
  have vC := C_lt b
  have vO := O_lt c
  cases e_be1 : be1 a b with
  | true =>
    cases e_be2b : be2b b c with
    | true =>
      cases e_ta : ta a b c with
      | true =>
        cases e_tb : tb b c with
        | true =>
          exact Hot.resO_run (path14 a b c) (by simp [log14, e_be1, e_be2b, e_ta, e_tb]) (dgT_eq _)
        | false =>
          cases e_tc : tc a b c with
          | true =>
            exfalso
            simp only [be1_eq, be2b_eq, ta_eq, tb_eq, tc_eq, decide_eq_true_eq, decide_eq_false_iff_not] at e_be1 e_be2b e_ta e_tb e_tc
            omega
          | false =>
            cases e_te : te b c with
            | true =>
              exfalso
              simp only [be1_eq, be2b_eq, ta_eq, tb_eq, tc_eq, te_eq, decide_eq_true_eq, decide_eq_false_iff_not] at e_be1 e_be2b e_ta e_tb e_tc e_te
              omega
            | false =>
              exact Hot.resO_run (path7 a b c) (by simp [log7, e_be1, e_be2b, e_ta, e_tb, e_tc, e_te]) (dgT_eq _)
      | false =>
        cases e_tc : tc a b c with
        | true =>
          exfalso
          simp only [be1_eq, be2b_eq, ta_eq, tc_eq, decide_eq_true_eq, decide_eq_false_iff_not] at e_be1 e_be2b e_ta e_tc
          omega
        | false =>
          cases e_te : te b c with
          | true =>
            exfalso
            simp only [be1_eq, be2b_eq, ta_eq, tc_eq, te_eq, decide_eq_true_eq, decide_eq_false_iff_not] at e_be1 e_be2b e_ta e_tc e_te
            omega
          | false =>
            exact Hot.resO_run (path0 a b c) (by simp [log0, e_be1, e_be2b, e_ta, e_tc, e_te]) (dgT_eq _)
    | false =>
      cases e_ta : ta a b c with
      | true =>
        cases e_tb : tb b c with
        | true =>
          exfalso
          simp only [be1_eq, be2b_eq, ta_eq, tb_eq, decide_eq_true_eq, decide_eq_false_iff_not] at e_be1 e_be2b e_ta e_tb
          omega
        | false =>
          cases e_tc : tc a b c with
          | true =>
            exfalso
            simp only [be1_eq, be2b_eq, ta_eq, tb_eq, tc_eq, decide_eq_true_eq, decide_eq_false_iff_not] at e_be1 e_be2b e_ta e_tb e_tc
            omega
          | false =>
            cases e_te : te b c with
            | true =>
              cases e_tf : tf a b with
              | true =>
                exact Hot.resO_run (path24 a b c) (by simp [log24, e_be1, e_be2b, e_ta, e_tb, e_tc, e_te, e_tf]) (dgT_eq _)
              | false =>
                exfalso
                simp only [be1_eq, be2b_eq, ta_eq, tb_eq, tc_eq, te_eq, tf_eq, decide_eq_true_eq, decide_eq_false_iff_not] at e_be1 e_be2b e_ta e_tb e_tc e_te e_tf
                omega
            | false =>
              exfalso
              simp only [be1_eq, be2b_eq, ta_eq, tb_eq, tc_eq, te_eq, decide_eq_true_eq, decide_eq_false_iff_not] at e_be1 e_be2b e_ta e_tb e_tc e_te
              omega
      | false =>
        cases e_tc : tc a b c with
        | true =>
          cases e_td : td a b with
          | true =>
            exfalso
            simp only [be1_eq, be2b_eq, ta_eq, tc_eq, td_eq, decide_eq_true_eq, decide_eq_false_iff_not] at e_be1 e_be2b e_ta e_tc e_td
            omega
          | false =>
            cases e_te : te b c with
            | true =>
              cases e_tf : tf a b with
              | true =>
                exact Hot.resO_run (path20 a b c) (by simp [log20, e_be1, e_be2b, e_ta, e_tc, e_td, e_te, e_tf]) (dgT_eq _)
              | false =>
                exact Hot.resO_run (path19 a b c) (by simp [log19, e_be1, e_be2b, e_ta, e_tc, e_td, e_te, e_tf]) (dgT_eq _)
            | false =>
              exfalso
              simp only [be1_eq, be2b_eq, ta_eq, tc_eq, td_eq, te_eq, decide_eq_true_eq, decide_eq_false_iff_not] at e_be1 e_be2b e_ta e_tc e_td e_te
              omega
        | false =>
          cases e_te : te b c with
          | true =>
            cases e_tf : tf a b with
            | true =>
              exact Hot.resO_run (path17 a b c) (by simp [log17, e_be1, e_be2b, e_ta, e_tc, e_te, e_tf]) (dgT_eq _)
            | false =>
              exfalso
              simp only [be1_eq, be2b_eq, ta_eq, tc_eq, te_eq, tf_eq, decide_eq_true_eq, decide_eq_false_iff_not] at e_be1 e_be2b e_ta e_tc e_te e_tf
              omega
          | false =>
            exfalso
            simp only [be1_eq, be2b_eq, ta_eq, tc_eq, te_eq, decide_eq_true_eq, decide_eq_false_iff_not] at e_be1 e_be2b e_ta e_tc e_te
            omega
  | false =>
    cases e_be2a : be2a a b c with
    | true =>
      cases e_ta : ta a b c with
      | true =>
        cases e_tb : tb b c with
        | true =>
          exact Hot.resO_run (path44 a b c) (by simp [log44, e_be1, e_be2a, e_ta, e_tb]) (dgT_eq _)
        | false =>
          exfalso
          simp only [be1_eq, be2a_eq, ta_eq, tb_eq, decide_eq_true_eq, decide_eq_false_iff_not] at e_be1 e_be2a e_ta e_tb
          omega
      | false =>
        cases e_tc : tc a b c with
        | true =>
          exfalso
          simp only [be1_eq, be2a_eq, ta_eq, tc_eq, decide_eq_true_eq, decide_eq_false_iff_not] at e_be1 e_be2a e_ta e_tc
          omega
        | false =>
          cases e_te : te b c with
          | true =>
            exfalso
            simp only [be1_eq, be2a_eq, ta_eq, tc_eq, te_eq, decide_eq_true_eq, decide_eq_false_iff_not] at e_be1 e_be2a e_ta e_tc e_te
            omega
          | false =>
            exact Hot.resO_run (path30 a b c) (by simp [log30, e_be1, e_be2a, e_ta, e_tc, e_te]) (dgT_eq _)
    | false =>
      cases e_ta : ta a b c with
      | true =>
        exfalso
        simp only [be1_eq, be2a_eq, ta_eq, decide_eq_true_eq, decide_eq_false_iff_not] at e_be1 e_be2a e_ta
        omega
      | false =>
        cases e_tc : tc a b c with
        | true =>
          cases e_td : td a b with
          | true =>
            exact Hot.resO_run (path51 a b c) (by simp [log51, e_be1, e_be2a, e_ta, e_tc, e_td]) (dgT_eq _)
          | false =>
            exfalso
            simp only [be1_eq, be2a_eq, ta_eq, tc_eq, td_eq, decide_eq_true_eq, decide_eq_false_iff_not] at e_be1 e_be2a e_ta e_tc e_td
            omega
        | false =>
          exfalso
          simp only [be1_eq, be2a_eq, ta_eq, tc_eq, decide_eq_true_eq, decide_eq_false_iff_not] at e_be1 e_be2a e_ta e_tc
          omega
end Go.Proofs.YtknhohgnilamcaaGreatDoor.Ir
