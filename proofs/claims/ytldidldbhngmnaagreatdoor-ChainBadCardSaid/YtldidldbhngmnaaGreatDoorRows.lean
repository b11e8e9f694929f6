/-
  NARROWER THAN 'FOR EVERY INPUT', by the rows' own cells (each row's printed sentence says how): ChainBad: laid · ChainMoves: laid.
  DERIVED. THE GIVEN ROWS OF THIS SEAT. 2 by the template 'for every input the law returns true; each argument reads behind the call as it read before'; 0 by the template 'total and deterministic' (their statements: YtldidldbhngmnaaGreatDoorTotals.lean).
  GIVEN WITH THE SEED: the statements are not yours to turn. If you find one false, say at which input.
  Laid BY PROGRAM, IN A SANDBOX (cutbox-rows.mjs): the forced cells as the released guide's own fill.sh prints them over the translation 02bf393ab133f4f2… (all of the seat's roots in one cut). By AI agents, Wed Nov 11 2026. No macro, syntax, notation, axiom, sorry.
-/
import Derived.Test.YtldidldbhngmnaaGreatDoorChecked
import GoSem.Claim
import GoSem.ClaimJoined
import GoSem.ClaimMapViews
import Derived.JoinedTies
import Derived.KernelRfl
namespace Go.Proofs.YtldidldbhngmnaaGreatDoor
/- THE CELL 'sum', in the pinned program and in every row, IS THE sha256 OF THE DUMP (.gsa) THAT YtldidldbhngmnaaGreatDoorProg.lean LOADS. Nothing in Lean hashes anything: it is a label: what it is worth is what the hold of that sum in a sandbox is worth. -/
noncomputable def Tryz.pinned : Pinned := { name := "ytldidldbhngmnaagreatdoor", sum := "02bf393ab133f4f2f5b1d655f8d5f27be31b47bb983ef09152589f27ad2849b3", checked := Tryz.checked }
namespace Rows
def none {H : Type} : Left H := { results := [], args := [] }

/- WHAT THE LISTED PACKAGE-LEVEL VARIABLES READ AS WHEN THE CALL BEGINS. Each datum BY PROGRAM (the guide's laid-datum.mjs) off the statement by which the dump's own 'gosem.cut.vars' lays the variable. In a bare row this is a premise. The card (YtldidldbhngmnaaGreatDoorCards.lean) ties it to the program's text. -/
def laid_sargasso_api_ErrEnd {H : Type} : DataW H := .iface "*errors.errorString" (.ptr (.agg [.lit (.string [105, 116, 32, 101, 110, 100, 115, 32, 116, 111, 111, 32, 101, 97, 114, 108, 121])]))
def laid_sargasso_api_ErrShape {H : Type} : DataW H := .iface "*errors.errorString" (.ptr (.agg [.lit (.string [110, 111, 116, 32, 97, 115, 32, 105, 116, 32, 104, 97, 115, 32, 116, 111, 32, 98, 101])]))
def laid_sargasso_api_ErrLong {H : Type} : DataW H := .iface "*errors.errorString" (.ptr (.agg [.lit (.string [116, 111, 111, 32, 108, 111, 110, 103])]))
def laid_sargasso_api_ErrMany {H : Type} : DataW H := .iface "*errors.errorString" (.ptr (.agg [.lit (.string [116, 111, 111, 32, 109, 97, 110, 121, 44, 32, 111, 114, 32, 116, 111, 111, 32, 102, 101, 119])]))
def laid_sargasso_api_ErrValue {H : Type} : DataW H := .iface "*errors.errorString" (.ptr (.agg [.lit (.string [97, 110, 32, 97, 109, 111, 117, 110, 116, 32, 116, 104, 97, 116, 32, 99, 97, 110, 39, 116, 32, 98, 101])]))
def laid_sargasso_api_ErrTwice {H : Type} : DataW H := .iface "*errors.errorString" (.ptr (.agg [.lit (.string [111, 110, 101, 32, 116, 104, 105, 110, 103, 32, 116, 119, 105, 99, 101])]))
def laid_sargasso_api_ErrBase {H : Type} : DataW H := .iface "*errors.errorString" (.ptr (.agg [.lit (.string [110, 111, 32, 102, 105, 114, 115, 116, 32, 116, 114, 97, 110, 115, 97, 99, 116, 105, 111, 110, 32, 119, 104, 101, 114, 101, 32, 116, 104, 101, 114, 101, 32, 104, 97, 115, 32, 116, 111, 32, 98, 101, 32, 111, 110, 101, 44, 32, 111, 114, 32, 111, 110, 101, 32, 119, 104, 101, 114, 101, 32, 116, 104, 101, 114, 101, 32, 109, 97, 121, 32, 98, 101, 32, 110, 111, 110, 101])]))
def laid_sargasso_api_ErrRoot {H : Type} : DataW H := .iface "*errors.errorString" (.ptr (.agg [.lit (.string [97, 32, 114, 111, 111, 116, 32, 116, 104, 97, 116, 32, 100, 111, 101, 115, 32, 110, 111, 116, 32, 102, 105, 116])]))
def laid_sargasso_api_ErrKnown {H : Type} : DataW H := .iface "*errors.errorString" (.ptr (.agg [.lit (.string [107, 110, 111, 119, 110, 32, 97, 108, 114, 101, 97, 100, 121])]))
def laid_sargasso_api_ErrParent {H : Type} : DataW H := .iface "*errors.errorString" (.ptr (.agg [.lit (.string [110, 111, 32, 115, 117, 99, 104, 32, 112, 97, 114, 101, 110, 116])]))
def laid_sargasso_api_ErrInvalid {H : Type} : DataW H := .iface "*errors.errorString" (.ptr (.agg [.lit (.string [98, 101, 104, 105, 110, 100, 32, 119, 104, 97, 116, 32, 105, 115, 32, 110, 111, 116, 32, 118, 97, 108, 105, 100])]))
def laid_sargasso_api_ErrTime {H : Type} : DataW H := .iface "*errors.errorString" (.ptr (.agg [.lit (.string [97, 32, 116, 105, 109, 101, 32, 116, 104, 97, 116, 32, 105, 115, 32, 116, 111, 111, 32, 101, 97, 114, 108, 121])]))
def laid_sargasso_api_ErrMissing {H : Type} : DataW H := .iface "*errors.errorString" (.ptr (.agg [.lit (.string [97, 32, 99, 111, 105, 110, 32, 116, 104, 97, 116, 32, 105, 115, 32, 110, 111, 116, 32, 116, 104, 101, 114, 101])]))
def laid_sargasso_api_ErrKey {H : Type} : DataW H := .iface "*errors.errorString" (.ptr (.agg [.lit (.string [97, 32, 107, 101, 121, 32, 116, 104, 97, 116, 32, 100, 111, 101, 115, 32, 110, 111, 116, 32, 102, 105, 116])]))
def laid_sargasso_api_ErrYoung {H : Type} : DataW H := .iface "*errors.errorString" (.ptr (.agg [.lit (.string [97, 32, 99, 111, 105, 110, 32, 116, 104, 97, 116, 32, 105, 115, 32, 116, 111, 111, 32, 121, 111, 117, 110, 103])]))
def laid_sargasso_api_ErrEarly {H : Type} : DataW H := .iface "*errors.errorString" (.ptr (.agg [.lit (.string [116, 111, 111, 32, 101, 97, 114, 108, 121, 32, 116, 111, 32, 98, 101, 32, 116, 97, 107, 101, 110])]))
def laid_sargasso_api_ErrLess {H : Type} : DataW H := .iface "*errors.errorString" (.ptr (.agg [.lit (.string [108, 101, 115, 115, 32, 99, 111, 109, 101, 115, 32, 105, 110, 32, 116, 104, 97, 110, 32, 103, 111, 101, 115, 32, 111, 117, 116])]))
def laid_sargasso_api_ErrReward {H : Type} : DataW H := .iface "*errors.errorString" (.ptr (.agg [.lit (.string [109, 111, 114, 101, 32, 116, 104, 97, 110, 32, 116, 104, 101, 32, 114, 101, 119, 97, 114, 100])]))
def laid_sargasso_api_ErrClash {H : Type} : DataW H := .iface "*errors.errorString" (.ptr (.agg [.lit (.string [97, 32, 99, 111, 105, 110, 32, 116, 104, 97, 116, 32, 105, 115, 32, 115, 112, 101, 110, 116, 32, 105, 110, 32, 116, 104, 101, 32, 112, 111, 111, 108])]))
def laid_sargasso_api_ErrLimit {H : Type} : DataW H := .iface "*errors.errorString" (.ptr (.agg [.lit (.string [116, 111, 111, 32, 109, 97, 110, 121, 32, 116, 104, 97, 116, 32, 104, 97, 110, 103, 32, 116, 111, 103, 101, 116, 104, 101, 114])]))
def laid_sargasso_api_ErrFull {H : Type} : DataW H := .iface "*errors.errorString" (.ptr (.agg [.lit (.string [116, 104, 101, 114, 101, 32, 105, 115, 32, 110, 111, 32, 114, 111, 111, 109])]))
def laid_sargasso_api_ErrRange {H : Type} : DataW H := .iface "*errors.errorString" (.ptr (.agg [.lit (.string [97, 32, 110, 117, 109, 98, 101, 114, 32, 111, 117, 116, 32, 111, 102, 32, 105, 116, 115, 32, 114, 97, 110, 103, 101])]))
def laid_sargasso_api_ErrNone {H : Type} : DataW H := .iface "*errors.errorString" (.ptr (.agg [.lit (.string [116, 104, 101, 114, 101, 32, 105, 115, 32, 110, 111, 110, 101])]))
def laid_sargasso_api_ErrWord {H : Type} : DataW H := .iface "*errors.errorString" (.ptr (.agg [.lit (.string [110, 111, 32, 115, 117, 99, 104, 32, 119, 111, 114, 100])]))
def laid_sargasso_api_ErrNumber {H : Type} : DataW H := .iface "*errors.errorString" (.ptr (.agg [.lit (.string [110, 111, 116, 32, 97, 32, 110, 117, 109, 98, 101, 114])]))

/-- 'sargassolaw17.ChainBad': WHATEVER THE INPUT: true; the input reads as it did. -/
def chainBadSpec : ChangeSpec := { name := "chainBad", fn := fun _ => fun
  | [d1, d2, d3] => { results := [.lit (.bool true)], args := [d1, d2, d3] }
  | _ => none }
def chainBadRow : OpenClaim := { program := "ytldidldbhngmnaagreatdoor", sum := "02bf393ab133f4f2f5b1d655f8d5f27be31b47bb983ef09152589f27ad2849b3", func := "sargasso/sargassolaw17.ChainBad", spec := "chainBad", inPlace := ["internal/bytealg.Compare", "maps.clone"], unfollowed := true, recurses := true, named := ["sargasso/api.ErrRange", "sargasso/api.ErrInvalid", "sargasso/api.ErrShape", "sargasso/api.ErrEnd", "sargasso/api.ErrMany", "sargasso/api.ErrLong", "sargasso/api.ErrTwice", "sargasso/api.ErrRoot", "sargasso/api.ErrBase", "sargasso/api.ErrKey", "sargasso/api.ErrValue", "sargasso/api.ErrKnown", "sargasso/api.ErrParent", "sargasso/api.ErrTime", "sargasso/api.ErrFull", "sargasso/api.ErrMissing", "sargasso/api.ErrReward", "sargasso/api.ErrYoung", "sargasso/api.ErrEarly", "sargasso/api.ErrLess", "sargasso/api.ErrClash", "sargasso/api.ErrLimit", "sargasso/api.ErrNone", "sargasso/api.ErrWord", "sargasso/api.ErrNumber"], plainKeys := false, apart := false, laid := [("sargasso/api.ErrEnd", laid_sargasso_api_ErrEnd), ("sargasso/api.ErrShape", laid_sargasso_api_ErrShape), ("sargasso/api.ErrLong", laid_sargasso_api_ErrLong), ("sargasso/api.ErrMany", laid_sargasso_api_ErrMany), ("sargasso/api.ErrValue", laid_sargasso_api_ErrValue), ("sargasso/api.ErrTwice", laid_sargasso_api_ErrTwice), ("sargasso/api.ErrBase", laid_sargasso_api_ErrBase), ("sargasso/api.ErrRoot", laid_sargasso_api_ErrRoot), ("sargasso/api.ErrKnown", laid_sargasso_api_ErrKnown), ("sargasso/api.ErrParent", laid_sargasso_api_ErrParent), ("sargasso/api.ErrInvalid", laid_sargasso_api_ErrInvalid), ("sargasso/api.ErrTime", laid_sargasso_api_ErrTime), ("sargasso/api.ErrMissing", laid_sargasso_api_ErrMissing), ("sargasso/api.ErrKey", laid_sargasso_api_ErrKey), ("sargasso/api.ErrYoung", laid_sargasso_api_ErrYoung), ("sargasso/api.ErrEarly", laid_sargasso_api_ErrEarly), ("sargasso/api.ErrLess", laid_sargasso_api_ErrLess), ("sargasso/api.ErrReward", laid_sargasso_api_ErrReward), ("sargasso/api.ErrClash", laid_sargasso_api_ErrClash), ("sargasso/api.ErrLimit", laid_sargasso_api_ErrLimit), ("sargasso/api.ErrFull", laid_sargasso_api_ErrFull), ("sargasso/api.ErrRange", laid_sargasso_api_ErrRange), ("sargasso/api.ErrNone", laid_sargasso_api_ErrNone), ("sargasso/api.ErrWord", laid_sargasso_api_ErrWord), ("sargasso/api.ErrNumber", laid_sargasso_api_ErrNumber)] }
def ChainBadSaid : Prop := chainBadRow.holds Tryz.pinned (OpenSpec.ofChange chainBadSpec)

/-- ITS FALSE NEIGHBOUR: 'it returns false'. Refute it at one input. -/
def chainBadWrong : ChangeSpec := { name := "chainBad", fn := fun _ => fun
  | [d1, d2, d3] => { results := [.lit (.bool false)], args := [d1, d2, d3] }
  | _ => none }
def ChainBadWrongFalsely : Prop := chainBadRow.holds Tryz.pinned (OpenSpec.ofChange chainBadWrong)

/-- 'sargassolaw17.ChainMoves': WHATEVER THE INPUT: true; the input reads as it did. -/
def chainMovesSpec : ChangeSpec := { name := "chainMoves", fn := fun _ => fun
  | [d1, d2, d3, d4] => { results := [.lit (.bool true)], args := [d1, d2, d3, d4] }
  | _ => none }
def chainMovesRow : OpenClaim := { program := "ytldidldbhngmnaagreatdoor", sum := "02bf393ab133f4f2f5b1d655f8d5f27be31b47bb983ef09152589f27ad2849b3", func := "sargasso/sargassolaw17.ChainMoves", spec := "chainMoves", inPlace := ["internal/bytealg.Compare", "maps.clone"], unfollowed := true, recurses := true, named := ["sargasso/api.ErrRange", "sargasso/api.ErrInvalid", "sargasso/api.ErrShape", "sargasso/api.ErrEnd", "sargasso/api.ErrMany", "sargasso/api.ErrLong", "sargasso/api.ErrTwice", "sargasso/api.ErrRoot", "sargasso/api.ErrBase", "sargasso/api.ErrKey", "sargasso/api.ErrValue", "sargasso/api.ErrKnown", "sargasso/api.ErrParent", "sargasso/api.ErrTime", "sargasso/api.ErrFull", "sargasso/api.ErrMissing", "sargasso/api.ErrReward", "sargasso/api.ErrYoung", "sargasso/api.ErrEarly", "sargasso/api.ErrLess"], plainKeys := false, apart := false, laid := [("sargasso/api.ErrEnd", laid_sargasso_api_ErrEnd), ("sargasso/api.ErrShape", laid_sargasso_api_ErrShape), ("sargasso/api.ErrLong", laid_sargasso_api_ErrLong), ("sargasso/api.ErrMany", laid_sargasso_api_ErrMany), ("sargasso/api.ErrValue", laid_sargasso_api_ErrValue), ("sargasso/api.ErrTwice", laid_sargasso_api_ErrTwice), ("sargasso/api.ErrBase", laid_sargasso_api_ErrBase), ("sargasso/api.ErrRoot", laid_sargasso_api_ErrRoot), ("sargasso/api.ErrKnown", laid_sargasso_api_ErrKnown), ("sargasso/api.ErrParent", laid_sargasso_api_ErrParent), ("sargasso/api.ErrInvalid", laid_sargasso_api_ErrInvalid), ("sargasso/api.ErrTime", laid_sargasso_api_ErrTime), ("sargasso/api.ErrMissing", laid_sargasso_api_ErrMissing), ("sargasso/api.ErrKey", laid_sargasso_api_ErrKey), ("sargasso/api.ErrYoung", laid_sargasso_api_ErrYoung), ("sargasso/api.ErrEarly", laid_sargasso_api_ErrEarly), ("sargasso/api.ErrLess", laid_sargasso_api_ErrLess), ("sargasso/api.ErrReward", laid_sargasso_api_ErrReward), ("sargasso/api.ErrFull", laid_sargasso_api_ErrFull), ("sargasso/api.ErrRange", laid_sargasso_api_ErrRange)] }
def ChainMovesSaid : Prop := chainMovesRow.holds Tryz.pinned (OpenSpec.ofChange chainMovesSpec)

/-- ITS FALSE NEIGHBOUR: 'it returns false'. Refute it at one input. -/
def chainMovesWrong : ChangeSpec := { name := "chainMoves", fn := fun _ => fun
  | [d1, d2, d3, d4] => { results := [.lit (.bool false)], args := [d1, d2, d3, d4] }
  | _ => none }
def ChainMovesWrongFalsely : Prop := chainMovesRow.holds Tryz.pinned (OpenSpec.ofChange chainMovesWrong)

/- THE SECOND FORM. 'bulk': how many values and letters a reading holds, each counted each time it is reached (what is shared counts as often as it is met; a slice's spare places count too). A statement '..UptoSaid' is the law's where the arguments, and the package variables that the reading takes, are together of bulk at most 1048576: NARROWER than '..Said'. Prove '..Said' where nothing that the law and all that it calls make is longer than what came in: it says more and counts as full. Else prove '..UptoSaid'. A law counts once. -/
mutual
def uptoBulk {H : Type} : DataW H → Nat
  | .lit (.string bytes) => bytes.length + 1
  | .lit _ => 1
  | .nil => 1
  | .ptr d => uptoBulk d + 1
  | .slice elems spare => uptoBulkAll elems + uptoBulkAll spare + 1
  | .agg parts => uptoBulkAll parts + 1
  | .iface _ d => uptoBulk d + 1
  | .map entries => uptoBulkEntries entries + 1
  | .held _ => 1
def uptoBulkAll {H : Type} : List (DataW H) → Nat
  | [] => 0
  | d :: r => uptoBulk d + uptoBulkAll r
def uptoBulkEntries {H : Type} : List (Lit × DataW H) → Nat
  | [] => 0
  | x :: r => uptoBulkEntry x + uptoBulkEntries r
def uptoBulkEntry {H : Type} : Lit × DataW H → Nat
  | (.string bytes, d) => bytes.length + uptoBulk d + 1
  | (_, d) => uptoBulk d + 1
 end
def uptoSmall : (H : Type) → List (DataW H) → Bool := fun _ ds => decide (uptoBulkAll ds ≤ 1048576)
def OpenSpec.upto (s : _root_.Go.ChangeSpec) : _root_.Go.OpenSpec := { _root_.Go.OpenSpec.ofChange s with cond := some uptoSmall }

/-- 'sargassolaw17.ChainBad', WHERE WHAT IT READS IS OF BULK AT MOST 1048576: true; the input reads as it did. -/
def chainBadUptoRow : OpenClaim := { program := "ytldidldbhngmnaagreatdoor", sum := "02bf393ab133f4f2f5b1d655f8d5f27be31b47bb983ef09152589f27ad2849b3", func := "sargasso/sargassolaw17.ChainBad", spec := "chainBad", inPlace := ["internal/bytealg.Compare", "maps.clone"], unfollowed := true, recurses := true, named := ["sargasso/api.ErrRange", "sargasso/api.ErrInvalid", "sargasso/api.ErrShape", "sargasso/api.ErrEnd", "sargasso/api.ErrMany", "sargasso/api.ErrLong", "sargasso/api.ErrTwice", "sargasso/api.ErrRoot", "sargasso/api.ErrBase", "sargasso/api.ErrKey", "sargasso/api.ErrValue", "sargasso/api.ErrKnown", "sargasso/api.ErrParent", "sargasso/api.ErrTime", "sargasso/api.ErrFull", "sargasso/api.ErrMissing", "sargasso/api.ErrReward", "sargasso/api.ErrYoung", "sargasso/api.ErrEarly", "sargasso/api.ErrLess", "sargasso/api.ErrClash", "sargasso/api.ErrLimit", "sargasso/api.ErrNone", "sargasso/api.ErrWord", "sargasso/api.ErrNumber"], plainKeys := false, apart := false, laid := [("sargasso/api.ErrEnd", laid_sargasso_api_ErrEnd), ("sargasso/api.ErrShape", laid_sargasso_api_ErrShape), ("sargasso/api.ErrLong", laid_sargasso_api_ErrLong), ("sargasso/api.ErrMany", laid_sargasso_api_ErrMany), ("sargasso/api.ErrValue", laid_sargasso_api_ErrValue), ("sargasso/api.ErrTwice", laid_sargasso_api_ErrTwice), ("sargasso/api.ErrBase", laid_sargasso_api_ErrBase), ("sargasso/api.ErrRoot", laid_sargasso_api_ErrRoot), ("sargasso/api.ErrKnown", laid_sargasso_api_ErrKnown), ("sargasso/api.ErrParent", laid_sargasso_api_ErrParent), ("sargasso/api.ErrInvalid", laid_sargasso_api_ErrInvalid), ("sargasso/api.ErrTime", laid_sargasso_api_ErrTime), ("sargasso/api.ErrMissing", laid_sargasso_api_ErrMissing), ("sargasso/api.ErrKey", laid_sargasso_api_ErrKey), ("sargasso/api.ErrYoung", laid_sargasso_api_ErrYoung), ("sargasso/api.ErrEarly", laid_sargasso_api_ErrEarly), ("sargasso/api.ErrLess", laid_sargasso_api_ErrLess), ("sargasso/api.ErrReward", laid_sargasso_api_ErrReward), ("sargasso/api.ErrClash", laid_sargasso_api_ErrClash), ("sargasso/api.ErrLimit", laid_sargasso_api_ErrLimit), ("sargasso/api.ErrFull", laid_sargasso_api_ErrFull), ("sargasso/api.ErrRange", laid_sargasso_api_ErrRange), ("sargasso/api.ErrNone", laid_sargasso_api_ErrNone), ("sargasso/api.ErrWord", laid_sargasso_api_ErrWord), ("sargasso/api.ErrNumber", laid_sargasso_api_ErrNumber)], narrowed := true }
def ChainBadUptoSaid : Prop := chainBadUptoRow.holds Tryz.pinned (OpenSpec.upto chainBadSpec)

/-- 'sargassolaw17.ChainMoves', WHERE WHAT IT READS IS OF BULK AT MOST 1048576: true; the input reads as it did. -/
def chainMovesUptoRow : OpenClaim := { program := "ytldidldbhngmnaagreatdoor", sum := "02bf393ab133f4f2f5b1d655f8d5f27be31b47bb983ef09152589f27ad2849b3", func := "sargasso/sargassolaw17.ChainMoves", spec := "chainMoves", inPlace := ["internal/bytealg.Compare", "maps.clone"], unfollowed := true, recurses := true, named := ["sargasso/api.ErrRange", "sargasso/api.ErrInvalid", "sargasso/api.ErrShape", "sargasso/api.ErrEnd", "sargasso/api.ErrMany", "sargasso/api.ErrLong", "sargasso/api.ErrTwice", "sargasso/api.ErrRoot", "sargasso/api.ErrBase", "sargasso/api.ErrKey", "sargasso/api.ErrValue", "sargasso/api.ErrKnown", "sargasso/api.ErrParent", "sargasso/api.ErrTime", "sargasso/api.ErrFull", "sargasso/api.ErrMissing", "sargasso/api.ErrReward", "sargasso/api.ErrYoung", "sargasso/api.ErrEarly", "sargasso/api.ErrLess"], plainKeys := false, apart := false, laid := [("sargasso/api.ErrEnd", laid_sargasso_api_ErrEnd), ("sargasso/api.ErrShape", laid_sargasso_api_ErrShape), ("sargasso/api.ErrLong", laid_sargasso_api_ErrLong), ("sargasso/api.ErrMany", laid_sargasso_api_ErrMany), ("sargasso/api.ErrValue", laid_sargasso_api_ErrValue), ("sargasso/api.ErrTwice", laid_sargasso_api_ErrTwice), ("sargasso/api.ErrBase", laid_sargasso_api_ErrBase), ("sargasso/api.ErrRoot", laid_sargasso_api_ErrRoot), ("sargasso/api.ErrKnown", laid_sargasso_api_ErrKnown), ("sargasso/api.ErrParent", laid_sargasso_api_ErrParent), ("sargasso/api.ErrInvalid", laid_sargasso_api_ErrInvalid), ("sargasso/api.ErrTime", laid_sargasso_api_ErrTime), ("sargasso/api.ErrMissing", laid_sargasso_api_ErrMissing), ("sargasso/api.ErrKey", laid_sargasso_api_ErrKey), ("sargasso/api.ErrYoung", laid_sargasso_api_ErrYoung), ("sargasso/api.ErrEarly", laid_sargasso_api_ErrEarly), ("sargasso/api.ErrLess", laid_sargasso_api_ErrLess), ("sargasso/api.ErrReward", laid_sargasso_api_ErrReward), ("sargasso/api.ErrFull", laid_sargasso_api_ErrFull), ("sargasso/api.ErrRange", laid_sargasso_api_ErrRange)], narrowed := true }
def ChainMovesUptoSaid : Prop := chainMovesUptoRow.holds Tryz.pinned (OpenSpec.upto chainMovesSpec)

end Rows
end Go.Proofs.YtldidldbhngmnaaGreatDoor
