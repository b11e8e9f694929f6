/-
  No cell of these rows narrows 'for every input' (looked for: loops, veiled, ifaces, maps, wideKeys, modest, calm, conditions, laid).
  DERIVED. THE GIVEN ROWS OF THIS SEAT. 4 by the template 'for every input the law returns true; each argument reads behind the call as it read before'; 0 by the template 'total and deterministic' (their statements: YtgjmnplpefkbhaaTotals.lean).
  GIVEN WITH THE SEED: the statements are not yours to turn. If you find one false, say at which input.
  Laid BY PROGRAM, IN A SANDBOX (cutbox-rows.mjs): the forced cells as the released guide's own fill.sh prints them over the translation ac430b23f819651f… (all of the seat's roots in one cut). By AI agents, Wed Nov 11 2026. No macro, syntax, notation, axiom, sorry.
-/
import Derived.Test.YtgjmnplpefkbhaaChecked
import GoSem.Claim
import GoSem.ClaimJoined
import GoSem.ClaimMapViews
import Derived.JoinedTies
import Derived.KernelRfl
namespace Go.Proofs.Ytgjmnplpefkbhaa
/- THE CELL 'sum', in the pinned program and in every row, IS THE sha256 OF THE DUMP (.gsa) THAT YtgjmnplpefkbhaaProg.lean LOADS. Nothing in Lean hashes anything: it is a label: what it is worth is what the hold of that sum in a sandbox is worth. -/
noncomputable def Try.pinned : Pinned := { name := "ytgjmnplpefkbhaa", sum := "ac430b23f819651f9864740133c532a7323559f25c0ed0edd4c50934826f3798", checked := Try.checked }
namespace Rows
def none {H : Type} : Left H := { results := [], args := [] }

/-- 'sargassolaw19.RateLess': WHATEVER THE INPUT: true; the input reads as it did. -/
def rateLessSpec : ChangeSpec := { name := "rateLess", fn := fun _ => fun
  | [d1, d2, d3] => { results := [.lit (.bool true)], args := [d1, d2, d3] }
  | _ => none }
def rateLessRow : OpenClaim := { program := "ytgjmnplpefkbhaa", sum := "ac430b23f819651f9864740133c532a7323559f25c0ed0edd4c50934826f3798", func := "sargasso/sargassolaw19.RateLess", spec := "rateLess", inPlace := ["internal/bytealg.Compare"], plainKeys := false, apart := false }
def RateLessSaid : Prop := rateLessRow.holds Try.pinned (OpenSpec.ofChange rateLessSpec)

/-- ITS FALSE NEIGHBOUR: 'it returns false'. Refute it at one input. -/
def rateLessWrong : ChangeSpec := { name := "rateLess", fn := fun _ => fun
  | [d1, d2, d3] => { results := [.lit (.bool false)], args := [d1, d2, d3] }
  | _ => none }
def RateLessWrongFalsely : Prop := rateLessRow.holds Try.pinned (OpenSpec.ofChange rateLessWrong)

/-- 'sargassolaw19.RatePlays': WHATEVER THE INPUT: true; the input reads as it did. -/
def ratePlaysSpec : ChangeSpec := { name := "ratePlays", fn := fun _ => fun
  | [d1, d2, d3, d4] => { results := [.lit (.bool true)], args := [d1, d2, d3, d4] }
  | _ => none }
def ratePlaysRow : OpenClaim := { program := "ytgjmnplpefkbhaa", sum := "ac430b23f819651f9864740133c532a7323559f25c0ed0edd4c50934826f3798", func := "sargasso/sargassolaw19.RatePlays", spec := "ratePlays", inPlace := ["internal/bytealg.Compare"], unfollowed := true, recurses := true, plainKeys := false, apart := false }
def RatePlaysSaid : Prop := ratePlaysRow.holds Try.pinned (OpenSpec.ofChange ratePlaysSpec)

/-- ITS FALSE NEIGHBOUR: 'it returns false'. Refute it at one input. -/
def ratePlaysWrong : ChangeSpec := { name := "ratePlays", fn := fun _ => fun
  | [d1, d2, d3, d4] => { results := [.lit (.bool false)], args := [d1, d2, d3, d4] }
  | _ => none }
def RatePlaysWrongFalsely : Prop := ratePlaysRow.holds Try.pinned (OpenSpec.ofChange ratePlaysWrong)

/-- 'sargassolaw19.RateOrder': WHATEVER THE INPUT: true; the input reads as it did. -/
def rateOrderSpec : ChangeSpec := { name := "rateOrder", fn := fun _ => fun
  | [d1, d2] => { results := [.lit (.bool true)], args := [d1, d2] }
  | _ => none }
def rateOrderRow : OpenClaim := { program := "ytgjmnplpefkbhaa", sum := "ac430b23f819651f9864740133c532a7323559f25c0ed0edd4c50934826f3798", func := "sargasso/sargassolaw19.RateOrder", spec := "rateOrder", inPlace := ["internal/bytealg.Compare"], unfollowed := true, recurses := true, plainKeys := false, apart := false }
def RateOrderSaid : Prop := rateOrderRow.holds Try.pinned (OpenSpec.ofChange rateOrderSpec)

/-- ITS FALSE NEIGHBOUR: 'it returns false'. Refute it at one input. -/
def rateOrderWrong : ChangeSpec := { name := "rateOrder", fn := fun _ => fun
  | [d1, d2] => { results := [.lit (.bool false)], args := [d1, d2] }
  | _ => none }
def RateOrderWrongFalsely : Prop := rateOrderRow.holds Try.pinned (OpenSpec.ofChange rateOrderWrong)

/-- 'sargassolaw19.RateAgain': WHATEVER THE INPUT: true; the input reads as it did. -/
def rateAgainSpec : ChangeSpec := { name := "rateAgain", fn := fun _ => fun
  | [d1, d2, d3] => { results := [.lit (.bool true)], args := [d1, d2, d3] }
  | _ => none }
def rateAgainRow : OpenClaim := { program := "ytgjmnplpefkbhaa", sum := "ac430b23f819651f9864740133c532a7323559f25c0ed0edd4c50934826f3798", func := "sargasso/sargassolaw19.RateAgain", spec := "rateAgain", inPlace := ["internal/bytealg.Compare"], unfollowed := true, recurses := true, plainKeys := false, apart := false }
def RateAgainSaid : Prop := rateAgainRow.holds Try.pinned (OpenSpec.ofChange rateAgainSpec)

/-- ITS FALSE NEIGHBOUR: 'it returns false'. Refute it at one input. -/
def rateAgainWrong : ChangeSpec := { name := "rateAgain", fn := fun _ => fun
  | [d1, d2, d3] => { results := [.lit (.bool false)], args := [d1, d2, d3] }
  | _ => none }
def RateAgainWrongFalsely : Prop := rateAgainRow.holds Try.pinned (OpenSpec.ofChange rateAgainWrong)

/- THE SECOND FORM. 'bulk': how many values and letters a reading holds, each counted each time it is reached (what is shared counts as often as it is met; a slice's spare places count too). A statement '..UptoSaid' is the law's where the arguments, and the package variables that the reading takes, are together of bulk at most 1048576: NARROWER than '..Said'. Prove '..Said' where nothing that the law and all that it calls make is longer than what came in: it says more and counts as full. Else prove '..UptoSaid'. A law counts once. -/
mutual
def uptoBulk {H : Type} : DataW H → Nat
  | .lit (.string bytes) => bytes.length + 1
  | .lit _ => 1
  | .nil => 1
  | .ptr d => uptoBulk d + 1
  | .slice elems spare => uptoBulkAll elems + uptoBulkAll spare + 1
  | .agg parts => uptoBulkAll parts + 1
  | .iface _ d => uptoBulk d + 1
  | .map entries => uptoBulkEntries entries + 1
  | .held _ => 1
def uptoBulkAll {H : Type} : List (DataW H) → Nat
  | [] => 0
  | d :: r => uptoBulk d + uptoBulkAll r
def uptoBulkEntries {H : Type} : List (Lit × DataW H) → Nat
  | [] => 0
  | x :: r => uptoBulkEntry x + uptoBulkEntries r
def uptoBulkEntry {H : Type} : Lit × DataW H → Nat
  | (.string bytes, d) => bytes.length + uptoBulk d + 1
  | (_, d) => uptoBulk d + 1
 end
def uptoSmall : (H : Type) → List (DataW H) → Bool := fun _ ds => decide (uptoBulkAll ds ≤ 1048576)
def OpenSpec.upto (s : _root_.Go.ChangeSpec) : _root_.Go.OpenSpec := { _root_.Go.OpenSpec.ofChange s with cond := some uptoSmall }

/-- 'sargassolaw19.RateLess', WHERE WHAT IT READS IS OF BULK AT MOST 1048576: true; the input reads as it did. -/
def rateLessUptoRow : OpenClaim := { program := "ytgjmnplpefkbhaa", sum := "ac430b23f819651f9864740133c532a7323559f25c0ed0edd4c50934826f3798", func := "sargasso/sargassolaw19.RateLess", spec := "rateLess", inPlace := ["internal/bytealg.Compare"], plainKeys := false, apart := false, narrowed := true }
def RateLessUptoSaid : Prop := rateLessUptoRow.holds Try.pinned (OpenSpec.upto rateLessSpec)

/-- 'sargassolaw19.RatePlays', WHERE WHAT IT READS IS OF BULK AT MOST 1048576: true; the input reads as it did. -/
def ratePlaysUptoRow : OpenClaim := { program := "ytgjmnplpefkbhaa", sum := "ac430b23f819651f9864740133c532a7323559f25c0ed0edd4c50934826f3798", func := "sargasso/sargassolaw19.RatePlays", spec := "ratePlays", inPlace := ["internal/bytealg.Compare"], unfollowed := true, recurses := true, plainKeys := false, apart := false, narrowed := true }
def RatePlaysUptoSaid : Prop := ratePlaysUptoRow.holds Try.pinned (OpenSpec.upto ratePlaysSpec)

/-- 'sargassolaw19.RateOrder', WHERE WHAT IT READS IS OF BULK AT MOST 1048576: true; the input reads as it did. -/
def rateOrderUptoRow : OpenClaim := { program := "ytgjmnplpefkbhaa", sum := "ac430b23f819651f9864740133c532a7323559f25c0ed0edd4c50934826f3798", func := "sargasso/sargassolaw19.RateOrder", spec := "rateOrder", inPlace := ["internal/bytealg.Compare"], unfollowed := true, recurses := true, plainKeys := false, apart := false, narrowed := true }
def RateOrderUptoSaid : Prop := rateOrderUptoRow.holds Try.pinned (OpenSpec.upto rateOrderSpec)

/-- 'sargassolaw19.RateAgain', WHERE WHAT IT READS IS OF BULK AT MOST 1048576: true; the input reads as it did. -/
def rateAgainUptoRow : OpenClaim := { program := "ytgjmnplpefkbhaa", sum := "ac430b23f819651f9864740133c532a7323559f25c0ed0edd4c50934826f3798", func := "sargasso/sargassolaw19.RateAgain", spec := "rateAgain", inPlace := ["internal/bytealg.Compare"], unfollowed := true, recurses := true, plainKeys := false, apart := false, narrowed := true }
def RateAgainUptoSaid : Prop := rateAgainUptoRow.holds Try.pinned (OpenSpec.upto rateAgainSpec)

end Rows
end Go.Proofs.Ytgjmnplpefkbhaa
