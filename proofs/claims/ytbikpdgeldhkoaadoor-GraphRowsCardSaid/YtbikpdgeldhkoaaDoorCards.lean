/-
  DERIVED. GIVEN WITH THE SEED: THE CARDS: each row of YtbikpdgeldhkoaaDoorRows.lean that lists a variable, with what it lists TIED to the program's text (the seventh form; the later family's looks); each row that meets fmt, with fmt's text TOLD by the authors' own Lean function (tested against real Go, not proved from fmt's source: count such statements apart). THE CARD IS WHAT COUNTS. Prove the row's statement (the work); the ties are given (YtbikpdgeldhkoaaDoorTie.lean); close each card by the builder's one call (the guide's Derived/Test/ToyasCard.lean, 'card_holds'). Laid BY PROGRAM, IN A SANDBOX (cutbox-door.mjs). By AI agents, Wed Nov 11 2026. No macro, syntax, notation, axiom, sorry.
-/
import Derived.Test.YtbikpdgeldhkoaaDoorRows
import GoSem.ClaimSeven
namespace Go.Proofs.YtbikpdgeldhkoaaDoor
namespace Rows

/-- THE TIED CARD OF 'sargassolaw10.ViewChains'. -/
def viewChainsCard : Claim7 := { stood := { row := viewChainsRow, standIns := [], harness := (true, "c1e9231773b8b9ae05c7087a3ba01c7f0ee88c8909f51c66ac7dedc867015491"), looks := true }, kinds := [], alts := [], laidByText := true, laidKinds := [.sentinel, .sentinel, .sentinel, .sentinel, .sentinel, .sentinel, .sentinel, .sentinel, .sentinel, .sentinel, .sentinel, .sentinel, .sentinel, .sentinel, .sentinel, .sentinel, .sentinel, .sentinel, .sentinel, .sentinel, .sentinel, .sentinel, .sentinel, .sentinel, .sentinel], laidTests := true, laidLooks := .later }
def ViewChainsCardSaid : Prop := Claim7.holds Tryd.pinned (.plain (OpenSpec.ofChange viewChainsSpec)) viewChainsCard

/-- THE TIED CARD OF 'sargassolaw8.CoinsTwice'. -/
def coinsTwiceCard : Claim7 := { stood := { row := coinsTwiceRow, standIns := [], harness := (true, "c1e9231773b8b9ae05c7087a3ba01c7f0ee88c8909f51c66ac7dedc867015491"), looks := true }, kinds := [], alts := [], laidByText := true, laidKinds := [.sentinel, .sentinel, .sentinel, .sentinel, .sentinel, .sentinel, .sentinel, .sentinel, .sentinel, .sentinel, .sentinel, .sentinel, .sentinel, .sentinel, .sentinel, .sentinel, .sentinel, .sentinel, .sentinel, .sentinel, .sentinel, .sentinel, .sentinel, .sentinel, .sentinel], laidTests := true, laidLooks := .later }
def CoinsTwiceCardSaid : Prop := Claim7.holds Tryd.pinned (.plain (OpenSpec.ofChange coinsTwiceSpec)) coinsTwiceCard

/-- THE TIED CARD OF 'sargassolaw18.GraphRows'. -/
def graphRowsCard : Claim7 := { stood := { row := graphRowsRow, standIns := [], harness := (true, "c1e9231773b8b9ae05c7087a3ba01c7f0ee88c8909f51c66ac7dedc867015491"), looks := true }, kinds := [], alts := [], laidByText := true, laidKinds := [.sentinel, .sentinel, .sentinel, .sentinel, .sentinel, .sentinel, .sentinel, .sentinel, .sentinel, .sentinel, .sentinel, .sentinel, .sentinel, .sentinel, .sentinel, .sentinel, .sentinel, .sentinel, .sentinel, .sentinel, .sentinel, .sentinel, .sentinel, .sentinel, .sentinel], laidTests := true, laidLooks := .later }
def GraphRowsCardSaid : Prop := Claim7.holds Tryd.pinned (.plain (OpenSpec.ofChange graphRowsSpec)) graphRowsCard

/-- THE TIED CARD OF 'sargassolaw18.GraphFans'. -/
def graphFansCard : Claim7 := { stood := { row := graphFansRow, standIns := [], harness := (true, "c1e9231773b8b9ae05c7087a3ba01c7f0ee88c8909f51c66ac7dedc867015491"), looks := true }, kinds := [], alts := [], laidByText := true, laidKinds := [.sentinel, .sentinel, .sentinel, .sentinel], laidTests := true, laidLooks := .later }
def GraphFansCardSaid : Prop := Claim7.holds Tryd.pinned (.plain (OpenSpec.ofChange graphFansSpec)) graphFansCard

/-- THE SECOND FORM's CARD OF 'sargassolaw10.ViewChains'. -/
def viewChainsUptoCard : Claim7 := { stood := { row := viewChainsUptoRow, standIns := [], harness := (true, "c1e9231773b8b9ae05c7087a3ba01c7f0ee88c8909f51c66ac7dedc867015491"), looks := true }, kinds := [], alts := [], laidByText := true, laidKinds := [.sentinel, .sentinel, .sentinel, .sentinel, .sentinel, .sentinel, .sentinel, .sentinel, .sentinel, .sentinel, .sentinel, .sentinel, .sentinel, .sentinel, .sentinel, .sentinel, .sentinel, .sentinel, .sentinel, .sentinel, .sentinel, .sentinel, .sentinel, .sentinel, .sentinel], laidTests := true, laidLooks := .later }
def ViewChainsUptoCardSaid : Prop := Claim7.holds Tryd.pinned (.plain (OpenSpec.upto viewChainsSpec)) viewChainsUptoCard

/-- THE SECOND FORM's CARD OF 'sargassolaw8.CoinsTwice'. -/
def coinsTwiceUptoCard : Claim7 := { stood := { row := coinsTwiceUptoRow, standIns := [], harness := (true, "c1e9231773b8b9ae05c7087a3ba01c7f0ee88c8909f51c66ac7dedc867015491"), looks := true }, kinds := [], alts := [], laidByText := true, laidKinds := [.sentinel, .sentinel, .sentinel, .sentinel, .sentinel, .sentinel, .sentinel, .sentinel, .sentinel, .sentinel, .sentinel, .sentinel, .sentinel, .sentinel, .sentinel, .sentinel, .sentinel, .sentinel, .sentinel, .sentinel, .sentinel, .sentinel, .sentinel, .sentinel, .sentinel], laidTests := true, laidLooks := .later }
def CoinsTwiceUptoCardSaid : Prop := Claim7.holds Tryd.pinned (.plain (OpenSpec.upto coinsTwiceSpec)) coinsTwiceUptoCard

/-- THE SECOND FORM's CARD OF 'sargassolaw18.GraphRows'. -/
def graphRowsUptoCard : Claim7 := { stood := { row := graphRowsUptoRow, standIns := [], harness := (true, "c1e9231773b8b9ae05c7087a3ba01c7f0ee88c8909f51c66ac7dedc867015491"), looks := true }, kinds := [], alts := [], laidByText := true, laidKinds := [.sentinel, .sentinel, .sentinel, .sentinel, .sentinel, .sentinel, .sentinel, .sentinel, .sentinel, .sentinel, .sentinel, .sentinel, .sentinel, .sentinel, .sentinel, .sentinel, .sentinel, .sentinel, .sentinel, .sentinel, .sentinel, .sentinel, .sentinel, .sentinel, .sentinel], laidTests := true, laidLooks := .later }
def GraphRowsUptoCardSaid : Prop := Claim7.holds Tryd.pinned (.plain (OpenSpec.upto graphRowsSpec)) graphRowsUptoCard

/-- THE SECOND FORM's CARD OF 'sargassolaw18.GraphFans'. -/
def graphFansUptoCard : Claim7 := { stood := { row := graphFansUptoRow, standIns := [], harness := (true, "c1e9231773b8b9ae05c7087a3ba01c7f0ee88c8909f51c66ac7dedc867015491"), looks := true }, kinds := [], alts := [], laidByText := true, laidKinds := [.sentinel, .sentinel, .sentinel, .sentinel], laidTests := true, laidLooks := .later }
def GraphFansUptoCardSaid : Prop := Claim7.holds Tryd.pinned (.plain (OpenSpec.upto graphFansSpec)) graphFansUptoCard
end Rows
end Go.Proofs.YtbikpdgeldhkoaaDoor
