/-
  DERIVED. GIVEN WITH THE SEED: THE CARDS: each row of YtknhohgnilamcaaDoorRows.lean that lists a variable, with what it lists TIED to the program's text (the seventh form; the later family's looks); each row that meets fmt, with fmt's text TOLD by the authors' own Lean function (tested against real Go, not proved from fmt's source: count such statements apart). THE CARD IS WHAT COUNTS. Prove the row's statement (the work); the ties are given (YtknhohgnilamcaaDoorTie.lean); close each card by the builder's one call (the guide's Derived/Test/ToyasCard.lean, 'card_holds'). Laid BY PROGRAM, IN A SANDBOX (cutbox-door.mjs). By AI agents, Wed Nov 11 2026. No macro, syntax, notation, axiom, sorry.
-/
import Derived.Test.YtknhohgnilamcaaDoorRows
import GoSem.ClaimSeven
namespace Go.Proofs.YtknhohgnilamcaaDoor
namespace Rows

/-- THE TIED CARD OF 'sargassolaw18.GraphCuts'. -/
def graphCutsCard : Claim7 := { stood := { row := graphCutsRow, standIns := [], harness := (true, "e61c1bd3b821c01b7b7f24010c6d3d5d3be3f773a76aa830f2abcefd765ba45b"), looks := true }, kinds := [], alts := [], laidByText := true, laidKinds := [.sentinel, .sentinel, .sentinel, .sentinel, .sentinel, .sentinel, .sentinel, .sentinel, .sentinel, .sentinel, .sentinel, .sentinel, .sentinel, .sentinel, .sentinel, .sentinel, .sentinel, .sentinel, .sentinel, .sentinel, .sentinel, .sentinel, .sentinel, .sentinel, .sentinel], laidTests := true, laidLooks := .later }
def GraphCutsCardSaid : Prop := Claim7.holds Tryd.pinned (.plain (OpenSpec.ofChange graphCutsSpec)) graphCutsCard

/-- THE TIED CARD OF 'sargassolaw18.GraphFans'. -/
def graphFansCard : Claim7 := { stood := { row := graphFansRow, standIns := [], harness := (true, "e61c1bd3b821c01b7b7f24010c6d3d5d3be3f773a76aa830f2abcefd765ba45b"), looks := true }, kinds := [], alts := [], laidByText := true, laidKinds := [.sentinel, .sentinel, .sentinel, .sentinel], laidTests := true, laidLooks := .later }
def GraphFansCardSaid : Prop := Claim7.holds Tryd.pinned (.plain (OpenSpec.ofChange graphFansSpec)) graphFansCard

/-- THE SECOND FORM's CARD OF 'sargassolaw18.GraphCuts'. -/
def graphCutsUptoCard : Claim7 := { stood := { row := graphCutsUptoRow, standIns := [], harness := (true, "e61c1bd3b821c01b7b7f24010c6d3d5d3be3f773a76aa830f2abcefd765ba45b"), looks := true }, kinds := [], alts := [], laidByText := true, laidKinds := [.sentinel, .sentinel, .sentinel, .sentinel, .sentinel, .sentinel, .sentinel, .sentinel, .sentinel, .sentinel, .sentinel, .sentinel, .sentinel, .sentinel, .sentinel, .sentinel, .sentinel, .sentinel, .sentinel, .sentinel, .sentinel, .sentinel, .sentinel, .sentinel, .sentinel], laidTests := true, laidLooks := .later }
def GraphCutsUptoCardSaid : Prop := Claim7.holds Tryd.pinned (.plain (OpenSpec.upto graphCutsSpec)) graphCutsUptoCard

/-- THE SECOND FORM's CARD OF 'sargassolaw18.GraphFans'. -/
def graphFansUptoCard : Claim7 := { stood := { row := graphFansUptoRow, standIns := [], harness := (true, "e61c1bd3b821c01b7b7f24010c6d3d5d3be3f773a76aa830f2abcefd765ba45b"), looks := true }, kinds := [], alts := [], laidByText := true, laidKinds := [.sentinel, .sentinel, .sentinel, .sentinel], laidTests := true, laidLooks := .later }
def GraphFansUptoCardSaid : Prop := Claim7.holds Tryd.pinned (.plain (OpenSpec.upto graphFansSpec)) graphFansUptoCard
end Rows
end Go.Proofs.YtknhohgnilamcaaDoor
