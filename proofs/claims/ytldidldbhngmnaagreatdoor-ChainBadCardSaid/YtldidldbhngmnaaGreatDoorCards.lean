/-
  DERIVED. GIVEN WITH THE SEED: THE CARDS: each row of YtldidldbhngmnaaGreatDoorRows.lean that lists a variable, with what it lists TIED to the program's text (the seventh form; the later family's looks); each row that meets fmt, with fmt's text TOLD by the authors' own Lean function (tested against real Go, not proved from fmt's source: count such statements apart). THE CARD IS WHAT COUNTS. Prove the row's statement (the work); the ties are given (YtldidldbhngmnaaGreatDoorTie.lean); close each card by the builder's one call (the guide's Derived/Test/ToyasCard.lean, 'card_holds'). Laid BY PROGRAM, IN A SANDBOX (cutbox-door.mjs). By AI agents, Wed Nov 11 2026. No macro, syntax, notation, axiom, sorry.
-/
import Derived.Test.YtldidldbhngmnaaGreatDoorRows
import GoSem.ClaimSeven
namespace Go.Proofs.YtldidldbhngmnaaGreatDoor
namespace Rows

/-- THE TIED CARD OF 'sargassolaw17.ChainBad'. -/
def chainBadCard : Claim7 := { stood := { row := chainBadRow, standIns := [], harness := (true, "3e29cf590d80a4d93213a229975b2fbff72c2c6281fc9b9e0096bdc37eb28d37"), looks := true }, kinds := [], alts := [], laidByText := true, laidKinds := [.sentinel, .sentinel, .sentinel, .sentinel, .sentinel, .sentinel, .sentinel, .sentinel, .sentinel, .sentinel, .sentinel, .sentinel, .sentinel, .sentinel, .sentinel, .sentinel, .sentinel, .sentinel, .sentinel, .sentinel, .sentinel, .sentinel, .sentinel, .sentinel, .sentinel], laidTests := true, laidLooks := .later }
def ChainBadCardSaid : Prop := Claim7.holds Tryz.pinned (.plain (OpenSpec.ofChange chainBadSpec)) chainBadCard

/-- THE TIED CARD OF 'sargassolaw17.ChainMoves'. -/
def chainMovesCard : Claim7 := { stood := { row := chainMovesRow, standIns := [], harness := (true, "3e29cf590d80a4d93213a229975b2fbff72c2c6281fc9b9e0096bdc37eb28d37"), looks := true }, kinds := [], alts := [], laidByText := true, laidKinds := [.sentinel, .sentinel, .sentinel, .sentinel, .sentinel, .sentinel, .sentinel, .sentinel, .sentinel, .sentinel, .sentinel, .sentinel, .sentinel, .sentinel, .sentinel, .sentinel, .sentinel, .sentinel, .sentinel, .sentinel], laidTests := true, laidLooks := .later }
def ChainMovesCardSaid : Prop := Claim7.holds Tryz.pinned (.plain (OpenSpec.ofChange chainMovesSpec)) chainMovesCard

/-- THE SECOND FORM's CARD OF 'sargassolaw17.ChainBad'. -/
def chainBadUptoCard : Claim7 := { stood := { row := chainBadUptoRow, standIns := [], harness := (true, "3e29cf590d80a4d93213a229975b2fbff72c2c6281fc9b9e0096bdc37eb28d37"), looks := true }, kinds := [], alts := [], laidByText := true, laidKinds := [.sentinel, .sentinel, .sentinel, .sentinel, .sentinel, .sentinel, .sentinel, .sentinel, .sentinel, .sentinel, .sentinel, .sentinel, .sentinel, .sentinel, .sentinel, .sentinel, .sentinel, .sentinel, .sentinel, .sentinel, .sentinel, .sentinel, .sentinel, .sentinel, .sentinel], laidTests := true, laidLooks := .later }
def ChainBadUptoCardSaid : Prop := Claim7.holds Tryz.pinned (.plain (OpenSpec.upto chainBadSpec)) chainBadUptoCard

/-- THE SECOND FORM's CARD OF 'sargassolaw17.ChainMoves'. -/
def chainMovesUptoCard : Claim7 := { stood := { row := chainMovesUptoRow, standIns := [], harness := (true, "3e29cf590d80a4d93213a229975b2fbff72c2c6281fc9b9e0096bdc37eb28d37"), looks := true }, kinds := [], alts := [], laidByText := true, laidKinds := [.sentinel, .sentinel, .sentinel, .sentinel, .sentinel, .sentinel, .sentinel, .sentinel, .sentinel, .sentinel, .sentinel, .sentinel, .sentinel, .sentinel, .sentinel, .sentinel, .sentinel, .sentinel, .sentinel, .sentinel], laidTests := true, laidLooks := .later }
def ChainMovesUptoCardSaid : Prop := Claim7.holds Tryz.pinned (.plain (OpenSpec.upto chainMovesSpec)) chainMovesUptoCard
end Rows
end Go.Proofs.YtldidldbhngmnaaGreatDoor
