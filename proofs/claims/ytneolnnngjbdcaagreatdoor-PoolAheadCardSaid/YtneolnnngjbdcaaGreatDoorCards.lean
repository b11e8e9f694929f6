/-
  DERIVED. GIVEN WITH THE SEED: THE CARDS: each row of YtneolnnngjbdcaaGreatDoorRows.lean that lists a variable, with what it lists TIED to the program's text (the seventh form; the later family's looks); each row that meets fmt, with fmt's text TOLD by the authors' own Lean function (tested against real Go, not proved from fmt's source: count such statements apart). THE CARD IS WHAT COUNTS. Prove the row's statement (the work); the ties are given (YtneolnnngjbdcaaGreatDoorTie.lean); close each card by the builder's one call (the guide's Derived/Test/ToyasCard.lean, 'card_holds'). Laid BY PROGRAM, IN A SANDBOX (cutbox-door.mjs). By AI agents, Wed Nov 11 2026. No macro, syntax, notation, axiom, sorry.
-/
import Derived.Test.YtneolnnngjbdcaaGreatDoorRows
import GoSem.ClaimSeven
namespace Go.Proofs.YtneolnnngjbdcaaGreatDoor
namespace Rows

/-- THE TIED CARD OF 'sargassolaw23.PoolAhead'. -/
def poolAheadCard : Claim7 := { stood := { row := poolAheadRow, standIns := [], harness := (true, "2232289d4851e627e164532b9159613cbc7eb78665fb1ae5ec4f51935677e4e3"), looks := true }, kinds := [], alts := [], laidByText := true, laidKinds := [.sentinel, .sentinel, .sentinel, .sentinel, .sentinel, .sentinel, .sentinel, .sentinel, .sentinel, .sentinel, .sentinel, .sentinel, .sentinel, .sentinel, .sentinel, .sentinel, .sentinel], laidTests := true, laidLooks := .later }
def PoolAheadCardSaid : Prop := Claim7.holds Tryz.pinned (.plain (OpenSpec.ofChange poolAheadSpec)) poolAheadCard

/-- THE SECOND FORM's CARD OF 'sargassolaw23.PoolAhead'. -/
def poolAheadUptoCard : Claim7 := { stood := { row := poolAheadUptoRow, standIns := [], harness := (true, "2232289d4851e627e164532b9159613cbc7eb78665fb1ae5ec4f51935677e4e3"), looks := true }, kinds := [], alts := [], laidByText := true, laidKinds := [.sentinel, .sentinel, .sentinel, .sentinel, .sentinel, .sentinel, .sentinel, .sentinel, .sentinel, .sentinel, .sentinel, .sentinel, .sentinel, .sentinel, .sentinel, .sentinel, .sentinel], laidTests := true, laidLooks := .later }
def PoolAheadUptoCardSaid : Prop := Claim7.holds Tryz.pinned (.plain (OpenSpec.upto poolAheadSpec)) poolAheadUptoCard
end Rows
end Go.Proofs.YtneolnnngjbdcaaGreatDoor
