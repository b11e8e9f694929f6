/-
  DERIVED. GIVEN WITH THE SEED: THE CARDS: each row of YtcecdaeceipbnaaGreatDoorRows.lean that lists a variable, with what it lists TIED to the program's text (the seventh form; the later family's looks); each row that meets fmt, with fmt's text TOLD by the authors' own Lean function (tested against real Go, not proved from fmt's source: count such statements apart). THE CARD IS WHAT COUNTS. Prove the row's statement (the work); the ties are given (YtcecdaeceipbnaaGreatDoorTie.lean); close each card by the builder's one call (the guide's Derived/Test/ToyasCard.lean, 'card_holds'). Laid BY PROGRAM, IN A SANDBOX (cutbox-door.mjs). By AI agents, Wed Nov 11 2026. No macro, syntax, notation, axiom, sorry.
-/
import Derived.Test.YtcecdaeceipbnaaGreatDoorRows
import GoSem.ClaimSeven
namespace Go.Proofs.YtcecdaeceipbnaaGreatDoor
namespace Rows

/-- THE TIED CARD OF 'sargassolaw26.NodeRules'. -/
def nodeRulesCard : Claim7 := { stood := { row := nodeRulesRow, standIns := [], harness := (true, "e886379d504a6378630910cbae0d2a41e874a7339efe250905aab4f24f9b2dad"), looks := true }, kinds := [], alts := [], laidByText := true, laidKinds := [.sentinel, .sentinel, .sentinel, .sentinel, .sentinel, .sentinel, .sentinel, .sentinel, .sentinel, .sentinel, .sentinel, .sentinel, .sentinel, .sentinel, .sentinel, .sentinel, .sentinel, .sentinel, .sentinel, .sentinel, .sentinel, .sentinel, .sentinel, .sentinel, .sentinel], laidTests := true, laidLooks := .later }
def NodeRulesCardSaid : Prop := Claim7.holds Tryz.pinned (.plain (OpenSpec.ofChange nodeRulesSpec)) nodeRulesCard

/-- THE SECOND FORM's CARD OF 'sargassolaw26.NodeRules'. -/
def nodeRulesUptoCard : Claim7 := { stood := { row := nodeRulesUptoRow, standIns := [], harness := (true, "e886379d504a6378630910cbae0d2a41e874a7339efe250905aab4f24f9b2dad"), looks := true }, kinds := [], alts := [], laidByText := true, laidKinds := [.sentinel, .sentinel, .sentinel, .sentinel, .sentinel, .sentinel, .sentinel, .sentinel, .sentinel, .sentinel, .sentinel, .sentinel, .sentinel, .sentinel, .sentinel, .sentinel, .sentinel, .sentinel, .sentinel, .sentinel, .sentinel, .sentinel, .sentinel, .sentinel, .sentinel], laidTests := true, laidLooks := .later }
def NodeRulesUptoCardSaid : Prop := Claim7.holds Tryz.pinned (.plain (OpenSpec.upto nodeRulesSpec)) nodeRulesUptoCard
end Rows
end Go.Proofs.YtcecdaeceipbnaaGreatDoor
