/-
  DERIVED. GIVEN WITH THE SEED: THE CARDS: each row of YtknhohgnilamcaaGreatDoorRows.lean that lists a variable, with what it lists TIED to the program's text (the seventh form; the later family's looks); each row that meets fmt, with fmt's text TOLD by the authors' own Lean function (tested against real Go, not proved from fmt's source: count such statements apart). THE CARD IS WHAT COUNTS. Prove the row's statement (the work); the ties are given (YtknhohgnilamcaaGreatDoorTie.lean); close each card by the builder's one call (the guide's Derived/Test/ToyasCard.lean, 'card_holds'). Laid BY PROGRAM, IN A SANDBOX (cutbox-door.mjs). By AI agents, Wed Nov 11 2026. No macro, syntax, notation, axiom, sorry.
-/
import Derived.Test.YtknhohgnilamcaaGreatDoorRows
import GoSem.ClaimSeven
namespace Go.Proofs.YtknhohgnilamcaaGreatDoor
namespace Rows

/-- THE TIED CARD OF 'sargassolaw16.ConnLocks'. -/
def connLocksCard : Claim7 := { stood := { row := connLocksRow, standIns := [], harness := (true, "60e0bc98657222418efe113ad695651f27fb8bdb0657bb14a007f15c915b0b54"), looks := true }, kinds := [], alts := [], laidByText := true, laidKinds := [.sentinel, .sentinel, .sentinel, .sentinel, .sentinel, .sentinel, .sentinel, .sentinel, .sentinel, .sentinel, .sentinel, .sentinel, .sentinel, .sentinel, .sentinel, .sentinel, .sentinel, .sentinel, .sentinel, .sentinel, .sentinel, .sentinel, .sentinel, .sentinel, .sentinel], laidTests := true, laidLooks := .later }
def ConnLocksCardSaid : Prop := Claim7.holds Tryz.pinned (.plain (OpenSpec.ofChange connLocksSpec)) connLocksCard

/-- THE TIED CARD OF 'sargassolaw22.TrimChild'. -/
def trimChildCard : Claim7 := { stood := { row := trimChildRow, standIns := [], harness := (true, "60e0bc98657222418efe113ad695651f27fb8bdb0657bb14a007f15c915b0b54"), looks := true }, kinds := [], alts := [], laidByText := true, laidKinds := [.sentinel, .sentinel, .sentinel], laidTests := true, laidLooks := .later }
def TrimChildCardSaid : Prop := Claim7.holds Tryz.pinned (.plain (OpenSpec.ofChange trimChildSpec)) trimChildCard

/-- THE TIED CARD OF 'sargassolaw25.BuildChild'. -/
def buildChildCard : Claim7 := { stood := { row := buildChildRow, standIns := [], harness := (true, "60e0bc98657222418efe113ad695651f27fb8bdb0657bb14a007f15c915b0b54"), looks := true }, kinds := [], alts := [], laidByText := true, laidKinds := [.sentinel, .sentinel, .sentinel], laidTests := true, laidLooks := .later }
def BuildChildCardSaid : Prop := Claim7.holds Tryz.pinned (.plain (OpenSpec.ofChange buildChildSpec)) buildChildCard

/-- THE TIED CARD OF 'sargassolaw25.BuildRoom'. -/
def buildRoomCard : Claim7 := { stood := { row := buildRoomRow, standIns := [], harness := (true, "60e0bc98657222418efe113ad695651f27fb8bdb0657bb14a007f15c915b0b54"), looks := true }, kinds := [], alts := [], laidByText := true, laidKinds := [.sentinel, .sentinel, .sentinel], laidTests := true, laidLooks := .later }
def BuildRoomCardSaid : Prop := Claim7.holds Tryz.pinned (.plain (OpenSpec.ofChange buildRoomSpec)) buildRoomCard

/-- THE TIED CARD OF 'sargassolaw21.AdmitReasons'. -/
def admitReasonsCard : Claim7 := { stood := { row := admitReasonsRow, standIns := [], harness := (true, "60e0bc98657222418efe113ad695651f27fb8bdb0657bb14a007f15c915b0b54"), looks := true }, kinds := [], alts := [], laidByText := true, laidKinds := [.sentinel, .sentinel, .sentinel, .sentinel, .sentinel, .sentinel, .sentinel, .sentinel, .sentinel, .sentinel, .sentinel, .sentinel, .sentinel, .sentinel, .sentinel, .sentinel, .sentinel, .sentinel, .sentinel, .sentinel, .sentinel, .sentinel, .sentinel, .sentinel, .sentinel], laidTests := true, laidLooks := .later }
def AdmitReasonsCardSaid : Prop := Claim7.holds Tryz.pinned (.plain (OpenSpec.ofChange admitReasonsSpec)) admitReasonsCard

/-- THE SECOND FORM's CARD OF 'sargassolaw16.ConnLocks'. -/
def connLocksUptoCard : Claim7 := { stood := { row := connLocksUptoRow, standIns := [], harness := (true, "60e0bc98657222418efe113ad695651f27fb8bdb0657bb14a007f15c915b0b54"), looks := true }, kinds := [], alts := [], laidByText := true, laidKinds := [.sentinel, .sentinel, .sentinel, .sentinel, .sentinel, .sentinel, .sentinel, .sentinel, .sentinel, .sentinel, .sentinel, .sentinel, .sentinel, .sentinel, .sentinel, .sentinel, .sentinel, .sentinel, .sentinel, .sentinel, .sentinel, .sentinel, .sentinel, .sentinel, .sentinel], laidTests := true, laidLooks := .later }
def ConnLocksUptoCardSaid : Prop := Claim7.holds Tryz.pinned (.plain (OpenSpec.upto connLocksSpec)) connLocksUptoCard

/-- THE SECOND FORM's CARD OF 'sargassolaw22.TrimChild'. -/
def trimChildUptoCard : Claim7 := { stood := { row := trimChildUptoRow, standIns := [], harness := (true, "60e0bc98657222418efe113ad695651f27fb8bdb0657bb14a007f15c915b0b54"), looks := true }, kinds := [], alts := [], laidByText := true, laidKinds := [.sentinel, .sentinel, .sentinel], laidTests := true, laidLooks := .later }
def TrimChildUptoCardSaid : Prop := Claim7.holds Tryz.pinned (.plain (OpenSpec.upto trimChildSpec)) trimChildUptoCard

/-- THE SECOND FORM's CARD OF 'sargassolaw25.BuildChild'. -/
def buildChildUptoCard : Claim7 := { stood := { row := buildChildUptoRow, standIns := [], harness := (true, "60e0bc98657222418efe113ad695651f27fb8bdb0657bb14a007f15c915b0b54"), looks := true }, kinds := [], alts := [], laidByText := true, laidKinds := [.sentinel, .sentinel, .sentinel], laidTests := true, laidLooks := .later }
def BuildChildUptoCardSaid : Prop := Claim7.holds Tryz.pinned (.plain (OpenSpec.upto buildChildSpec)) buildChildUptoCard

/-- THE SECOND FORM's CARD OF 'sargassolaw25.BuildRoom'. -/
def buildRoomUptoCard : Claim7 := { stood := { row := buildRoomUptoRow, standIns := [], harness := (true, "60e0bc98657222418efe113ad695651f27fb8bdb0657bb14a007f15c915b0b54"), looks := true }, kinds := [], alts := [], laidByText := true, laidKinds := [.sentinel, .sentinel, .sentinel], laidTests := true, laidLooks := .later }
def BuildRoomUptoCardSaid : Prop := Claim7.holds Tryz.pinned (.plain (OpenSpec.upto buildRoomSpec)) buildRoomUptoCard

/-- THE SECOND FORM's CARD OF 'sargassolaw21.AdmitReasons'. -/
def admitReasonsUptoCard : Claim7 := { stood := { row := admitReasonsUptoRow, standIns := [], harness := (true, "60e0bc98657222418efe113ad695651f27fb8bdb0657bb14a007f15c915b0b54"), looks := true }, kinds := [], alts := [], laidByText := true, laidKinds := [.sentinel, .sentinel, .sentinel, .sentinel, .sentinel, .sentinel, .sentinel, .sentinel, .sentinel, .sentinel, .sentinel, .sentinel, .sentinel, .sentinel, .sentinel, .sentinel, .sentinel, .sentinel, .sentinel, .sentinel, .sentinel, .sentinel, .sentinel, .sentinel, .sentinel], laidTests := true, laidLooks := .later }
def AdmitReasonsUptoCardSaid : Prop := Claim7.holds Tryz.pinned (.plain (OpenSpec.upto admitReasonsSpec)) admitReasonsUptoCard
end Rows
end Go.Proofs.YtknhohgnilamcaaGreatDoor
