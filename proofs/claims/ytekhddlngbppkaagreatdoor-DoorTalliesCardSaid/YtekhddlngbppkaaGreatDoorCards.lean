/-
  DERIVED. GIVEN WITH THE SEED: THE CARDS: each row of YtekhddlngbppkaaGreatDoorRows.lean that lists a variable, with what it lists TIED to the program's text (the seventh form; the later family's looks); each row that meets fmt, with fmt's text TOLD by the authors' own Lean function (tested against real Go, not proved from fmt's source: count such statements apart). THE CARD IS WHAT COUNTS. Prove the row's statement (the work); the ties are given (YtekhddlngbppkaaGreatDoorTie.lean); close each card by the builder's one call (the guide's Derived/Test/ToyasCard.lean, 'card_holds'). Laid BY PROGRAM, IN A SANDBOX (cutbox-door.mjs). By AI agents, Wed Nov 11 2026. No macro, syntax, notation, axiom, sorry.
-/
import Derived.Test.YtekhddlngbppkaaGreatDoorRows
import GoSem.ClaimSeven
namespace Go.Proofs.YtekhddlngbppkaaGreatDoor
namespace Rows

/-- THE TIED CARD OF 'shambleslaw09.DoorTallies'. -/
def doorTalliesCard : Claim7 := { stood := { row := doorTalliesRow, standIns := [], harness := (true, "0d588ab11a7eee12ef23c0d8eaa053291cb959003652a5c04442562cf3b92fad"), looks := true }, kinds := [], alts := [], laidByText := true, laidKinds := [.data, .data, .data, .data, .sentinel, .sentinel, .pinned], laidTests := true, laidLooks := .later }
def DoorTalliesCardSaid : Prop := Claim7.holds Tryz.pinned (.plain (OpenSpec.ofChange doorTalliesSpec)) doorTalliesCard

/-- THE TIED CARD OF 'shambleslaw09.DoorTape'. -/
def doorTapeCard : Claim7 := { stood := { row := doorTapeRow, standIns := [], harness := (true, "0d588ab11a7eee12ef23c0d8eaa053291cb959003652a5c04442562cf3b92fad"), looks := true }, kinds := [], alts := [], laidByText := true, laidKinds := [.data, .data, .data, .data, .sentinel, .sentinel, .pinned], laidTests := true, laidLooks := .later }
def DoorTapeCardSaid : Prop := Claim7.holds Tryz.pinned (.plain (OpenSpec.ofChange doorTapeSpec)) doorTapeCard

/-- THE SECOND FORM's CARD OF 'shambleslaw09.DoorTallies'. -/
def doorTalliesUptoCard : Claim7 := { stood := { row := doorTalliesUptoRow, standIns := [], harness := (true, "0d588ab11a7eee12ef23c0d8eaa053291cb959003652a5c04442562cf3b92fad"), looks := true }, kinds := [], alts := [], laidByText := true, laidKinds := [.data, .data, .data, .data, .sentinel, .sentinel, .pinned], laidTests := true, laidLooks := .later }
def DoorTalliesUptoCardSaid : Prop := Claim7.holds Tryz.pinned (.plain (OpenSpec.upto doorTalliesSpec)) doorTalliesUptoCard

/-- THE SECOND FORM's CARD OF 'shambleslaw09.DoorTape'. -/
def doorTapeUptoCard : Claim7 := { stood := { row := doorTapeUptoRow, standIns := [], harness := (true, "0d588ab11a7eee12ef23c0d8eaa053291cb959003652a5c04442562cf3b92fad"), looks := true }, kinds := [], alts := [], laidByText := true, laidKinds := [.data, .data, .data, .data, .sentinel, .sentinel, .pinned], laidTests := true, laidLooks := .later }
def DoorTapeUptoCardSaid : Prop := Claim7.holds Tryz.pinned (.plain (OpenSpec.upto doorTapeSpec)) doorTapeUptoCard
end Rows
end Go.Proofs.YtekhddlngbppkaaGreatDoor
