/-
  DERIVED. GIVEN WITH THE SEED: THE CARDS: each row of YtmiiipdgbkipjaaGreatDoorRows.lean that lists a variable, with what it lists TIED to the program's text (the seventh form; the later family's looks); each row that meets fmt, with fmt's text TOLD by the authors' own Lean function (tested against real Go, not proved from fmt's source: count such statements apart). THE CARD IS WHAT COUNTS. Prove the row's statement (the work); the ties are given (YtmiiipdgbkipjaaGreatDoorTie.lean); close each card by the builder's one call (the guide's Derived/Test/ToyasCard.lean, 'card_holds'). Laid BY PROGRAM, IN A SANDBOX (cutbox-door.mjs). By AI agents, Wed Nov 11 2026. No macro, syntax, notation, axiom, sorry.
-/
import Derived.Test.YtmiiipdgbkipjaaGreatDoorRows
import GoSem.ClaimSeven
namespace Go.Proofs.YtmiiipdgbkipjaaGreatDoor
namespace Rows

/-- THE TIED CARD OF 'shambleslaw07.RampRosters'. -/
def rampRostersCard : Claim7 := { stood := { row := rampRostersRow, standIns := [], harness := (true, "3f5e33c3d27e4bfb0a4ea6611374942ced6f1d02a49ab85875b1ab8b62c1e423"), looks := true }, kinds := [], alts := [], laidByText := true, laidKinds := [.data, .data, .data, .data, .sentinel, .sentinel, .pinned], laidTests := true, laidLooks := .later }
def RampRostersCardSaid : Prop := Claim7.holds Tryz.pinned (.plain (OpenSpec.ofChange rampRostersSpec)) rampRostersCard

/-- THE TIED CARD OF 'shambleslaw07.RampTape'. -/
def rampTapeCard : Claim7 := { stood := { row := rampTapeRow, standIns := [], harness := (true, "3f5e33c3d27e4bfb0a4ea6611374942ced6f1d02a49ab85875b1ab8b62c1e423"), looks := true }, kinds := [], alts := [], laidByText := true, laidKinds := [.data, .data, .data, .data, .sentinel, .sentinel, .pinned], laidTests := true, laidLooks := .later }
def RampTapeCardSaid : Prop := Claim7.holds Tryz.pinned (.plain (OpenSpec.ofChange rampTapeSpec)) rampTapeCard

/-- THE SECOND FORM's CARD OF 'shambleslaw07.RampRosters'. -/
def rampRostersUptoCard : Claim7 := { stood := { row := rampRostersUptoRow, standIns := [], harness := (true, "3f5e33c3d27e4bfb0a4ea6611374942ced6f1d02a49ab85875b1ab8b62c1e423"), looks := true }, kinds := [], alts := [], laidByText := true, laidKinds := [.data, .data, .data, .data, .sentinel, .sentinel, .pinned], laidTests := true, laidLooks := .later }
def RampRostersUptoCardSaid : Prop := Claim7.holds Tryz.pinned (.plain (OpenSpec.upto rampRostersSpec)) rampRostersUptoCard

/-- THE SECOND FORM's CARD OF 'shambleslaw07.RampTape'. -/
def rampTapeUptoCard : Claim7 := { stood := { row := rampTapeUptoRow, standIns := [], harness := (true, "3f5e33c3d27e4bfb0a4ea6611374942ced6f1d02a49ab85875b1ab8b62c1e423"), looks := true }, kinds := [], alts := [], laidByText := true, laidKinds := [.data, .data, .data, .data, .sentinel, .sentinel, .pinned], laidTests := true, laidLooks := .later }
def RampTapeUptoCardSaid : Prop := Claim7.holds Tryz.pinned (.plain (OpenSpec.upto rampTapeSpec)) rampTapeUptoCard
end Rows
end Go.Proofs.YtmiiipdgbkipjaaGreatDoor
