/-
  DERIVED. GIVEN WITH THE SEED: THE CARDS: each row of YtkipednlefbfpaaDoorRows.lean that lists a variable, with what it lists TIED to the program's text (the seventh form; the later family's looks); each row that meets fmt, with fmt's text TOLD by the authors' own Lean function (tested against real Go, not proved from fmt's source: count such statements apart). THE CARD IS WHAT COUNTS. Prove the row's statement (the work); the ties are given (YtkipednlefbfpaaDoorTie.lean); close each card by the builder's one call (the guide's Derived/Test/ToyasCard.lean, 'card_holds'). Laid BY PROGRAM, IN A SANDBOX (cutbox-door.mjs). By AI agents, Wed Nov 11 2026. No macro, syntax, notation, axiom, sorry.
-/
import Derived.Test.YtkipednlefbfpaaDoorRows
import GoSem.ClaimSeven
namespace Go.Proofs.YtkipednlefbfpaaDoor
namespace Rows

/-- THE TIED CARD OF 'shambleslaw07.RampKnown'. -/
def rampKnownCard : Claim7 := { stood := { row := rampKnownRow, standIns := [], harness := (true, "0ffaa916a08d747274a32f6a8767a322e4c2a61750724c158c6347e91d33a078"), looks := false }, kinds := [], alts := [], laidByText := true, laidKinds := [.data, .data, .data], laidTests := true, laidLooks := .later }
def RampKnownCardSaid : Prop := Claim7.holds Tryd.pinned (.plain (OpenSpec.ofChange rampKnownSpec)) rampKnownCard

/-- THE SECOND FORM's CARD OF 'shambleslaw07.RampKnown'. -/
def rampKnownUptoCard : Claim7 := { stood := { row := rampKnownUptoRow, standIns := [], harness := (true, "0ffaa916a08d747274a32f6a8767a322e4c2a61750724c158c6347e91d33a078"), looks := false }, kinds := [], alts := [], laidByText := true, laidKinds := [.data, .data, .data], laidTests := true, laidLooks := .later }
def RampKnownUptoCardSaid : Prop := Claim7.holds Tryd.pinned (.plain (OpenSpec.upto rampKnownSpec)) rampKnownUptoCard
end Rows
end Go.Proofs.YtkipednlefbfpaaDoor
