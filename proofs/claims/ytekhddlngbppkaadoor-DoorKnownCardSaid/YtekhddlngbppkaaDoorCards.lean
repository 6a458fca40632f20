/-
  DERIVED. GIVEN WITH THE SEED: THE CARDS: each row of YtekhddlngbppkaaDoorRows.lean that lists a variable, with what it lists TIED to the program's text (the seventh form; the later family's looks); each row that meets fmt, with fmt's text TOLD by the authors' own Lean function (tested against real Go, not proved from fmt's source: count such statements apart). THE CARD IS WHAT COUNTS. Prove the row's statement (the work); the ties are given (YtekhddlngbppkaaDoorTie.lean); close each card by the builder's one call (the guide's Derived/Test/ToyasCard.lean, 'card_holds'). Laid BY PROGRAM, IN A SANDBOX (cutbox-door.mjs). By AI agents, Wed Nov 11 2026. No macro, syntax, notation, axiom, sorry.
-/
import Derived.Test.YtekhddlngbppkaaDoorRows
import GoSem.ClaimSeven
namespace Go.Proofs.YtekhddlngbppkaaDoor
namespace Rows

/-- THE TIED CARD OF 'shambleslaw09.DoorKnown'. -/
def doorKnownCard : Claim7 := { stood := { row := doorKnownRow, standIns := [], harness := (true, "93b2e9a936b4548d13899af163439b450d372704f942c103808cd4f4eaac527f"), looks := false }, kinds := [], alts := [], laidByText := true, laidKinds := [.data, .data, .data], laidTests := true, laidLooks := .later }
def DoorKnownCardSaid : Prop := Claim7.holds Tryd.pinned (.plain (OpenSpec.ofChange doorKnownSpec)) doorKnownCard

/-- THE SECOND FORM's CARD OF 'shambleslaw09.DoorKnown'. -/
def doorKnownUptoCard : Claim7 := { stood := { row := doorKnownUptoRow, standIns := [], harness := (true, "93b2e9a936b4548d13899af163439b450d372704f942c103808cd4f4eaac527f"), looks := false }, kinds := [], alts := [], laidByText := true, laidKinds := [.data, .data, .data], laidTests := true, laidLooks := .later }
def DoorKnownUptoCardSaid : Prop := Claim7.holds Tryd.pinned (.plain (OpenSpec.upto doorKnownSpec)) doorKnownUptoCard
end Rows
end Go.Proofs.YtekhddlngbppkaaDoor
