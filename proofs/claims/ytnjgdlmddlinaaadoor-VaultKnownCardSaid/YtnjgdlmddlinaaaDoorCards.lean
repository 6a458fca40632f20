/-
  DERIVED. GIVEN WITH THE SEED: THE CARDS: each row of YtnjgdlmddlinaaaDoorRows.lean that lists a variable, with what it lists TIED to the program's text (the seventh form; the later family's looks); each row that meets fmt, with fmt's text TOLD by the authors' own Lean function (tested against real Go, not proved from fmt's source: count such statements apart). THE CARD IS WHAT COUNTS. Prove the row's statement (the work); the ties are given (YtnjgdlmddlinaaaDoorTie.lean); close each card by the builder's one call (the guide's Derived/Test/ToyasCard.lean, 'card_holds'). Laid BY PROGRAM, IN A SANDBOX (cutbox-door.mjs). By AI agents, Wed Nov 11 2026. No macro, syntax, notation, axiom, sorry.
-/
import Derived.Test.YtnjgdlmddlinaaaDoorRows
import GoSem.ClaimSeven
namespace Go.Proofs.YtnjgdlmddlinaaaDoor
namespace Rows

/-- THE TIED CARD OF 'shambleslaw03.VaultKnown'. -/
def vaultKnownCard : Claim7 := { stood := { row := vaultKnownRow, standIns := [], harness := (true, "7b34060bd2635737f9ed818bcfbcf0c3f14760cfce8c36f9017ce7c862f3625a"), looks := false }, kinds := [], alts := [], laidByText := true, laidKinds := [.data, .data, .data], laidTests := true, laidLooks := .later }
def VaultKnownCardSaid : Prop := Claim7.holds Tryd.pinned (.plain (OpenSpec.ofChange vaultKnownSpec)) vaultKnownCard

/-- THE SECOND FORM's CARD OF 'shambleslaw03.VaultKnown'. -/
def vaultKnownUptoCard : Claim7 := { stood := { row := vaultKnownUptoRow, standIns := [], harness := (true, "7b34060bd2635737f9ed818bcfbcf0c3f14760cfce8c36f9017ce7c862f3625a"), looks := false }, kinds := [], alts := [], laidByText := true, laidKinds := [.data, .data, .data], laidTests := true, laidLooks := .later }
def VaultKnownUptoCardSaid : Prop := Claim7.holds Tryd.pinned (.plain (OpenSpec.upto vaultKnownSpec)) vaultKnownUptoCard
end Rows
end Go.Proofs.YtnjgdlmddlinaaaDoor
