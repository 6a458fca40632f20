/-
  DERIVED. GIVEN WITH THE SEED: THE CARDS: each row of YtominlgikchnmaaGreatDoorRows.lean that lists a variable, with what it lists TIED to the program's text (the seventh form; the later family's looks); each row that meets fmt, with fmt's text TOLD by the authors' own Lean function (tested against real Go, not proved from fmt's source: count such statements apart). THE CARD IS WHAT COUNTS. Prove the row's statement (the work); the ties are given (YtominlgikchnmaaGreatDoorTie.lean); close each card by the builder's one call (the guide's Derived/Test/ToyasCard.lean, 'card_holds'). Laid BY PROGRAM, IN A SANDBOX (cutbox-door.mjs). By AI agents, Wed Nov 11 2026. No macro, syntax, notation, axiom, sorry.
-/
import Derived.Test.YtominlgikchnmaaGreatDoorRows
import GoSem.ClaimSeven
namespace Go.Proofs.YtominlgikchnmaaGreatDoor
namespace Rows

/-- THE TIED CARD OF 'shambleslaw03.VaultDrawings'. -/
def vaultDrawingsCard : Claim7 := { stood := { row := vaultDrawingsRow, standIns := [], harness := (true, "778696ced5fac548ec6303ff933c603d7d3275b55430765fee80fbcebfa6bc93"), looks := true }, kinds := [], alts := [], laidByText := true, laidKinds := [.data, .data, .data, .data, .sentinel, .sentinel, .pinned], laidTests := true, laidLooks := .later }
def VaultDrawingsCardSaid : Prop := Claim7.holds Tryz.pinned (.plain (OpenSpec.ofChange vaultDrawingsSpec)) vaultDrawingsCard

/-- THE TIED CARD OF 'shambleslaw03.VaultTape'. -/
def vaultTapeCard : Claim7 := { stood := { row := vaultTapeRow, standIns := [], harness := (true, "778696ced5fac548ec6303ff933c603d7d3275b55430765fee80fbcebfa6bc93"), looks := true }, kinds := [], alts := [], laidByText := true, laidKinds := [.data, .data, .data, .data, .sentinel, .sentinel, .pinned], laidTests := true, laidLooks := .later }
def VaultTapeCardSaid : Prop := Claim7.holds Tryz.pinned (.plain (OpenSpec.ofChange vaultTapeSpec)) vaultTapeCard

/-- THE SECOND FORM's CARD OF 'shambleslaw03.VaultDrawings'. -/
def vaultDrawingsUptoCard : Claim7 := { stood := { row := vaultDrawingsUptoRow, standIns := [], harness := (true, "778696ced5fac548ec6303ff933c603d7d3275b55430765fee80fbcebfa6bc93"), looks := true }, kinds := [], alts := [], laidByText := true, laidKinds := [.data, .data, .data, .data, .sentinel, .sentinel, .pinned], laidTests := true, laidLooks := .later }
def VaultDrawingsUptoCardSaid : Prop := Claim7.holds Tryz.pinned (.plain (OpenSpec.upto vaultDrawingsSpec)) vaultDrawingsUptoCard

/-- THE SECOND FORM's CARD OF 'shambleslaw03.VaultTape'. -/
def vaultTapeUptoCard : Claim7 := { stood := { row := vaultTapeUptoRow, standIns := [], harness := (true, "778696ced5fac548ec6303ff933c603d7d3275b55430765fee80fbcebfa6bc93"), looks := true }, kinds := [], alts := [], laidByText := true, laidKinds := [.data, .data, .data, .data, .sentinel, .sentinel, .pinned], laidTests := true, laidLooks := .later }
def VaultTapeUptoCardSaid : Prop := Claim7.holds Tryz.pinned (.plain (OpenSpec.upto vaultTapeSpec)) vaultTapeUptoCard
end Rows
end Go.Proofs.YtominlgikchnmaaGreatDoor
