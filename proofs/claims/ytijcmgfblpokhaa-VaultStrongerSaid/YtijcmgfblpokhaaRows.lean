/-
  No cell of these rows narrows 'for every input' (looked for: loops, veiled, ifaces, maps, wideKeys, modest, calm, conditions, laid).
  DERIVED. THE GIVEN ROWS OF THIS SEAT. 10 by the template 'for every input the law returns true; each argument reads behind the call as it read before'; 0 by the template 'total and deterministic' (their statements: YtijcmgfblpokhaaTotals.lean).
  GIVEN WITH THE SEED: the statements are not yours to turn. If you find one false, say at which input.
  Laid BY PROGRAM, IN A SANDBOX (cutbox-rows.mjs): the forced cells as the released guide's own fill.sh prints them over the translation 0949fda235c3cd55… (all of the seat's roots in one cut). By AI agents, Wed Nov 11 2026. No macro, syntax, notation, axiom, sorry.
-/
import Derived.Test.YtijcmgfblpokhaaChecked
import GoSem.Claim
import GoSem.ClaimJoined
import GoSem.ClaimMapViews
import Derived.JoinedTies
import Derived.KernelRfl
namespace Go.Proofs.Ytijcmgfblpokhaa
/- THE CELL 'sum', in the pinned program and in every row, IS THE sha256 OF THE DUMP (.gsa) THAT YtijcmgfblpokhaaProg.lean LOADS. Nothing in Lean hashes anything: it is a label: what it is worth is what the hold of that sum in a sandbox is worth. -/
noncomputable def Try.pinned : Pinned := { name := "ytijcmgfblpokhaa", sum := "0949fda235c3cd55598cc927275e2b0f0e715c2b5a4beb214a3ead8ab485d5dd", checked := Try.checked }
namespace Rows
def none {H : Type} : Left H := { results := [], args := [] }

/-- 'shambleslaw03.VaultChosen': WHATEVER THE INPUT: true; the input reads as it did. -/
def vaultChosenSpec : ChangeSpec := { name := "vaultChosen", fn := fun _ => fun
  | [d1, d2] => { results := [.lit (.bool true)], args := [d1, d2] }
  | _ => none }
def vaultChosenRow : OpenClaim := { program := "ytijcmgfblpokhaa", sum := "0949fda235c3cd55598cc927275e2b0f0e715c2b5a4beb214a3ead8ab485d5dd", func := "shambles/shambleslaw03.VaultChosen", spec := "vaultChosen", unfollowed := true, recurses := true, plainKeys := false, apart := false }
def VaultChosenSaid : Prop := vaultChosenRow.holds Try.pinned (OpenSpec.ofChange vaultChosenSpec)

/-- ITS FALSE NEIGHBOUR: 'it returns false'. Refute it at one input. -/
def vaultChosenWrong : ChangeSpec := { name := "vaultChosen", fn := fun _ => fun
  | [d1, d2] => { results := [.lit (.bool false)], args := [d1, d2] }
  | _ => none }
def VaultChosenWrongFalsely : Prop := vaultChosenRow.holds Try.pinned (OpenSpec.ofChange vaultChosenWrong)

/-- 'shambleslaw03.VaultTrue': WHATEVER THE INPUT: true; the input reads as it did. -/
def vaultTrueSpec : ChangeSpec := { name := "vaultTrue", fn := fun _ => fun
  | [d] => { results := [.lit (.bool true)], args := [d] }
  | _ => none }
def vaultTrueRow : OpenClaim := { program := "ytijcmgfblpokhaa", sum := "0949fda235c3cd55598cc927275e2b0f0e715c2b5a4beb214a3ead8ab485d5dd", func := "shambles/shambleslaw03.VaultTrue", spec := "vaultTrue", unfollowed := true, recurses := true, plainKeys := false, apart := false }
def VaultTrueSaid : Prop := vaultTrueRow.holds Try.pinned (OpenSpec.ofChange vaultTrueSpec)

/-- ITS FALSE NEIGHBOUR: 'it returns false'. Refute it at one input. -/
def vaultTrueWrong : ChangeSpec := { name := "vaultTrue", fn := fun _ => fun
  | [d] => { results := [.lit (.bool false)], args := [d] }
  | _ => none }
def VaultTrueWrongFalsely : Prop := vaultTrueRow.holds Try.pinned (OpenSpec.ofChange vaultTrueWrong)

/-- 'shambleslaw03.VaultEnds': WHATEVER THE INPUT: true; the input reads as it did. -/
def vaultEndsSpec : ChangeSpec := { name := "vaultEnds", fn := fun _ => fun
  | [d] => { results := [.lit (.bool true)], args := [d] }
  | _ => none }
def vaultEndsRow : OpenClaim := { program := "ytijcmgfblpokhaa", sum := "0949fda235c3cd55598cc927275e2b0f0e715c2b5a4beb214a3ead8ab485d5dd", func := "shambles/shambleslaw03.VaultEnds", spec := "vaultEnds", unfollowed := true, recurses := true, plainKeys := false, apart := false }
def VaultEndsSaid : Prop := vaultEndsRow.holds Try.pinned (OpenSpec.ofChange vaultEndsSpec)

/-- ITS FALSE NEIGHBOUR: 'it returns false'. Refute it at one input. -/
def vaultEndsWrong : ChangeSpec := { name := "vaultEnds", fn := fun _ => fun
  | [d] => { results := [.lit (.bool false)], args := [d] }
  | _ => none }
def VaultEndsWrongFalsely : Prop := vaultEndsRow.holds Try.pinned (OpenSpec.ofChange vaultEndsWrong)

/-- 'shambleslaw03.VaultLayouts': WHATEVER THE INPUT: true; the input reads as it did. -/
def vaultLayoutsSpec : ChangeSpec := { name := "vaultLayouts", fn := fun _ => fun
  | [d1, d2, d3, d4] => { results := [.lit (.bool true)], args := [d1, d2, d3, d4] }
  | _ => none }
def vaultLayoutsRow : OpenClaim := { program := "ytijcmgfblpokhaa", sum := "0949fda235c3cd55598cc927275e2b0f0e715c2b5a4beb214a3ead8ab485d5dd", func := "shambles/shambleslaw03.VaultLayouts", spec := "vaultLayouts", unfollowed := true, recurses := true, plainKeys := false, apart := false }
def VaultLayoutsSaid : Prop := vaultLayoutsRow.holds Try.pinned (OpenSpec.ofChange vaultLayoutsSpec)

/-- ITS FALSE NEIGHBOUR: 'it returns false'. Refute it at one input. -/
def vaultLayoutsWrong : ChangeSpec := { name := "vaultLayouts", fn := fun _ => fun
  | [d1, d2, d3, d4] => { results := [.lit (.bool false)], args := [d1, d2, d3, d4] }
  | _ => none }
def VaultLayoutsWrongFalsely : Prop := vaultLayoutsRow.holds Try.pinned (OpenSpec.ofChange vaultLayoutsWrong)

/-- 'shambleslaw03.VaultFewer': WHATEVER THE INPUT: true; the input reads as it did. -/
def vaultFewerSpec : ChangeSpec := { name := "vaultFewer", fn := fun _ => fun
  | [d] => { results := [.lit (.bool true)], args := [d] }
  | _ => none }
def vaultFewerRow : OpenClaim := { program := "ytijcmgfblpokhaa", sum := "0949fda235c3cd55598cc927275e2b0f0e715c2b5a4beb214a3ead8ab485d5dd", func := "shambles/shambleslaw03.VaultFewer", spec := "vaultFewer", unfollowed := true, recurses := true, plainKeys := false, apart := false }
def VaultFewerSaid : Prop := vaultFewerRow.holds Try.pinned (OpenSpec.ofChange vaultFewerSpec)

/-- ITS FALSE NEIGHBOUR: 'it returns false'. Refute it at one input. -/
def vaultFewerWrong : ChangeSpec := { name := "vaultFewer", fn := fun _ => fun
  | [d] => { results := [.lit (.bool false)], args := [d] }
  | _ => none }
def VaultFewerWrongFalsely : Prop := vaultFewerRow.holds Try.pinned (OpenSpec.ofChange vaultFewerWrong)

/-- 'shambleslaw03.VaultBest': WHATEVER THE INPUT: true; the input reads as it did. -/
def vaultBestSpec : ChangeSpec := { name := "vaultBest", fn := fun _ => fun
  | [d] => { results := [.lit (.bool true)], args := [d] }
  | _ => none }
def vaultBestRow : OpenClaim := { program := "ytijcmgfblpokhaa", sum := "0949fda235c3cd55598cc927275e2b0f0e715c2b5a4beb214a3ead8ab485d5dd", func := "shambles/shambleslaw03.VaultBest", spec := "vaultBest", unfollowed := true, recurses := true, plainKeys := false, apart := false }
def VaultBestSaid : Prop := vaultBestRow.holds Try.pinned (OpenSpec.ofChange vaultBestSpec)

/-- ITS FALSE NEIGHBOUR: 'it returns false'. Refute it at one input. -/
def vaultBestWrong : ChangeSpec := { name := "vaultBest", fn := fun _ => fun
  | [d] => { results := [.lit (.bool false)], args := [d] }
  | _ => none }
def VaultBestWrongFalsely : Prop := vaultBestRow.holds Try.pinned (OpenSpec.ofChange vaultBestWrong)

/-- 'shambleslaw03.VaultStronger': WHATEVER THE INPUT: true; the input reads as it did. -/
def vaultStrongerSpec : ChangeSpec := { name := "vaultStronger", fn := fun _ => fun
  | [d] => { results := [.lit (.bool true)], args := [d] }
  | _ => none }
def vaultStrongerRow : OpenClaim := { program := "ytijcmgfblpokhaa", sum := "0949fda235c3cd55598cc927275e2b0f0e715c2b5a4beb214a3ead8ab485d5dd", func := "shambles/shambleslaw03.VaultStronger", spec := "vaultStronger", unfollowed := true, recurses := true, plainKeys := false, apart := false }
def VaultStrongerSaid : Prop := vaultStrongerRow.holds Try.pinned (OpenSpec.ofChange vaultStrongerSpec)

/-- ITS FALSE NEIGHBOUR: 'it returns false'. Refute it at one input. -/
def vaultStrongerWrong : ChangeSpec := { name := "vaultStronger", fn := fun _ => fun
  | [d] => { results := [.lit (.bool false)], args := [d] }
  | _ => none }
def VaultStrongerWrongFalsely : Prop := vaultStrongerRow.holds Try.pinned (OpenSpec.ofChange vaultStrongerWrong)

/-- 'shambleslaw03.VaultMirror': WHATEVER THE INPUT: true; the input reads as it did. -/
def vaultMirrorSpec : ChangeSpec := { name := "vaultMirror", fn := fun _ => fun
  | [d] => { results := [.lit (.bool true)], args := [d] }
  | _ => none }
def vaultMirrorRow : OpenClaim := { program := "ytijcmgfblpokhaa", sum := "0949fda235c3cd55598cc927275e2b0f0e715c2b5a4beb214a3ead8ab485d5dd", func := "shambles/shambleslaw03.VaultMirror", spec := "vaultMirror", unfollowed := true, recurses := true, plainKeys := false, apart := false }
def VaultMirrorSaid : Prop := vaultMirrorRow.holds Try.pinned (OpenSpec.ofChange vaultMirrorSpec)

/-- ITS FALSE NEIGHBOUR: 'it returns false'. Refute it at one input. -/
def vaultMirrorWrong : ChangeSpec := { name := "vaultMirror", fn := fun _ => fun
  | [d] => { results := [.lit (.bool false)], args := [d] }
  | _ => none }
def VaultMirrorWrongFalsely : Prop := vaultMirrorRow.holds Try.pinned (OpenSpec.ofChange vaultMirrorWrong)

/-- 'shambleslaw03.VaultRooms': WHATEVER THE INPUT: true; the input reads as it did. -/
def vaultRoomsSpec : ChangeSpec := { name := "vaultRooms", fn := fun _ => fun
  | [d1, d2, d3, d4] => { results := [.lit (.bool true)], args := [d1, d2, d3, d4] }
  | _ => none }
def vaultRoomsRow : OpenClaim := { program := "ytijcmgfblpokhaa", sum := "0949fda235c3cd55598cc927275e2b0f0e715c2b5a4beb214a3ead8ab485d5dd", func := "shambles/shambleslaw03.VaultRooms", spec := "vaultRooms", unfollowed := true, recurses := true, plainKeys := false, apart := false }
def VaultRoomsSaid : Prop := vaultRoomsRow.holds Try.pinned (OpenSpec.ofChange vaultRoomsSpec)

/-- ITS FALSE NEIGHBOUR: 'it returns false'. Refute it at one input. -/
def vaultRoomsWrong : ChangeSpec := { name := "vaultRooms", fn := fun _ => fun
  | [d1, d2, d3, d4] => { results := [.lit (.bool false)], args := [d1, d2, d3, d4] }
  | _ => none }
def VaultRoomsWrongFalsely : Prop := vaultRoomsRow.holds Try.pinned (OpenSpec.ofChange vaultRoomsWrong)

/-- 'shambleslaw03.VaultRoom': WHATEVER THE INPUT: true; the input reads as it did. -/
def vaultRoomSpec : ChangeSpec := { name := "vaultRoom", fn := fun _ => fun
  | [d] => { results := [.lit (.bool true)], args := [d] }
  | _ => none }
def vaultRoomRow : OpenClaim := { program := "ytijcmgfblpokhaa", sum := "0949fda235c3cd55598cc927275e2b0f0e715c2b5a4beb214a3ead8ab485d5dd", func := "shambles/shambleslaw03.VaultRoom", spec := "vaultRoom", unfollowed := true, recurses := true, plainKeys := false, apart := false }
def VaultRoomSaid : Prop := vaultRoomRow.holds Try.pinned (OpenSpec.ofChange vaultRoomSpec)

/-- ITS FALSE NEIGHBOUR: 'it returns false'. Refute it at one input. -/
def vaultRoomWrong : ChangeSpec := { name := "vaultRoom", fn := fun _ => fun
  | [d] => { results := [.lit (.bool false)], args := [d] }
  | _ => none }
def VaultRoomWrongFalsely : Prop := vaultRoomRow.holds Try.pinned (OpenSpec.ofChange vaultRoomWrong)

/- THE SECOND FORM. 'bulk': how many values and letters a reading holds, each counted each time it is reached (what is shared counts as often as it is met; a slice's spare places count too). A statement '..UptoSaid' is the law's where the arguments, and the package variables that the reading takes, are together of bulk at most 1048576: NARROWER than '..Said'. Prove '..Said' where nothing that the law and all that it calls make is longer than what came in: it says more and counts as full. Else prove '..UptoSaid'. A law counts once. -/
mutual
def uptoBulk {H : Type} : DataW H → Nat
  | .lit (.string bytes) => bytes.length + 1
  | .lit _ => 1
  | .nil => 1
  | .ptr d => uptoBulk d + 1
  | .slice elems spare => uptoBulkAll elems + uptoBulkAll spare + 1
  | .agg parts => uptoBulkAll parts + 1
  | .iface _ d => uptoBulk d + 1
  | .map entries => uptoBulkEntries entries + 1
  | .held _ => 1
def uptoBulkAll {H : Type} : List (DataW H) → Nat
  | [] => 0
  | d :: r => uptoBulk d + uptoBulkAll r
def uptoBulkEntries {H : Type} : List (Lit × DataW H) → Nat
  | [] => 0
  | x :: r => uptoBulkEntry x + uptoBulkEntries r
def uptoBulkEntry {H : Type} : Lit × DataW H → Nat
  | (.string bytes, d) => bytes.length + uptoBulk d + 1
  | (_, d) => uptoBulk d + 1
 end
def uptoSmall : (H : Type) → List (DataW H) → Bool := fun _ ds => decide (uptoBulkAll ds ≤ 1048576)
def OpenSpec.upto (s : _root_.Go.ChangeSpec) : _root_.Go.OpenSpec := { _root_.Go.OpenSpec.ofChange s with cond := some uptoSmall }

/-- 'shambleslaw03.VaultChosen', WHERE WHAT IT READS IS OF BULK AT MOST 1048576: true; the input reads as it did. -/
def vaultChosenUptoRow : OpenClaim := { program := "ytijcmgfblpokhaa", sum := "0949fda235c3cd55598cc927275e2b0f0e715c2b5a4beb214a3ead8ab485d5dd", func := "shambles/shambleslaw03.VaultChosen", spec := "vaultChosen", unfollowed := true, recurses := true, plainKeys := false, apart := false, narrowed := true }
def VaultChosenUptoSaid : Prop := vaultChosenUptoRow.holds Try.pinned (OpenSpec.upto vaultChosenSpec)

/-- 'shambleslaw03.VaultTrue', WHERE WHAT IT READS IS OF BULK AT MOST 1048576: true; the input reads as it did. -/
def vaultTrueUptoRow : OpenClaim := { program := "ytijcmgfblpokhaa", sum := "0949fda235c3cd55598cc927275e2b0f0e715c2b5a4beb214a3ead8ab485d5dd", func := "shambles/shambleslaw03.VaultTrue", spec := "vaultTrue", unfollowed := true, recurses := true, plainKeys := false, apart := false, narrowed := true }
def VaultTrueUptoSaid : Prop := vaultTrueUptoRow.holds Try.pinned (OpenSpec.upto vaultTrueSpec)

/-- 'shambleslaw03.VaultEnds', WHERE WHAT IT READS IS OF BULK AT MOST 1048576: true; the input reads as it did. -/
def vaultEndsUptoRow : OpenClaim := { program := "ytijcmgfblpokhaa", sum := "0949fda235c3cd55598cc927275e2b0f0e715c2b5a4beb214a3ead8ab485d5dd", func := "shambles/shambleslaw03.VaultEnds", spec := "vaultEnds", unfollowed := true, recurses := true, plainKeys := false, apart := false, narrowed := true }
def VaultEndsUptoSaid : Prop := vaultEndsUptoRow.holds Try.pinned (OpenSpec.upto vaultEndsSpec)

/-- 'shambleslaw03.VaultLayouts', WHERE WHAT IT READS IS OF BULK AT MOST 1048576: true; the input reads as it did. -/
def vaultLayoutsUptoRow : OpenClaim := { program := "ytijcmgfblpokhaa", sum := "0949fda235c3cd55598cc927275e2b0f0e715c2b5a4beb214a3ead8ab485d5dd", func := "shambles/shambleslaw03.VaultLayouts", spec := "vaultLayouts", unfollowed := true, recurses := true, plainKeys := false, apart := false, narrowed := true }
def VaultLayoutsUptoSaid : Prop := vaultLayoutsUptoRow.holds Try.pinned (OpenSpec.upto vaultLayoutsSpec)

/-- 'shambleslaw03.VaultFewer', WHERE WHAT IT READS IS OF BULK AT MOST 1048576: true; the input reads as it did. -/
def vaultFewerUptoRow : OpenClaim := { program := "ytijcmgfblpokhaa", sum := "0949fda235c3cd55598cc927275e2b0f0e715c2b5a4beb214a3ead8ab485d5dd", func := "shambles/shambleslaw03.VaultFewer", spec := "vaultFewer", unfollowed := true, recurses := true, plainKeys := false, apart := false, narrowed := true }
def VaultFewerUptoSaid : Prop := vaultFewerUptoRow.holds Try.pinned (OpenSpec.upto vaultFewerSpec)

/-- 'shambleslaw03.VaultBest', WHERE WHAT IT READS IS OF BULK AT MOST 1048576: true; the input reads as it did. -/
def vaultBestUptoRow : OpenClaim := { program := "ytijcmgfblpokhaa", sum := "0949fda235c3cd55598cc927275e2b0f0e715c2b5a4beb214a3ead8ab485d5dd", func := "shambles/shambleslaw03.VaultBest", spec := "vaultBest", unfollowed := true, recurses := true, plainKeys := false, apart := false, narrowed := true }
def VaultBestUptoSaid : Prop := vaultBestUptoRow.holds Try.pinned (OpenSpec.upto vaultBestSpec)

/-- 'shambleslaw03.VaultStronger', WHERE WHAT IT READS IS OF BULK AT MOST 1048576: true; the input reads as it did. -/
def vaultStrongerUptoRow : OpenClaim := { program := "ytijcmgfblpokhaa", sum := "0949fda235c3cd55598cc927275e2b0f0e715c2b5a4beb214a3ead8ab485d5dd", func := "shambles/shambleslaw03.VaultStronger", spec := "vaultStronger", unfollowed := true, recurses := true, plainKeys := false, apart := false, narrowed := true }
def VaultStrongerUptoSaid : Prop := vaultStrongerUptoRow.holds Try.pinned (OpenSpec.upto vaultStrongerSpec)

/-- 'shambleslaw03.VaultMirror', WHERE WHAT IT READS IS OF BULK AT MOST 1048576: true; the input reads as it did. -/
def vaultMirrorUptoRow : OpenClaim := { program := "ytijcmgfblpokhaa", sum := "0949fda235c3cd55598cc927275e2b0f0e715c2b5a4beb214a3ead8ab485d5dd", func := "shambles/shambleslaw03.VaultMirror", spec := "vaultMirror", unfollowed := true, recurses := true, plainKeys := false, apart := false, narrowed := true }
def VaultMirrorUptoSaid : Prop := vaultMirrorUptoRow.holds Try.pinned (OpenSpec.upto vaultMirrorSpec)

/-- 'shambleslaw03.VaultRooms', WHERE WHAT IT READS IS OF BULK AT MOST 1048576: true; the input reads as it did. -/
def vaultRoomsUptoRow : OpenClaim := { program := "ytijcmgfblpokhaa", sum := "0949fda235c3cd55598cc927275e2b0f0e715c2b5a4beb214a3ead8ab485d5dd", func := "shambles/shambleslaw03.VaultRooms", spec := "vaultRooms", unfollowed := true, recurses := true, plainKeys := false, apart := false, narrowed := true }
def VaultRoomsUptoSaid : Prop := vaultRoomsUptoRow.holds Try.pinned (OpenSpec.upto vaultRoomsSpec)

/-- 'shambleslaw03.VaultRoom', WHERE WHAT IT READS IS OF BULK AT MOST 1048576: true; the input reads as it did. -/
def vaultRoomUptoRow : OpenClaim := { program := "ytijcmgfblpokhaa", sum := "0949fda235c3cd55598cc927275e2b0f0e715c2b5a4beb214a3ead8ab485d5dd", func := "shambles/shambleslaw03.VaultRoom", spec := "vaultRoom", unfollowed := true, recurses := true, plainKeys := false, apart := false, narrowed := true }
def VaultRoomUptoSaid : Prop := vaultRoomUptoRow.holds Try.pinned (OpenSpec.upto vaultRoomSpec)

end Rows
end Go.Proofs.Ytijcmgfblpokhaa
