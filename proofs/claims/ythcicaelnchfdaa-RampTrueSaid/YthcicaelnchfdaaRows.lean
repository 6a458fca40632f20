/-
  No cell of these rows narrows 'for every input' (looked for: loops, veiled, ifaces, maps, wideKeys, modest, calm, conditions, laid).
  DERIVED. THE GIVEN ROWS OF THIS SEAT. 11 by the template 'for every input the law returns true; each argument reads behind the call as it read before'; 0 by the template 'total and deterministic' (their statements: YthcicaelnchfdaaTotals.lean).
  GIVEN WITH THE SEED: the statements are not yours to turn. If you find one false, say at which input.
  Laid BY PROGRAM, IN A SANDBOX (cutbox-rows.mjs): the forced cells as the released guide's own fill.sh prints them over the translation 4f37fab9f3d8504b… (all of the seat's roots in one cut). By AI agents, Wed Nov 11 2026. No macro, syntax, notation, axiom, sorry.
-/
import Derived.Test.YthcicaelnchfdaaChecked
import GoSem.Claim
import GoSem.ClaimJoined
import GoSem.ClaimMapViews
import Derived.JoinedTies
import Derived.KernelRfl
namespace Go.Proofs.Ythcicaelnchfdaa
/- THE CELL 'sum', in the pinned program and in every row, IS THE sha256 OF THE DUMP (.gsa) THAT YthcicaelnchfdaaProg.lean LOADS. Nothing in Lean hashes anything: it is a label: what it is worth is what the hold of that sum in a sandbox is worth. -/
noncomputable def Try.pinned : Pinned := { name := "ythcicaelnchfdaa", sum := "4f37fab9f3d8504b6d79f80523b1e49c6ef80bdf9d4e9f46676b947d476b6bd8", checked := Try.checked }
namespace Rows
def none {H : Type} : Left H := { results := [], args := [] }

/-- 'shambleslaw07.RampServes': WHATEVER THE INPUT: true; the input reads as it did. -/
def rampServesSpec : ChangeSpec := { name := "rampServes", fn := fun _ => fun
  | [d1, d2] => { results := [.lit (.bool true)], args := [d1, d2] }
  | _ => none }
def rampServesRow : OpenClaim := { program := "ythcicaelnchfdaa", sum := "4f37fab9f3d8504b6d79f80523b1e49c6ef80bdf9d4e9f46676b947d476b6bd8", func := "shambles/shambleslaw07.RampServes", spec := "rampServes", unfollowed := true, recurses := true, apart := false }
def RampServesSaid : Prop := rampServesRow.holds Try.pinned (OpenSpec.ofChange rampServesSpec)

/-- ITS FALSE NEIGHBOUR: 'it returns false'. Refute it at one input. -/
def rampServesWrong : ChangeSpec := { name := "rampServes", fn := fun _ => fun
  | [d1, d2] => { results := [.lit (.bool false)], args := [d1, d2] }
  | _ => none }
def RampServesWrongFalsely : Prop := rampServesRow.holds Try.pinned (OpenSpec.ofChange rampServesWrong)

/-- 'shambleslaw07.RampStuck': WHATEVER THE INPUT: true; the input reads as it did. -/
def rampStuckSpec : ChangeSpec := { name := "rampStuck", fn := fun _ => fun
  | [d1, d2] => { results := [.lit (.bool true)], args := [d1, d2] }
  | _ => none }
def rampStuckRow : OpenClaim := { program := "ythcicaelnchfdaa", sum := "4f37fab9f3d8504b6d79f80523b1e49c6ef80bdf9d4e9f46676b947d476b6bd8", func := "shambles/shambleslaw07.RampStuck", spec := "rampStuck", unfollowed := true, recurses := true, apart := false }
def RampStuckSaid : Prop := rampStuckRow.holds Try.pinned (OpenSpec.ofChange rampStuckSpec)

/-- ITS FALSE NEIGHBOUR: 'it returns false'. Refute it at one input. -/
def rampStuckWrong : ChangeSpec := { name := "rampStuck", fn := fun _ => fun
  | [d1, d2] => { results := [.lit (.bool false)], args := [d1, d2] }
  | _ => none }
def RampStuckWrongFalsely : Prop := rampStuckRow.holds Try.pinned (OpenSpec.ofChange rampStuckWrong)

/-- 'shambleslaw07.RampLess': WHATEVER THE INPUT: true; the input reads as it did. -/
def rampLessSpec : ChangeSpec := { name := "rampLess", fn := fun _ => fun
  | [d] => { results := [.lit (.bool true)], args := [d] }
  | _ => none }
def rampLessRow : OpenClaim := { program := "ythcicaelnchfdaa", sum := "4f37fab9f3d8504b6d79f80523b1e49c6ef80bdf9d4e9f46676b947d476b6bd8", func := "shambles/shambleslaw07.RampLess", spec := "rampLess", unfollowed := true, recurses := true, apart := false }
def RampLessSaid : Prop := rampLessRow.holds Try.pinned (OpenSpec.ofChange rampLessSpec)

/-- ITS FALSE NEIGHBOUR: 'it returns false'. Refute it at one input. -/
def rampLessWrong : ChangeSpec := { name := "rampLess", fn := fun _ => fun
  | [d] => { results := [.lit (.bool false)], args := [d] }
  | _ => none }
def RampLessWrongFalsely : Prop := rampLessRow.holds Try.pinned (OpenSpec.ofChange rampLessWrong)

/-- 'shambleslaw07.RampMost': WHATEVER THE INPUT: true; the input reads as it did. -/
def rampMostSpec : ChangeSpec := { name := "rampMost", fn := fun _ => fun
  | [d] => { results := [.lit (.bool true)], args := [d] }
  | _ => none }
def rampMostRow : OpenClaim := { program := "ythcicaelnchfdaa", sum := "4f37fab9f3d8504b6d79f80523b1e49c6ef80bdf9d4e9f46676b947d476b6bd8", func := "shambles/shambleslaw07.RampMost", spec := "rampMost", unfollowed := true, recurses := true, apart := false }
def RampMostSaid : Prop := rampMostRow.holds Try.pinned (OpenSpec.ofChange rampMostSpec)

/-- ITS FALSE NEIGHBOUR: 'it returns false'. Refute it at one input. -/
def rampMostWrong : ChangeSpec := { name := "rampMost", fn := fun _ => fun
  | [d] => { results := [.lit (.bool false)], args := [d] }
  | _ => none }
def RampMostWrongFalsely : Prop := rampMostRow.holds Try.pinned (OpenSpec.ofChange rampMostWrong)

/-- 'shambleslaw07.RampEasier': WHATEVER THE INPUT: true; the input reads as it did. -/
def rampEasierSpec : ChangeSpec := { name := "rampEasier", fn := fun _ => fun
  | [d] => { results := [.lit (.bool true)], args := [d] }
  | _ => none }
def rampEasierRow : OpenClaim := { program := "ythcicaelnchfdaa", sum := "4f37fab9f3d8504b6d79f80523b1e49c6ef80bdf9d4e9f46676b947d476b6bd8", func := "shambles/shambleslaw07.RampEasier", spec := "rampEasier", unfollowed := true, recurses := true, apart := false }
def RampEasierSaid : Prop := rampEasierRow.holds Try.pinned (OpenSpec.ofChange rampEasierSpec)

/-- ITS FALSE NEIGHBOUR: 'it returns false'. Refute it at one input. -/
def rampEasierWrong : ChangeSpec := { name := "rampEasier", fn := fun _ => fun
  | [d] => { results := [.lit (.bool false)], args := [d] }
  | _ => none }
def RampEasierWrongFalsely : Prop := rampEasierRow.holds Try.pinned (OpenSpec.ofChange rampEasierWrong)

/-- 'shambleslaw07.RampLater': WHATEVER THE INPUT: true; the input reads as it did. -/
def rampLaterSpec : ChangeSpec := { name := "rampLater", fn := fun _ => fun
  | [d] => { results := [.lit (.bool true)], args := [d] }
  | _ => none }
def rampLaterRow : OpenClaim := { program := "ythcicaelnchfdaa", sum := "4f37fab9f3d8504b6d79f80523b1e49c6ef80bdf9d4e9f46676b947d476b6bd8", func := "shambles/shambleslaw07.RampLater", spec := "rampLater", unfollowed := true, recurses := true, apart := false }
def RampLaterSaid : Prop := rampLaterRow.holds Try.pinned (OpenSpec.ofChange rampLaterSpec)

/-- ITS FALSE NEIGHBOUR: 'it returns false'. Refute it at one input. -/
def rampLaterWrong : ChangeSpec := { name := "rampLater", fn := fun _ => fun
  | [d] => { results := [.lit (.bool false)], args := [d] }
  | _ => none }
def RampLaterWrongFalsely : Prop := rampLaterRow.holds Try.pinned (OpenSpec.ofChange rampLaterWrong)

/-- 'shambleslaw07.RampSoonest': WHATEVER THE INPUT: true; the input reads as it did. -/
def rampSoonestSpec : ChangeSpec := { name := "rampSoonest", fn := fun _ => fun
  | [d] => { results := [.lit (.bool true)], args := [d] }
  | _ => none }
def rampSoonestRow : OpenClaim := { program := "ythcicaelnchfdaa", sum := "4f37fab9f3d8504b6d79f80523b1e49c6ef80bdf9d4e9f46676b947d476b6bd8", func := "shambles/shambleslaw07.RampSoonest", spec := "rampSoonest", unfollowed := true, recurses := true, apart := false }
def RampSoonestSaid : Prop := rampSoonestRow.holds Try.pinned (OpenSpec.ofChange rampSoonestSpec)

/-- ITS FALSE NEIGHBOUR: 'it returns false'. Refute it at one input. -/
def rampSoonestWrong : ChangeSpec := { name := "rampSoonest", fn := fun _ => fun
  | [d] => { results := [.lit (.bool false)], args := [d] }
  | _ => none }
def RampSoonestWrongFalsely : Prop := rampSoonestRow.holds Try.pinned (OpenSpec.ofChange rampSoonestWrong)

/-- 'shambleslaw07.RampEnds': WHATEVER THE INPUT: true; the input reads as it did. -/
def rampEndsSpec : ChangeSpec := { name := "rampEnds", fn := fun _ => fun
  | [d] => { results := [.lit (.bool true)], args := [d] }
  | _ => none }
def rampEndsRow : OpenClaim := { program := "ythcicaelnchfdaa", sum := "4f37fab9f3d8504b6d79f80523b1e49c6ef80bdf9d4e9f46676b947d476b6bd8", func := "shambles/shambleslaw07.RampEnds", spec := "rampEnds", unfollowed := true, recurses := true, apart := false }
def RampEndsSaid : Prop := rampEndsRow.holds Try.pinned (OpenSpec.ofChange rampEndsSpec)

/-- ITS FALSE NEIGHBOUR: 'it returns false'. Refute it at one input. -/
def rampEndsWrong : ChangeSpec := { name := "rampEnds", fn := fun _ => fun
  | [d] => { results := [.lit (.bool false)], args := [d] }
  | _ => none }
def RampEndsWrongFalsely : Prop := rampEndsRow.holds Try.pinned (OpenSpec.ofChange rampEndsWrong)

/-- 'shambleslaw07.RampServed': WHATEVER THE INPUT: true; the input reads as it did. -/
def rampServedSpec : ChangeSpec := { name := "rampServed", fn := fun _ => fun
  | [d] => { results := [.lit (.bool true)], args := [d] }
  | _ => none }
def rampServedRow : OpenClaim := { program := "ythcicaelnchfdaa", sum := "4f37fab9f3d8504b6d79f80523b1e49c6ef80bdf9d4e9f46676b947d476b6bd8", func := "shambles/shambleslaw07.RampServed", spec := "rampServed", unfollowed := true, recurses := true, apart := false }
def RampServedSaid : Prop := rampServedRow.holds Try.pinned (OpenSpec.ofChange rampServedSpec)

/-- ITS FALSE NEIGHBOUR: 'it returns false'. Refute it at one input. -/
def rampServedWrong : ChangeSpec := { name := "rampServed", fn := fun _ => fun
  | [d] => { results := [.lit (.bool false)], args := [d] }
  | _ => none }
def RampServedWrongFalsely : Prop := rampServedRow.holds Try.pinned (OpenSpec.ofChange rampServedWrong)

/-- 'shambleslaw07.RampPlans': WHATEVER THE INPUT: true; the input reads as it did. -/
def rampPlansSpec : ChangeSpec := { name := "rampPlans", fn := fun _ => fun
  | [d1, d2, d3, d4, d5] => { results := [.lit (.bool true)], args := [d1, d2, d3, d4, d5] }
  | _ => none }
def rampPlansRow : OpenClaim := { program := "ythcicaelnchfdaa", sum := "4f37fab9f3d8504b6d79f80523b1e49c6ef80bdf9d4e9f46676b947d476b6bd8", func := "shambles/shambleslaw07.RampPlans", spec := "rampPlans", unfollowed := true, recurses := true, apart := false }
def RampPlansSaid : Prop := rampPlansRow.holds Try.pinned (OpenSpec.ofChange rampPlansSpec)

/-- ITS FALSE NEIGHBOUR: 'it returns false'. Refute it at one input. -/
def rampPlansWrong : ChangeSpec := { name := "rampPlans", fn := fun _ => fun
  | [d1, d2, d3, d4, d5] => { results := [.lit (.bool false)], args := [d1, d2, d3, d4, d5] }
  | _ => none }
def RampPlansWrongFalsely : Prop := rampPlansRow.holds Try.pinned (OpenSpec.ofChange rampPlansWrong)

/-- 'shambleslaw07.RampTrue': WHATEVER THE INPUT: true; the input reads as it did. -/
def rampTrueSpec : ChangeSpec := { name := "rampTrue", fn := fun _ => fun
  | [d] => { results := [.lit (.bool true)], args := [d] }
  | _ => none }
def rampTrueRow : OpenClaim := { program := "ythcicaelnchfdaa", sum := "4f37fab9f3d8504b6d79f80523b1e49c6ef80bdf9d4e9f46676b947d476b6bd8", func := "shambles/shambleslaw07.RampTrue", spec := "rampTrue", unfollowed := true, recurses := true, apart := false }
def RampTrueSaid : Prop := rampTrueRow.holds Try.pinned (OpenSpec.ofChange rampTrueSpec)

/-- ITS FALSE NEIGHBOUR: 'it returns false'. Refute it at one input. -/
def rampTrueWrong : ChangeSpec := { name := "rampTrue", fn := fun _ => fun
  | [d] => { results := [.lit (.bool false)], args := [d] }
  | _ => none }
def RampTrueWrongFalsely : Prop := rampTrueRow.holds Try.pinned (OpenSpec.ofChange rampTrueWrong)

/- THE SECOND FORM. 'bulk': how many values and letters a reading holds, each counted each time it is reached (what is shared counts as often as it is met; a slice's spare places count too). A statement '..UptoSaid' is the law's where the arguments, and the package variables that the reading takes, are together of bulk at most 1048576: NARROWER than '..Said'. Prove '..Said' where nothing that the law and all that it calls make is longer than what came in: it says more and counts as full. Else prove '..UptoSaid'. A law counts once. -/
mutual
def uptoBulk {H : Type} : DataW H → Nat
  | .lit (.string bytes) => bytes.length + 1
  | .lit _ => 1
  | .nil => 1
  | .ptr d => uptoBulk d + 1
  | .slice elems spare => uptoBulkAll elems + uptoBulkAll spare + 1
  | .agg parts => uptoBulkAll parts + 1
  | .iface _ d => uptoBulk d + 1
  | .map entries => uptoBulkEntries entries + 1
  | .held _ => 1
def uptoBulkAll {H : Type} : List (DataW H) → Nat
  | [] => 0
  | d :: r => uptoBulk d + uptoBulkAll r
def uptoBulkEntries {H : Type} : List (Lit × DataW H) → Nat
  | [] => 0
  | x :: r => uptoBulkEntry x + uptoBulkEntries r
def uptoBulkEntry {H : Type} : Lit × DataW H → Nat
  | (.string bytes, d) => bytes.length + uptoBulk d + 1
  | (_, d) => uptoBulk d + 1
 end
def uptoSmall : (H : Type) → List (DataW H) → Bool := fun _ ds => decide (uptoBulkAll ds ≤ 1048576)
def OpenSpec.upto (s : _root_.Go.ChangeSpec) : _root_.Go.OpenSpec := { _root_.Go.OpenSpec.ofChange s with cond := some uptoSmall }

/-- 'shambleslaw07.RampServes', WHERE WHAT IT READS IS OF BULK AT MOST 1048576: true; the input reads as it did. -/
def rampServesUptoRow : OpenClaim := { program := "ythcicaelnchfdaa", sum := "4f37fab9f3d8504b6d79f80523b1e49c6ef80bdf9d4e9f46676b947d476b6bd8", func := "shambles/shambleslaw07.RampServes", spec := "rampServes", unfollowed := true, recurses := true, apart := false, narrowed := true }
def RampServesUptoSaid : Prop := rampServesUptoRow.holds Try.pinned (OpenSpec.upto rampServesSpec)

/-- 'shambleslaw07.RampStuck', WHERE WHAT IT READS IS OF BULK AT MOST 1048576: true; the input reads as it did. -/
def rampStuckUptoRow : OpenClaim := { program := "ythcicaelnchfdaa", sum := "4f37fab9f3d8504b6d79f80523b1e49c6ef80bdf9d4e9f46676b947d476b6bd8", func := "shambles/shambleslaw07.RampStuck", spec := "rampStuck", unfollowed := true, recurses := true, apart := false, narrowed := true }
def RampStuckUptoSaid : Prop := rampStuckUptoRow.holds Try.pinned (OpenSpec.upto rampStuckSpec)

/-- 'shambleslaw07.RampLess', WHERE WHAT IT READS IS OF BULK AT MOST 1048576: true; the input reads as it did. -/
def rampLessUptoRow : OpenClaim := { program := "ythcicaelnchfdaa", sum := "4f37fab9f3d8504b6d79f80523b1e49c6ef80bdf9d4e9f46676b947d476b6bd8", func := "shambles/shambleslaw07.RampLess", spec := "rampLess", unfollowed := true, recurses := true, apart := false, narrowed := true }
def RampLessUptoSaid : Prop := rampLessUptoRow.holds Try.pinned (OpenSpec.upto rampLessSpec)

/-- 'shambleslaw07.RampMost', WHERE WHAT IT READS IS OF BULK AT MOST 1048576: true; the input reads as it did. -/
def rampMostUptoRow : OpenClaim := { program := "ythcicaelnchfdaa", sum := "4f37fab9f3d8504b6d79f80523b1e49c6ef80bdf9d4e9f46676b947d476b6bd8", func := "shambles/shambleslaw07.RampMost", spec := "rampMost", unfollowed := true, recurses := true, apart := false, narrowed := true }
def RampMostUptoSaid : Prop := rampMostUptoRow.holds Try.pinned (OpenSpec.upto rampMostSpec)

/-- 'shambleslaw07.RampEasier', WHERE WHAT IT READS IS OF BULK AT MOST 1048576: true; the input reads as it did. -/
def rampEasierUptoRow : OpenClaim := { program := "ythcicaelnchfdaa", sum := "4f37fab9f3d8504b6d79f80523b1e49c6ef80bdf9d4e9f46676b947d476b6bd8", func := "shambles/shambleslaw07.RampEasier", spec := "rampEasier", unfollowed := true, recurses := true, apart := false, narrowed := true }
def RampEasierUptoSaid : Prop := rampEasierUptoRow.holds Try.pinned (OpenSpec.upto rampEasierSpec)

/-- 'shambleslaw07.RampLater', WHERE WHAT IT READS IS OF BULK AT MOST 1048576: true; the input reads as it did. -/
def rampLaterUptoRow : OpenClaim := { program := "ythcicaelnchfdaa", sum := "4f37fab9f3d8504b6d79f80523b1e49c6ef80bdf9d4e9f46676b947d476b6bd8", func := "shambles/shambleslaw07.RampLater", spec := "rampLater", unfollowed := true, recurses := true, apart := false, narrowed := true }
def RampLaterUptoSaid : Prop := rampLaterUptoRow.holds Try.pinned (OpenSpec.upto rampLaterSpec)

/-- 'shambleslaw07.RampSoonest', WHERE WHAT IT READS IS OF BULK AT MOST 1048576: true; the input reads as it did. -/
def rampSoonestUptoRow : OpenClaim := { program := "ythcicaelnchfdaa", sum := "4f37fab9f3d8504b6d79f80523b1e49c6ef80bdf9d4e9f46676b947d476b6bd8", func := "shambles/shambleslaw07.RampSoonest", spec := "rampSoonest", unfollowed := true, recurses := true, apart := false, narrowed := true }
def RampSoonestUptoSaid : Prop := rampSoonestUptoRow.holds Try.pinned (OpenSpec.upto rampSoonestSpec)

/-- 'shambleslaw07.RampEnds', WHERE WHAT IT READS IS OF BULK AT MOST 1048576: true; the input reads as it did. -/
def rampEndsUptoRow : OpenClaim := { program := "ythcicaelnchfdaa", sum := "4f37fab9f3d8504b6d79f80523b1e49c6ef80bdf9d4e9f46676b947d476b6bd8", func := "shambles/shambleslaw07.RampEnds", spec := "rampEnds", unfollowed := true, recurses := true, apart := false, narrowed := true }
def RampEndsUptoSaid : Prop := rampEndsUptoRow.holds Try.pinned (OpenSpec.upto rampEndsSpec)

/-- 'shambleslaw07.RampServed', WHERE WHAT IT READS IS OF BULK AT MOST 1048576: true; the input reads as it did. -/
def rampServedUptoRow : OpenClaim := { program := "ythcicaelnchfdaa", sum := "4f37fab9f3d8504b6d79f80523b1e49c6ef80bdf9d4e9f46676b947d476b6bd8", func := "shambles/shambleslaw07.RampServed", spec := "rampServed", unfollowed := true, recurses := true, apart := false, narrowed := true }
def RampServedUptoSaid : Prop := rampServedUptoRow.holds Try.pinned (OpenSpec.upto rampServedSpec)

/-- 'shambleslaw07.RampPlans', WHERE WHAT IT READS IS OF BULK AT MOST 1048576: true; the input reads as it did. -/
def rampPlansUptoRow : OpenClaim := { program := "ythcicaelnchfdaa", sum := "4f37fab9f3d8504b6d79f80523b1e49c6ef80bdf9d4e9f46676b947d476b6bd8", func := "shambles/shambleslaw07.RampPlans", spec := "rampPlans", unfollowed := true, recurses := true, apart := false, narrowed := true }
def RampPlansUptoSaid : Prop := rampPlansUptoRow.holds Try.pinned (OpenSpec.upto rampPlansSpec)

/-- 'shambleslaw07.RampTrue', WHERE WHAT IT READS IS OF BULK AT MOST 1048576: true; the input reads as it did. -/
def rampTrueUptoRow : OpenClaim := { program := "ythcicaelnchfdaa", sum := "4f37fab9f3d8504b6d79f80523b1e49c6ef80bdf9d4e9f46676b947d476b6bd8", func := "shambles/shambleslaw07.RampTrue", spec := "rampTrue", unfollowed := true, recurses := true, apart := false, narrowed := true }
def RampTrueUptoSaid : Prop := rampTrueUptoRow.holds Try.pinned (OpenSpec.upto rampTrueSpec)

end Rows
end Go.Proofs.Ythcicaelnchfdaa
