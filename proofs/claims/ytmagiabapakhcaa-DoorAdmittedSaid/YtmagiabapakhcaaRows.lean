/-
  No cell of these rows narrows 'for every input' (looked for: loops, veiled, ifaces, maps, wideKeys, modest, calm, conditions, laid).
  DERIVED. THE GIVEN ROWS OF THIS SEAT. 14 by the template 'for every input the law returns true; each argument reads behind the call as it read before'; 0 by the template 'total and deterministic' (their statements: YtmagiabapakhcaaTotals.lean).
  GIVEN WITH THE SEED: the statements are not yours to turn. If you find one false, say at which input.
  Laid BY PROGRAM, IN A SANDBOX (cutbox-rows.mjs): the forced cells as the released guide's own fill.sh prints them over the translation ce9d17ea861ed4a3… (all of the seat's roots in one cut). By AI agents, Wed Nov 11 2026. No macro, syntax, notation, axiom, sorry.
-/
import Derived.Test.YtmagiabapakhcaaChecked
import GoSem.Claim
import GoSem.ClaimJoined
import GoSem.ClaimMapViews
import Derived.JoinedTies
import Derived.KernelRfl
namespace Go.Proofs.Ytmagiabapakhcaa
/- THE CELL 'sum', in the pinned program and in every row, IS THE sha256 OF THE DUMP (.gsa) THAT YtmagiabapakhcaaProg.lean LOADS. Nothing in Lean hashes anything: it is a label: what it is worth is what the hold of that sum in a sandbox is worth. -/
noncomputable def Try.pinned : Pinned := { name := "ytmagiabapakhcaa", sum := "ce9d17ea861ed4a3e50ad43ea7cc676669f66b0626c6b5a71a39ddc87030d0d3", checked := Try.checked }
namespace Rows
def none {H : Type} : Left H := { results := [], args := [] }

/-- 'shambleslaw09.DoorInside': WHATEVER THE INPUT: true; the input reads as it did. -/
def doorInsideSpec : ChangeSpec := { name := "doorInside", fn := fun _ => fun
  | [d1, d2, d3] => { results := [.lit (.bool true)], args := [d1, d2, d3] }
  | _ => none }
def doorInsideRow : OpenClaim := { program := "ytmagiabapakhcaa", sum := "ce9d17ea861ed4a3e50ad43ea7cc676669f66b0626c6b5a71a39ddc87030d0d3", func := "shambles/shambleslaw09.DoorInside", spec := "doorInside", unfollowed := true, recurses := true, plainKeys := false, apart := false }
def DoorInsideSaid : Prop := doorInsideRow.holds Try.pinned (OpenSpec.ofChange doorInsideSpec)

/-- ITS FALSE NEIGHBOUR: 'it returns false'. Refute it at one input. -/
def doorInsideWrong : ChangeSpec := { name := "doorInside", fn := fun _ => fun
  | [d1, d2, d3] => { results := [.lit (.bool false)], args := [d1, d2, d3] }
  | _ => none }
def DoorInsideWrongFalsely : Prop := doorInsideRow.holds Try.pinned (OpenSpec.ofChange doorInsideWrong)

/-- 'shambleslaw09.DoorLeaves': WHATEVER THE INPUT: true; the input reads as it did. -/
def doorLeavesSpec : ChangeSpec := { name := "doorLeaves", fn := fun _ => fun
  | [d1, d2, d3, d4] => { results := [.lit (.bool true)], args := [d1, d2, d3, d4] }
  | _ => none }
def doorLeavesRow : OpenClaim := { program := "ytmagiabapakhcaa", sum := "ce9d17ea861ed4a3e50ad43ea7cc676669f66b0626c6b5a71a39ddc87030d0d3", func := "shambles/shambleslaw09.DoorLeaves", spec := "doorLeaves", unfollowed := true, recurses := true, plainKeys := false, apart := false }
def DoorLeavesSaid : Prop := doorLeavesRow.holds Try.pinned (OpenSpec.ofChange doorLeavesSpec)

/-- ITS FALSE NEIGHBOUR: 'it returns false'. Refute it at one input. -/
def doorLeavesWrong : ChangeSpec := { name := "doorLeaves", fn := fun _ => fun
  | [d1, d2, d3, d4] => { results := [.lit (.bool false)], args := [d1, d2, d3, d4] }
  | _ => none }
def DoorLeavesWrongFalsely : Prop := doorLeavesRow.holds Try.pinned (OpenSpec.ofChange doorLeavesWrong)

/-- 'shambleslaw09.DoorFeeds': WHATEVER THE INPUT: true; the input reads as it did. -/
def doorFeedsSpec : ChangeSpec := { name := "doorFeeds", fn := fun _ => fun
  | [d1, d2] => { results := [.lit (.bool true)], args := [d1, d2] }
  | _ => none }
def doorFeedsRow : OpenClaim := { program := "ytmagiabapakhcaa", sum := "ce9d17ea861ed4a3e50ad43ea7cc676669f66b0626c6b5a71a39ddc87030d0d3", func := "shambles/shambleslaw09.DoorFeeds", spec := "doorFeeds", unfollowed := true, recurses := true, plainKeys := false, apart := false }
def DoorFeedsSaid : Prop := doorFeedsRow.holds Try.pinned (OpenSpec.ofChange doorFeedsSpec)

/-- ITS FALSE NEIGHBOUR: 'it returns false'. Refute it at one input. -/
def doorFeedsWrong : ChangeSpec := { name := "doorFeeds", fn := fun _ => fun
  | [d1, d2] => { results := [.lit (.bool false)], args := [d1, d2] }
  | _ => none }
def DoorFeedsWrongFalsely : Prop := doorFeedsRow.holds Try.pinned (OpenSpec.ofChange doorFeedsWrong)

/-- 'shambleslaw09.DoorTrue': WHATEVER THE INPUT: true; the input reads as it did. -/
def doorTrueSpec : ChangeSpec := { name := "doorTrue", fn := fun _ => fun
  | [d] => { results := [.lit (.bool true)], args := [d] }
  | _ => none }
def doorTrueRow : OpenClaim := { program := "ytmagiabapakhcaa", sum := "ce9d17ea861ed4a3e50ad43ea7cc676669f66b0626c6b5a71a39ddc87030d0d3", func := "shambles/shambleslaw09.DoorTrue", spec := "doorTrue", unfollowed := true, recurses := true, plainKeys := false, apart := false }
def DoorTrueSaid : Prop := doorTrueRow.holds Try.pinned (OpenSpec.ofChange doorTrueSpec)

/-- ITS FALSE NEIGHBOUR: 'it returns false'. Refute it at one input. -/
def doorTrueWrong : ChangeSpec := { name := "doorTrue", fn := fun _ => fun
  | [d] => { results := [.lit (.bool false)], args := [d] }
  | _ => none }
def DoorTrueWrongFalsely : Prop := doorTrueRow.holds Try.pinned (OpenSpec.ofChange doorTrueWrong)

/-- 'shambleslaw09.DoorAll': WHATEVER THE INPUT: true; the input reads as it did. -/
def doorAllSpec : ChangeSpec := { name := "doorAll", fn := fun _ => fun
  | [d] => { results := [.lit (.bool true)], args := [d] }
  | _ => none }
def doorAllRow : OpenClaim := { program := "ytmagiabapakhcaa", sum := "ce9d17ea861ed4a3e50ad43ea7cc676669f66b0626c6b5a71a39ddc87030d0d3", func := "shambles/shambleslaw09.DoorAll", spec := "doorAll", unfollowed := true, recurses := true, plainKeys := false, apart := false }
def DoorAllSaid : Prop := doorAllRow.holds Try.pinned (OpenSpec.ofChange doorAllSpec)

/-- ITS FALSE NEIGHBOUR: 'it returns false'. Refute it at one input. -/
def doorAllWrong : ChangeSpec := { name := "doorAll", fn := fun _ => fun
  | [d] => { results := [.lit (.bool false)], args := [d] }
  | _ => none }
def DoorAllWrongFalsely : Prop := doorAllRow.holds Try.pinned (OpenSpec.ofChange doorAllWrong)

/-- 'shambleslaw09.DoorCounted': WHATEVER THE INPUT: true; the input reads as it did. -/
def doorCountedSpec : ChangeSpec := { name := "doorCounted", fn := fun _ => fun
  | [d] => { results := [.lit (.bool true)], args := [d] }
  | _ => none }
def doorCountedRow : OpenClaim := { program := "ytmagiabapakhcaa", sum := "ce9d17ea861ed4a3e50ad43ea7cc676669f66b0626c6b5a71a39ddc87030d0d3", func := "shambles/shambleslaw09.DoorCounted", spec := "doorCounted", unfollowed := true, recurses := true, plainKeys := false, apart := false }
def DoorCountedSaid : Prop := doorCountedRow.holds Try.pinned (OpenSpec.ofChange doorCountedSpec)

/-- ITS FALSE NEIGHBOUR: 'it returns false'. Refute it at one input. -/
def doorCountedWrong : ChangeSpec := { name := "doorCounted", fn := fun _ => fun
  | [d] => { results := [.lit (.bool false)], args := [d] }
  | _ => none }
def DoorCountedWrongFalsely : Prop := doorCountedRow.holds Try.pinned (OpenSpec.ofChange doorCountedWrong)

/-- 'shambleslaw09.DoorLeave': WHATEVER THE INPUT: true; the input reads as it did. -/
def doorLeaveSpec : ChangeSpec := { name := "doorLeave", fn := fun _ => fun
  | [d] => { results := [.lit (.bool true)], args := [d] }
  | _ => none }
def doorLeaveRow : OpenClaim := { program := "ytmagiabapakhcaa", sum := "ce9d17ea861ed4a3e50ad43ea7cc676669f66b0626c6b5a71a39ddc87030d0d3", func := "shambles/shambleslaw09.DoorLeave", spec := "doorLeave", unfollowed := true, recurses := true, plainKeys := false, apart := false }
def DoorLeaveSaid : Prop := doorLeaveRow.holds Try.pinned (OpenSpec.ofChange doorLeaveSpec)

/-- ITS FALSE NEIGHBOUR: 'it returns false'. Refute it at one input. -/
def doorLeaveWrong : ChangeSpec := { name := "doorLeave", fn := fun _ => fun
  | [d] => { results := [.lit (.bool false)], args := [d] }
  | _ => none }
def DoorLeaveWrongFalsely : Prop := doorLeaveRow.holds Try.pinned (OpenSpec.ofChange doorLeaveWrong)

/-- 'shambleslaw09.DoorFewer': WHATEVER THE INPUT: true; the input reads as it did. -/
def doorFewerSpec : ChangeSpec := { name := "doorFewer", fn := fun _ => fun
  | [d] => { results := [.lit (.bool true)], args := [d] }
  | _ => none }
def doorFewerRow : OpenClaim := { program := "ytmagiabapakhcaa", sum := "ce9d17ea861ed4a3e50ad43ea7cc676669f66b0626c6b5a71a39ddc87030d0d3", func := "shambles/shambleslaw09.DoorFewer", spec := "doorFewer", unfollowed := true, recurses := true, plainKeys := false, apart := false }
def DoorFewerSaid : Prop := doorFewerRow.holds Try.pinned (OpenSpec.ofChange doorFewerSpec)

/-- ITS FALSE NEIGHBOUR: 'it returns false'. Refute it at one input. -/
def doorFewerWrong : ChangeSpec := { name := "doorFewer", fn := fun _ => fun
  | [d] => { results := [.lit (.bool false)], args := [d] }
  | _ => none }
def DoorFewerWrongFalsely : Prop := doorFewerRow.holds Try.pinned (OpenSpec.ofChange doorFewerWrong)

/-- 'shambleslaw09.DoorAdmitted': WHATEVER THE INPUT: true; the input reads as it did. -/
def doorAdmittedSpec : ChangeSpec := { name := "doorAdmitted", fn := fun _ => fun
  | [d] => { results := [.lit (.bool true)], args := [d] }
  | _ => none }
def doorAdmittedRow : OpenClaim := { program := "ytmagiabapakhcaa", sum := "ce9d17ea861ed4a3e50ad43ea7cc676669f66b0626c6b5a71a39ddc87030d0d3", func := "shambles/shambleslaw09.DoorAdmitted", spec := "doorAdmitted", unfollowed := true, recurses := true, plainKeys := false, apart := false }
def DoorAdmittedSaid : Prop := doorAdmittedRow.holds Try.pinned (OpenSpec.ofChange doorAdmittedSpec)

/-- ITS FALSE NEIGHBOUR: 'it returns false'. Refute it at one input. -/
def doorAdmittedWrong : ChangeSpec := { name := "doorAdmitted", fn := fun _ => fun
  | [d] => { results := [.lit (.bool false)], args := [d] }
  | _ => none }
def DoorAdmittedWrongFalsely : Prop := doorAdmittedRow.holds Try.pinned (OpenSpec.ofChange doorAdmittedWrong)

/-- 'shambleslaw09.DoorFed': WHATEVER THE INPUT: true; the input reads as it did. -/
def doorFedSpec : ChangeSpec := { name := "doorFed", fn := fun _ => fun
  | [d] => { results := [.lit (.bool true)], args := [d] }
  | _ => none }
def doorFedRow : OpenClaim := { program := "ytmagiabapakhcaa", sum := "ce9d17ea861ed4a3e50ad43ea7cc676669f66b0626c6b5a71a39ddc87030d0d3", func := "shambles/shambleslaw09.DoorFed", spec := "doorFed", unfollowed := true, recurses := true, plainKeys := false, apart := false }
def DoorFedSaid : Prop := doorFedRow.holds Try.pinned (OpenSpec.ofChange doorFedSpec)

/-- ITS FALSE NEIGHBOUR: 'it returns false'. Refute it at one input. -/
def doorFedWrong : ChangeSpec := { name := "doorFed", fn := fun _ => fun
  | [d] => { results := [.lit (.bool false)], args := [d] }
  | _ => none }
def DoorFedWrongFalsely : Prop := doorFedRow.holds Try.pinned (OpenSpec.ofChange doorFedWrong)

/-- 'shambleslaw09.DoorBest': WHATEVER THE INPUT: true; the input reads as it did. -/
def doorBestSpec : ChangeSpec := { name := "doorBest", fn := fun _ => fun
  | [d] => { results := [.lit (.bool true)], args := [d] }
  | _ => none }
def doorBestRow : OpenClaim := { program := "ytmagiabapakhcaa", sum := "ce9d17ea861ed4a3e50ad43ea7cc676669f66b0626c6b5a71a39ddc87030d0d3", func := "shambles/shambleslaw09.DoorBest", spec := "doorBest", unfollowed := true, recurses := true, plainKeys := false, apart := false }
def DoorBestSaid : Prop := doorBestRow.holds Try.pinned (OpenSpec.ofChange doorBestSpec)

/-- ITS FALSE NEIGHBOUR: 'it returns false'. Refute it at one input. -/
def doorBestWrong : ChangeSpec := { name := "doorBest", fn := fun _ => fun
  | [d] => { results := [.lit (.bool false)], args := [d] }
  | _ => none }
def DoorBestWrongFalsely : Prop := doorBestRow.holds Try.pinned (OpenSpec.ofChange doorBestWrong)

/-- 'shambleslaw09.DoorKept': WHATEVER THE INPUT: true; the input reads as it did. -/
def doorKeptSpec : ChangeSpec := { name := "doorKept", fn := fun _ => fun
  | [d] => { results := [.lit (.bool true)], args := [d] }
  | _ => none }
def doorKeptRow : OpenClaim := { program := "ytmagiabapakhcaa", sum := "ce9d17ea861ed4a3e50ad43ea7cc676669f66b0626c6b5a71a39ddc87030d0d3", func := "shambles/shambleslaw09.DoorKept", spec := "doorKept", unfollowed := true, recurses := true, plainKeys := false, apart := false }
def DoorKeptSaid : Prop := doorKeptRow.holds Try.pinned (OpenSpec.ofChange doorKeptSpec)

/-- ITS FALSE NEIGHBOUR: 'it returns false'. Refute it at one input. -/
def doorKeptWrong : ChangeSpec := { name := "doorKept", fn := fun _ => fun
  | [d] => { results := [.lit (.bool false)], args := [d] }
  | _ => none }
def DoorKeptWrongFalsely : Prop := doorKeptRow.holds Try.pinned (OpenSpec.ofChange doorKeptWrong)

/-- 'shambleslaw09.DoorAdmits': WHATEVER THE INPUT: true; the input reads as it did. -/
def doorAdmitsSpec : ChangeSpec := { name := "doorAdmits", fn := fun _ => fun
  | [d1, d2, d3, d4, d5] => { results := [.lit (.bool true)], args := [d1, d2, d3, d4, d5] }
  | _ => none }
def doorAdmitsRow : OpenClaim := { program := "ytmagiabapakhcaa", sum := "ce9d17ea861ed4a3e50ad43ea7cc676669f66b0626c6b5a71a39ddc87030d0d3", func := "shambles/shambleslaw09.DoorAdmits", spec := "doorAdmits", unfollowed := true, recurses := true, plainKeys := false, apart := false }
def DoorAdmitsSaid : Prop := doorAdmitsRow.holds Try.pinned (OpenSpec.ofChange doorAdmitsSpec)

/-- ITS FALSE NEIGHBOUR: 'it returns false'. Refute it at one input. -/
def doorAdmitsWrong : ChangeSpec := { name := "doorAdmits", fn := fun _ => fun
  | [d1, d2, d3, d4, d5] => { results := [.lit (.bool false)], args := [d1, d2, d3, d4, d5] }
  | _ => none }
def DoorAdmitsWrongFalsely : Prop := doorAdmitsRow.holds Try.pinned (OpenSpec.ofChange doorAdmitsWrong)

/-- 'shambleslaw09.DoorSafe': WHATEVER THE INPUT: true; the input reads as it did. -/
def doorSafeSpec : ChangeSpec := { name := "doorSafe", fn := fun _ => fun
  | [d] => { results := [.lit (.bool true)], args := [d] }
  | _ => none }
def doorSafeRow : OpenClaim := { program := "ytmagiabapakhcaa", sum := "ce9d17ea861ed4a3e50ad43ea7cc676669f66b0626c6b5a71a39ddc87030d0d3", func := "shambles/shambleslaw09.DoorSafe", spec := "doorSafe", unfollowed := true, recurses := true, plainKeys := false, apart := false }
def DoorSafeSaid : Prop := doorSafeRow.holds Try.pinned (OpenSpec.ofChange doorSafeSpec)

/-- ITS FALSE NEIGHBOUR: 'it returns false'. Refute it at one input. -/
def doorSafeWrong : ChangeSpec := { name := "doorSafe", fn := fun _ => fun
  | [d] => { results := [.lit (.bool false)], args := [d] }
  | _ => none }
def DoorSafeWrongFalsely : Prop := doorSafeRow.holds Try.pinned (OpenSpec.ofChange doorSafeWrong)

/- THE SECOND FORM. 'bulk': how many values and letters a reading holds, each counted each time it is reached (what is shared counts as often as it is met; a slice's spare places count too). A statement '..UptoSaid' is the law's where the arguments, and the package variables that the reading takes, are together of bulk at most 1048576: NARROWER than '..Said'. Prove '..Said' where nothing that the law and all that it calls make is longer than what came in: it says more and counts as full. Else prove '..UptoSaid'. A law counts once. -/
mutual
def uptoBulk {H : Type} : DataW H → Nat
  | .lit (.string bytes) => bytes.length + 1
  | .lit _ => 1
  | .nil => 1
  | .ptr d => uptoBulk d + 1
  | .slice elems spare => uptoBulkAll elems + uptoBulkAll spare + 1
  | .agg parts => uptoBulkAll parts + 1
  | .iface _ d => uptoBulk d + 1
  | .map entries => uptoBulkEntries entries + 1
  | .held _ => 1
def uptoBulkAll {H : Type} : List (DataW H) → Nat
  | [] => 0
  | d :: r => uptoBulk d + uptoBulkAll r
def uptoBulkEntries {H : Type} : List (Lit × DataW H) → Nat
  | [] => 0
  | x :: r => uptoBulkEntry x + uptoBulkEntries r
def uptoBulkEntry {H : Type} : Lit × DataW H → Nat
  | (.string bytes, d) => bytes.length + uptoBulk d + 1
  | (_, d) => uptoBulk d + 1
 end
def uptoSmall : (H : Type) → List (DataW H) → Bool := fun _ ds => decide (uptoBulkAll ds ≤ 1048576)
def OpenSpec.upto (s : _root_.Go.ChangeSpec) : _root_.Go.OpenSpec := { _root_.Go.OpenSpec.ofChange s with cond := some uptoSmall }

/-- 'shambleslaw09.DoorInside', WHERE WHAT IT READS IS OF BULK AT MOST 1048576: true; the input reads as it did. -/
def doorInsideUptoRow : OpenClaim := { program := "ytmagiabapakhcaa", sum := "ce9d17ea861ed4a3e50ad43ea7cc676669f66b0626c6b5a71a39ddc87030d0d3", func := "shambles/shambleslaw09.DoorInside", spec := "doorInside", unfollowed := true, recurses := true, plainKeys := false, apart := false, narrowed := true }
def DoorInsideUptoSaid : Prop := doorInsideUptoRow.holds Try.pinned (OpenSpec.upto doorInsideSpec)

/-- 'shambleslaw09.DoorLeaves', WHERE WHAT IT READS IS OF BULK AT MOST 1048576: true; the input reads as it did. -/
def doorLeavesUptoRow : OpenClaim := { program := "ytmagiabapakhcaa", sum := "ce9d17ea861ed4a3e50ad43ea7cc676669f66b0626c6b5a71a39ddc87030d0d3", func := "shambles/shambleslaw09.DoorLeaves", spec := "doorLeaves", unfollowed := true, recurses := true, plainKeys := false, apart := false, narrowed := true }
def DoorLeavesUptoSaid : Prop := doorLeavesUptoRow.holds Try.pinned (OpenSpec.upto doorLeavesSpec)

/-- 'shambleslaw09.DoorFeeds', WHERE WHAT IT READS IS OF BULK AT MOST 1048576: true; the input reads as it did. -/
def doorFeedsUptoRow : OpenClaim := { program := "ytmagiabapakhcaa", sum := "ce9d17ea861ed4a3e50ad43ea7cc676669f66b0626c6b5a71a39ddc87030d0d3", func := "shambles/shambleslaw09.DoorFeeds", spec := "doorFeeds", unfollowed := true, recurses := true, plainKeys := false, apart := false, narrowed := true }
def DoorFeedsUptoSaid : Prop := doorFeedsUptoRow.holds Try.pinned (OpenSpec.upto doorFeedsSpec)

/-- 'shambleslaw09.DoorTrue', WHERE WHAT IT READS IS OF BULK AT MOST 1048576: true; the input reads as it did. -/
def doorTrueUptoRow : OpenClaim := { program := "ytmagiabapakhcaa", sum := "ce9d17ea861ed4a3e50ad43ea7cc676669f66b0626c6b5a71a39ddc87030d0d3", func := "shambles/shambleslaw09.DoorTrue", spec := "doorTrue", unfollowed := true, recurses := true, plainKeys := false, apart := false, narrowed := true }
def DoorTrueUptoSaid : Prop := doorTrueUptoRow.holds Try.pinned (OpenSpec.upto doorTrueSpec)

/-- 'shambleslaw09.DoorAll', WHERE WHAT IT READS IS OF BULK AT MOST 1048576: true; the input reads as it did. -/
def doorAllUptoRow : OpenClaim := { program := "ytmagiabapakhcaa", sum := "ce9d17ea861ed4a3e50ad43ea7cc676669f66b0626c6b5a71a39ddc87030d0d3", func := "shambles/shambleslaw09.DoorAll", spec := "doorAll", unfollowed := true, recurses := true, plainKeys := false, apart := false, narrowed := true }
def DoorAllUptoSaid : Prop := doorAllUptoRow.holds Try.pinned (OpenSpec.upto doorAllSpec)

/-- 'shambleslaw09.DoorCounted', WHERE WHAT IT READS IS OF BULK AT MOST 1048576: true; the input reads as it did. -/
def doorCountedUptoRow : OpenClaim := { program := "ytmagiabapakhcaa", sum := "ce9d17ea861ed4a3e50ad43ea7cc676669f66b0626c6b5a71a39ddc87030d0d3", func := "shambles/shambleslaw09.DoorCounted", spec := "doorCounted", unfollowed := true, recurses := true, plainKeys := false, apart := false, narrowed := true }
def DoorCountedUptoSaid : Prop := doorCountedUptoRow.holds Try.pinned (OpenSpec.upto doorCountedSpec)

/-- 'shambleslaw09.DoorLeave', WHERE WHAT IT READS IS OF BULK AT MOST 1048576: true; the input reads as it did. -/
def doorLeaveUptoRow : OpenClaim := { program := "ytmagiabapakhcaa", sum := "ce9d17ea861ed4a3e50ad43ea7cc676669f66b0626c6b5a71a39ddc87030d0d3", func := "shambles/shambleslaw09.DoorLeave", spec := "doorLeave", unfollowed := true, recurses := true, plainKeys := false, apart := false, narrowed := true }
def DoorLeaveUptoSaid : Prop := doorLeaveUptoRow.holds Try.pinned (OpenSpec.upto doorLeaveSpec)

/-- 'shambleslaw09.DoorFewer', WHERE WHAT IT READS IS OF BULK AT MOST 1048576: true; the input reads as it did. -/
def doorFewerUptoRow : OpenClaim := { program := "ytmagiabapakhcaa", sum := "ce9d17ea861ed4a3e50ad43ea7cc676669f66b0626c6b5a71a39ddc87030d0d3", func := "shambles/shambleslaw09.DoorFewer", spec := "doorFewer", unfollowed := true, recurses := true, plainKeys := false, apart := false, narrowed := true }
def DoorFewerUptoSaid : Prop := doorFewerUptoRow.holds Try.pinned (OpenSpec.upto doorFewerSpec)

/-- 'shambleslaw09.DoorAdmitted', WHERE WHAT IT READS IS OF BULK AT MOST 1048576: true; the input reads as it did. -/
def doorAdmittedUptoRow : OpenClaim := { program := "ytmagiabapakhcaa", sum := "ce9d17ea861ed4a3e50ad43ea7cc676669f66b0626c6b5a71a39ddc87030d0d3", func := "shambles/shambleslaw09.DoorAdmitted", spec := "doorAdmitted", unfollowed := true, recurses := true, plainKeys := false, apart := false, narrowed := true }
def DoorAdmittedUptoSaid : Prop := doorAdmittedUptoRow.holds Try.pinned (OpenSpec.upto doorAdmittedSpec)

/-- 'shambleslaw09.DoorFed', WHERE WHAT IT READS IS OF BULK AT MOST 1048576: true; the input reads as it did. -/
def doorFedUptoRow : OpenClaim := { program := "ytmagiabapakhcaa", sum := "ce9d17ea861ed4a3e50ad43ea7cc676669f66b0626c6b5a71a39ddc87030d0d3", func := "shambles/shambleslaw09.DoorFed", spec := "doorFed", unfollowed := true, recurses := true, plainKeys := false, apart := false, narrowed := true }
def DoorFedUptoSaid : Prop := doorFedUptoRow.holds Try.pinned (OpenSpec.upto doorFedSpec)

/-- 'shambleslaw09.DoorBest', WHERE WHAT IT READS IS OF BULK AT MOST 1048576: true; the input reads as it did. -/
def doorBestUptoRow : OpenClaim := { program := "ytmagiabapakhcaa", sum := "ce9d17ea861ed4a3e50ad43ea7cc676669f66b0626c6b5a71a39ddc87030d0d3", func := "shambles/shambleslaw09.DoorBest", spec := "doorBest", unfollowed := true, recurses := true, plainKeys := false, apart := false, narrowed := true }
def DoorBestUptoSaid : Prop := doorBestUptoRow.holds Try.pinned (OpenSpec.upto doorBestSpec)

/-- 'shambleslaw09.DoorKept', WHERE WHAT IT READS IS OF BULK AT MOST 1048576: true; the input reads as it did. -/
def doorKeptUptoRow : OpenClaim := { program := "ytmagiabapakhcaa", sum := "ce9d17ea861ed4a3e50ad43ea7cc676669f66b0626c6b5a71a39ddc87030d0d3", func := "shambles/shambleslaw09.DoorKept", spec := "doorKept", unfollowed := true, recurses := true, plainKeys := false, apart := false, narrowed := true }
def DoorKeptUptoSaid : Prop := doorKeptUptoRow.holds Try.pinned (OpenSpec.upto doorKeptSpec)

/-- 'shambleslaw09.DoorAdmits', WHERE WHAT IT READS IS OF BULK AT MOST 1048576: true; the input reads as it did. -/
def doorAdmitsUptoRow : OpenClaim := { program := "ytmagiabapakhcaa", sum := "ce9d17ea861ed4a3e50ad43ea7cc676669f66b0626c6b5a71a39ddc87030d0d3", func := "shambles/shambleslaw09.DoorAdmits", spec := "doorAdmits", unfollowed := true, recurses := true, plainKeys := false, apart := false, narrowed := true }
def DoorAdmitsUptoSaid : Prop := doorAdmitsUptoRow.holds Try.pinned (OpenSpec.upto doorAdmitsSpec)

/-- 'shambleslaw09.DoorSafe', WHERE WHAT IT READS IS OF BULK AT MOST 1048576: true; the input reads as it did. -/
def doorSafeUptoRow : OpenClaim := { program := "ytmagiabapakhcaa", sum := "ce9d17ea861ed4a3e50ad43ea7cc676669f66b0626c6b5a71a39ddc87030d0d3", func := "shambles/shambleslaw09.DoorSafe", spec := "doorSafe", unfollowed := true, recurses := true, plainKeys := false, apart := false, narrowed := true }
def DoorSafeUptoSaid : Prop := doorSafeUptoRow.holds Try.pinned (OpenSpec.upto doorSafeSpec)

end Rows
end Go.Proofs.Ytmagiabapakhcaa
