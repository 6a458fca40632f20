/- A part of the proofs about the chapter of the doors; it states no condition of its own. -/
import Derived.Test.YtmagiabapakhcaaB29
import Derived.Test.YtmagiabapakhcaaB34
import Derived.Test.YtmagiabapakhcaaB38
import Derived.Test.YtmagiabapakhcaaB50
set_option linter.unusedVariables false
set_option linter.unusedSimpArgs false
/- Memory of which one object is written. (Vm) -/
namespace Go.Proofs.Ytmagiabapakhcaa.Vm
open Go Go.Proofs
section
variable {H0 : List VObj} {s : Nat} (hd : s < H0.length) {cs : List VV} {L : List VObj}
include hd
end
end Go.Proofs.Ytmagiabapakhcaa.Vm

/- The law's tallies of all ways in which it may have been, on values. (Vm) -/
namespace Go.Proofs.Ytmagiabapakhcaa
open Vm
end Go.Proofs.Ytmagiabapakhcaa
namespace Go.Proofs.Ytmagiabapakhcaa.Vm
open Go Go.Proofs
end Go.Proofs.Ytmagiabapakhcaa.Vm

/- The law's tallies, all of them, on values. (Vm) -/
namespace Go.Proofs.Ytmagiabapakhcaa
open Vm
end Go.Proofs.Ytmagiabapakhcaa
namespace Go.Proofs.Ytmagiabapakhcaa.Vm
open Go Go.Proofs
end Go.Proofs.Ytmagiabapakhcaa.Vm
