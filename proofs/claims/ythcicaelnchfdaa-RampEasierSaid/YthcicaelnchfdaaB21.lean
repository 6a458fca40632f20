/- A part of the proofs about the chapter of the ramps; it states no condition of its own. -/
import Derived.Test.YthcicaelnchfdaaB15
import Derived.Test.YthcicaelnchfdaaB16
import Derived.Test.YthcicaelnchfdaaB20
set_option linter.unusedVariables false
set_option linter.unusedSimpArgs false
/- The reference's Held, on values. (Vm) -/
namespace Go.Proofs.Ythcicaelnchfdaa.Vm
open Go Go.Proofs
end Go.Proofs.Ythcicaelnchfdaa.Vm

/- The reference's Longest, Shortest, Holds, Away, on values. (Vm) -/
namespace Go.Proofs.Ythcicaelnchfdaa.Vm
open Go Go.Proofs
end Go.Proofs.Ythcicaelnchfdaa.Vm

/- Away, Last, Before, on values. (Vm) -/
namespace Go.Proofs.Ythcicaelnchfdaa.Vm
open Go Go.Proofs
end Go.Proofs.Ythcicaelnchfdaa.Vm

/- Last, Before, on values. (Vm) -/
namespace Go.Proofs.Ythcicaelnchfdaa.Vm
open Go Go.Proofs
end Go.Proofs.Ythcicaelnchfdaa.Vm
