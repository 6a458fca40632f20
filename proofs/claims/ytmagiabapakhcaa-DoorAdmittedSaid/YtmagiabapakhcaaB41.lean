/- A part of the proofs about the chapter of the doors; it states no condition of its own. -/
import Derived.Test.YtmagiabapakhcaaB38
import Derived.Test.YtmagiabapakhcaaB40
set_option linter.unusedVariables false
set_option linter.unusedSimpArgs false
/- The reference: how many people can be outside, on values. (Vm) -/
namespace Go.Proofs.Ytmagiabapakhcaa.Vm
open Go Go.Proofs
end Go.Proofs.Ytmagiabapakhcaa.Vm

/- The reference: in how many ticks people can leave, on values. (Vm) -/
namespace Go.Proofs.Ytmagiabapakhcaa.Vm
open Go Go.Proofs
end Go.Proofs.Ytmagiabapakhcaa.Vm
