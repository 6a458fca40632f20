/- A part of the proofs about the chapter of the doors; it states no condition of its own. -/
import Derived.Test.YtmagiabapakhcaaB25
import Derived.Test.YtmagiabapakhcaaB36
set_option linter.unusedVariables false
set_option linter.unusedSimpArgs false
/- The reference's check of houses, and changes, on values. (Vm) -/
namespace Go.Proofs.Ytmagiabapakhcaa.Vm
open Go Go.Proofs
end Go.Proofs.Ytmagiabapakhcaa.Vm
