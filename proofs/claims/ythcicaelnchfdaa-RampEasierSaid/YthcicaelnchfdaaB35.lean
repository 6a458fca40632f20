/- A part of the proofs about the chapter of the ramps; it states no condition of its own. -/
import Derived.Test.YthcicaelnchfdaaB34
set_option linter.unusedVariables false
set_option linter.unusedSimpArgs false
/- The law of carts that cannot be served together, on values. (Vm) -/
namespace Go.Proofs.Ythcicaelnchfdaa.Vm
open Go Go.Proofs
attribute [local irreducible] castF castU fromF fromU oneF oneU yardS
end Go.Proofs.Ythcicaelnchfdaa.Vm
