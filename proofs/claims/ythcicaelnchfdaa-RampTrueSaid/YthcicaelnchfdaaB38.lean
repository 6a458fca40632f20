/- A part of the proofs about the chapter of the ramps; it states no condition of its own. -/
import Derived.Test.YthcicaelnchfdaaB37
set_option linter.unusedVariables false
set_option linter.unusedSimpArgs false
/- The law of as many carts as can be served, on values. (Vm) -/
namespace Go.Proofs.Ythcicaelnchfdaa.Vm
open Go Go.Proofs
attribute [local irreducible] castF castU fromF fromU oneF oneU yardS
end Go.Proofs.Ythcicaelnchfdaa.Vm
