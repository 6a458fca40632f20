/- A part of the proofs about the chapter of the doors; it states no condition of its own. -/
import Derived.Test.YtmagiabapakhcaaB35
import Derived.Test.YtmagiabapakhcaaB48
set_option linter.unusedVariables false
set_option linter.unusedSimpArgs false
/- The law of rules and bounds of servings, on values. (Vm) -/
namespace Go.Proofs.Ytmagiabapakhcaa.Vm
open Go Go.Proofs
attribute [local irreducible] castF castU fromF fromU oneF oneU onceF
end Go.Proofs.Ytmagiabapakhcaa.Vm
