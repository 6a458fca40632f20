/- A part of the proofs about the chapter of the ramps; it states no condition of its own. -/
import Derived.Test.YthcicaelnchfdaaB15
import Derived.Test.YthcicaelnchfdaaB18
import Derived.Test.YthcicaelnchfdaaB31
import Derived.Test.YthcicaelnchfdaaB36
import Derived.Test.YthcicaelnchfdaaB37
import Derived.Test.YthcicaelnchfdaaB39
import Derived.Test.YthcicaelnchfdaaB43
set_option linter.unusedVariables false
set_option linter.unusedSimpArgs false
/- Slots copied into a buffer of our own. (Vm) -/
-- TABLE TP
namespace Go.Proofs.Ythcicaelnchfdaa.Vm
open Go Go.Proofs
noncomputable def TP : Tab := ownT2 T ownO keepsC
end Go.Proofs.Ythcicaelnchfdaa.Vm

/- The law of the plan of Serve, on values. (Vm) -/
namespace Go.Proofs.Ythcicaelnchfdaa.Vm
open Go Go.Proofs
attribute [local irreducible] castF castU fromF fromU oneF oneU yardS
end Go.Proofs.Ythcicaelnchfdaa.Vm
