/- A part of the proofs about the chapter of the vaults; it states no condition of its own. -/
import Derived.Test.YtijcmgfblpokhaaB38
import Derived.Test.YtijcmgfblpokhaaB41
import Derived.Test.YtijcmgfblpokhaaB42
set_option linter.unusedVariables false
set_option linter.unusedSimpArgs false
/- The reference's checks of layouts, on values. (Vm) -/
namespace Go.Proofs.Ytijcmgfblpokhaa.Vm
open Go Go.Proofs
end Go.Proofs.Ytijcmgfblpokhaa.Vm

/- The reference's layouts and places, on values. (Vm) -/
namespace Go.Proofs.Ytijcmgfblpokhaa.Vm
open Go Go.Proofs
end Go.Proofs.Ytijcmgfblpokhaa.Vm
