/- A part of the proofs about the chapter of the vaults; it states no condition of its own. -/
import Derived.Test.YtijcmgfblpokhaaB44
import Derived.Test.YtijcmgfblpokhaaB46
set_option linter.unusedVariables false
set_option linter.unusedSimpArgs false
/- The law of ends, on values. (Vm) -/
namespace Go.Proofs.Ytijcmgfblpokhaa.Vm
open Go Go.Proofs
theorem DH_tail (M : Mem) (u : Int) (L : List VObj) : DH (M.H ++ [.dead]) M.H.length u L = M.H ++ (.obj [uv u] :: L) := by
  unfold DH
  rw [List.append_assoc]
  have := hset0 M.H ([.dead] ++ L) (.obj [uv u])
  rw [this]
  rfl
end Go.Proofs.Ytijcmgfblpokhaa.Vm

/- The law of true loads, on values. (Vm) -/
namespace Go.Proofs.Ytijcmgfblpokhaa.Vm
open Go Go.Proofs
end Go.Proofs.Ytijcmgfblpokhaa.Vm
