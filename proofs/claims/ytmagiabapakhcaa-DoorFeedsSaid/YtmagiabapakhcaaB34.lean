/- A part of the proofs about the chapter of the doors; it states no condition of its own. -/
import Derived.Test.YtmagiabapakhcaaB14
import Derived.Test.YtmagiabapakhcaaB21
import Derived.Test.YtmagiabapakhcaaB29
import Derived.Test.YtmagiabapakhcaaB30
import Derived.Test.YtmagiabapakhcaaB31
import Derived.Test.YtmagiabapakhcaaB32
set_option linter.unusedVariables false
set_option linter.unusedSimpArgs false
/- Whatever truly went by the doors, plain. -/
namespace Go.Proofs.Ytmagiabapakhcaa
end Go.Proofs.Ytmagiabapakhcaa

/- Doors that are shut, and people that are spread, made of numbers, on values. (Vm) -/
namespace Go.Proofs.Ytmagiabapakhcaa.Vm
open Go Go.Proofs
attribute [local irreducible] castF castU fromF fromU oneF oneU
end Go.Proofs.Ytmagiabapakhcaa.Vm

/- Whether those who are inside are safe, on values. (Vm) -/
namespace Go.Proofs.Ytmagiabapakhcaa
end Go.Proofs.Ytmagiabapakhcaa
namespace Go.Proofs.Ytmagiabapakhcaa.Vm
open Go Go.Proofs
end Go.Proofs.Ytmagiabapakhcaa.Vm

/- The law of what truly went by the doors, on values. (Vm) -/
namespace Go.Proofs.Ytmagiabapakhcaa.Vm
open Go Go.Proofs
theorem DH_tail (M : Mem) (u : Int) (L : List VObj) : DH (M.H ++ [.dead]) M.H.length u L = M.H ++ (.obj [uv u] :: L) := by
 unfold DH
 rw [List.append_assoc]
 have := hset0 M.H ([.dead] ++ L) (.obj [uv u])
 rw [this]
 rfl
end Go.Proofs.Ytmagiabapakhcaa.Vm
