/- A part of the proofs about the chapter of the doors; it states no condition of its own. -/
import Derived.Test.YtmagiabapakhcaaB22
import Derived.Test.YtmagiabapakhcaaB34
import Derived.Test.YtmagiabapakhcaaB35
import Derived.Test.YtmagiabapakhcaaB38
import Derived.Test.YtmagiabapakhcaaB40
import Derived.Test.YtmagiabapakhcaaB41
set_option linter.unusedVariables false
set_option linter.unusedSimpArgs false
/- How many people are safe: whoever comes, so long as it is more than are held, plain. -/
namespace Go.Proofs.Ytmagiabapakhcaa
theorem sumTo_nn {n : Nat} {f : Nat → Int} (h : ∀ i, i < n → 0 ≤ f i) : 0 ≤ sumTo n f := by
 induction n with
 | zero => exact Int.le_refl _
 | succ n ih =>
  rw [sumTo_succ]
  have := ih fun i hi => h i (by omega)
  have := h n (by omega)
  omega
theorem sumTo_term {n : Nat} {f : Nat → Int} (h : ∀ i, i < n → 0 ≤ f i) {k : Nat} (hk : k < n) : f k ≤ sumTo n f := by
 induction n with
 | zero => omega
 | succ n ih =>
  rw [sumTo_succ]
  by_cases e : k = n
  ·subst e
   have := sumTo_nn (n := k) (f := f) fun i hi => h i (by omega)
   omega
  ·have := ih (fun i hi => h i (by omega)) (by omega)
   have := h n (by omega)
   omega
end Go.Proofs.Ytmagiabapakhcaa

/- The reference: how many people are safe, on values. (Vm) -/
namespace Go.Proofs.Ytmagiabapakhcaa.Vm
open Go Go.Proofs
end Go.Proofs.Ytmagiabapakhcaa.Vm

/- The reference: Admit and Safe, on values. (Vm) -/
namespace Go.Proofs.Ytmagiabapakhcaa.Vm
open Go Go.Proofs
end Go.Proofs.Ytmagiabapakhcaa.Vm
