/- A part of the proofs about the chapter of the ramps; it states no condition of its own. -/
import Derived.Test.YthcicaelnchfdaaB34
import Derived.Test.YthcicaelnchfdaaB36
set_option linter.unusedVariables false
set_option linter.unusedSimpArgs false
/- The law of the fewest carts that cannot be served, on values. (Vm) -/
namespace Go.Proofs.Ythcicaelnchfdaa.Vm
open Go Go.Proofs
theorem MadeY.len {A B m : Int} {y : Ya} (h : MadeY A B m y) (hA : A ≤ 3) (hB : B ≤ 7) : y.ramps.length ≤ 1000000 ∧ y.carts.length ≤ 1000000 ∧ ∀ c ∈ y.carts, c.ramps.length ≤ 1000000 := by
 obtain ⟨a, b, c⟩ := h.short hA hB
 exact ⟨by omega, by omega, fun x hx => by have := c x hx; omega⟩
attribute [local irreducible] castF castU fromF fromU oneF oneU yardS
end Go.Proofs.Ythcicaelnchfdaa.Vm
