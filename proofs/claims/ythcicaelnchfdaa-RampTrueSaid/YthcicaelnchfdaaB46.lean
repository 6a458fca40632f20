/- A part of the proofs about the chapter of the ramps; it states no condition of its own. -/
import Derived.Test.YthcicaelnchfdaaB17
import Derived.Test.YthcicaelnchfdaaB23
import Derived.Test.YthcicaelnchfdaaB37
import Derived.Test.YthcicaelnchfdaaB38
import Derived.Test.YthcicaelnchfdaaB39
import Derived.Test.YthcicaelnchfdaaB43
import Derived.Test.YthcicaelnchfdaaB45
set_option linter.unusedVariables false
set_option linter.unusedSimpArgs false
/- All true times, plain. -/
namespace Go.Proofs.Ythcicaelnchfdaa
theorem held_mono {y : Ya} {p : List St} {tk tk' : List Int} (h : heldB y p tk = true) (hle : ∀ i, i < p.length → tkAt tk' i ≤ tkAt tk i) : heldB y p tk' = true := by
 obtain ⟨h1, h2⟩ := heldB_iff.1 h
 refine heldB_iff.2 ⟨fun i hi => ?_, fun i k hi hk => ?_⟩
 ·have a := okSelf_iff.1 (h1 i hi)
  have b := hle i hi
  exact okSelf_iff.2 ⟨a.1, a.2.1, by omega, by omega⟩
 ·have b := hle i hi
  rw [okPair_iff]
  intro x1 x2 x3
  have := okPair_iff.1 (h2 i k hi hk) x1 x2 x3
  omega
theorem shortest_at' {y : Ya} {i : Nat} (h : i < y.carts.length) : tkAt (shortest y) i = (ctAt y i).takes.lo := by simp [tkAt, shortest, ctAt, h]
end Go.Proofs.Ythcicaelnchfdaa

/- The law of all true times, on values. (Vm) -/
namespace Go.Proofs.Ythcicaelnchfdaa.Vm
open Go Go.Proofs
attribute [local irreducible] castF castU fromF fromU oneF oneU yardS slotsS
end Go.Proofs.Ythcicaelnchfdaa.Vm
