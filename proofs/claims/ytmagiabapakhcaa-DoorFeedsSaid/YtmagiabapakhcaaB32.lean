/- A part of the proofs about the chapter of the doors; it states no condition of its own. -/
import Derived.Test.YtmagiabapakhcaaB25
import Derived.Test.YtmagiabapakhcaaB31
set_option linter.unusedVariables false
set_option linter.unusedSimpArgs false
/- Houses made of numbers, on values. (Vm) -/
namespace Go.Proofs.Ytmagiabapakhcaa.Vm
open Go Go.Proofs
attribute [local irreducible] castF castU fromF fromU oneF oneU aboutF aboutU
theorem addLg_has {id r : Nat} {lg : List (Nat × Nat)} (h : (id, r) ∈ lg) : addLg id [r] lg = lg := by
 unfold addLg
 have h1 : (lg.any fun e => Nat.beq e.1 id && Nat.beq e.2 r) = true := List.any_eq_true.2 ⟨(id, r), h, by simp⟩
 have h2 : List.filter (fun r => Nat.blt id r && !(lg.any fun e => Nat.beq e.1 id && Nat.beq e.2 r)) [r] = [] := by
  rw [List.filter_cons]
  simp [h1]
 rw [h2]
end Go.Proofs.Ytmagiabapakhcaa.Vm
