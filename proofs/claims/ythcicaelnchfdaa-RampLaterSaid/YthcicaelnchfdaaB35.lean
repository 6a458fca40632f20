/- A part of the proofs about the chapter of the ramps; it states no condition of its own. -/
import Derived.Test.YthcicaelnchfdaaB34
set_option linter.unusedVariables false
set_option linter.unusedSimpArgs false
/- The law of carts that cannot be served together, on values. (Vm) -/
namespace Go.Proofs.Ythcicaelnchfdaa.Vm
open Go Go.Proofs
theorem stuckL_len {y : Ya} {l : List Int} (h : l ∈ stuckL y) : l.length ≤ y.carts.length := by
 unfold stuckL at h
 obtain ⟨m, hm, hl⟩ := List.mem_flatMap.1 h
 rw [List.mem_range'_1] at hm
 have := (choices_mem.1 hl).1
 omega
theorem stuckT_len' {y : Ya} : (stuckT y).1.length ≤ y.carts.length := by
 unfold stuckT
 split
 ·split
  ·simp
  ·rename_i l hl
   exact stuckL_len (List.mem_of_find?_eq_some hl)
 ·simp
theorem stuckT_len {y : Ya} (h : y.carts.length ≤ 1000000) : (stuckT y).1.length ≤ 1000000 := Nat.le_trans stuckT_len' h
attribute [local irreducible] castF castU fromF fromU oneF oneU yardS
end Go.Proofs.Ythcicaelnchfdaa.Vm
