/- A part of the proofs about the chapter of the doors; it states no condition of its own. -/
import Derived.Test.YtmagiabapakhcaaB46
set_option linter.unusedVariables false
set_option linter.unusedSimpArgs false
/- The reference: how many portions can be eaten, on values. (Vm) -/
namespace Go.Proofs.Ytmagiabapakhcaa.Vm
open Go Go.Proofs
theorem giAt_get {k : Kn} {g : Nat} (hg : g < k.gifts.length) : (k.gifts.map giP)[g]? = some (giP (giAt k g)) := by
 refine map_at (f := giP) ?_
 unfold giAt
 rw [List.getD_eq_getElem?_getD, List.getElem?_eq_getElem hg]; rfl
theorem mealAt_get {k : Kn} {m : Nat} (hm : m < k.meals.length) : (k.meals.map intP)[m]? = some (intP (mealAt k m)) := by
 refine map_at (f := intP) ?_
 unfold mealAt
 rw [List.getD_eq_getElem?_getD, List.getElem?_eq_getElem hm]; rfl
end Go.Proofs.Ytmagiabapakhcaa.Vm
