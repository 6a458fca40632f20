/- A part of the proofs about the chapter of the doors; it states no condition of its own. -/
import Derived.Test.YtmagiabapakhcaaB35
import Derived.Test.YtmagiabapakhcaaB48
set_option linter.unusedVariables false
set_option linter.unusedSimpArgs false
/- The law of rules and bounds of servings, on values. (Vm) -/
namespace Go.Proofs.Ytmagiabapakhcaa.Vm
open Go Go.Proofs
theorem eaten0_r (k : Kn) (V : KV k) (M : Mem) : VC Try.prog 55 [kitV k, .p (.sl 0 [])] M (fun r M' => M' = M ∧ r = vi (fedV k (srv0 k) (-1) 0)) := by
 refine VC_nil0 (us := [kitV k]) (vs := []) (k := 1) ?_
 refine VC.mono (show VC Try.prog 55 [kitV k, intsV []] M _ from Eaten_r k V [] (feas_nil V) M) ?_
 rintro r M' ⟨h1, v, h2, h3⟩
 have := eaten_all V h3
 refine ⟨h1, ?_⟩
 rw [h2, this]
 simp
theorem given_next {k : Kn} {i : Nat} (hi : i < k.gifts.length) : ((k.gifts.take (i + 1)).map Gi.portions).sum = ((k.gifts.take i).map Gi.portions).sum + (giAt k i).portions := by
 have hx : k.gifts[i]? = some (giAt k i) := by
  unfold giAt
  rw [List.getD_eq_getElem?_getD, List.getElem?_eq_getElem hi]; rfl
 rw [List.take_add_one, hx]
 simp
attribute [local irreducible] castF castU fromF fromU oneF oneU onceF
end Go.Proofs.Ytmagiabapakhcaa.Vm
