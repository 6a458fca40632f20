/- A part of the proofs about the chapter of the doors; it states no condition of its own. -/
import Derived.Test.YtmagiabapakhcaaB35
import Derived.Test.YtmagiabapakhcaaB48
set_option linter.unusedVariables false
set_option linter.unusedSimpArgs false
/- The law of rules and bounds of servings, on values. (Vm) -/
namespace Go.Proofs.Ytmagiabapakhcaa.Vm
open Go Go.Proofs
theorem serves_r (k : Kn) (V : KV k) (M : Mem) : VC Try.prog 54 [kitV k, servR k] M (fun r M' => M' = M ∧ r = .tup [vi (fedV k (srv0 k) (-1) 0), vb true]) := by
 have hZ := feed_Z V
 have key := serves_v k V (feedS k) hZ.i.ok.srv hZ.i.ok.fits hZ.inn M
 rw [feed_tot V] at key
 unfold servR
 split
 ·rename_i h0
  refine VC_nil0 (us := [kitV k]) (vs := []) (k := 1) ?_
  have e : feedS k = [] := List.eq_nil_of_length_eq_zero (hZ.i.ok.srv.len.trans h0)
  rw [e] at key
  exact key
 ·exact key
theorem servR_flat (k : Kn) : strip1 (servR k) = servR k ∧ refs (servR k) = [] := by
 unfold servR
 split <;> exact ⟨rfl, rfl⟩
attribute [local irreducible] castF castU fromF fromU oneF oneU onceF
end Go.Proofs.Ytmagiabapakhcaa.Vm
