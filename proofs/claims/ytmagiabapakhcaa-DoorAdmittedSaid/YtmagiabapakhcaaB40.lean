/- A part of the proofs about the chapter of the doors; it states no condition of its own. -/
import Derived.Test.YtmagiabapakhcaaB35
import Derived.Test.YtmagiabapakhcaaB37
import Derived.Test.YtmagiabapakhcaaB39
set_option linter.unusedVariables false
set_option linter.unusedSimpArgs false
/- Flows: places under other names, and the reference's ways of people, plain. -/
namespace Go.Proofs.Ytmagiabapakhcaa
structure Bij (N : Nat) (p q : Nat → Nat) : Prop where
 lt : ∀ i, i < N → p i < N
 lt' : ∀ i, i < N → q i < N
 qp : ∀ i, i < N → q (p i) = i
 pq : ∀ i, i < N → p (q i) = i
theorem wsAt_rmap (f : Nat → Wa) (n a b : Nat) : wsAt ((List.range n).map f) a b = sumTo n fun i => wsAt [f i] a b := by
 induction n with
 | zero => rfl
 | succ n ih => rw [List.range_succ, List.map_append, wsAt_app, ih, sumTo_succ]; rfl
theorem cell_uniq {n t t' i i' : Nat} (hi : i < n) (hi' : i' < n) (h : t * n + i = t' * n + i') : i = i' ∧ t = t' := by
 have h1 : (t * n + i) % n = i := by rw [Nat.add_comm, Nat.add_mul_mod_self_right, Nat.mod_eq_of_lt hi]
 have h2 : (t' * n + i') % n = i' := by rw [Nat.add_comm, Nat.add_mul_mod_self_right, Nat.mod_eq_of_lt hi']
 have h3 : i = i' := by rw [← h1, ← h2, h]
 subst h3
 refine ⟨rfl, Nat.eq_of_mul_eq_mul_right (show 0 < n by omega) (by omega)⟩
section
variable {N nH ticks : Nat} {ds : List Do} {closed : List Int} {come : Nat → Int}
theorem Bij.comp {p q p' q' : Nat → Nat} (h : Bij N p q) (h' : Bij N p' q') : Bij N (fun i => p' (p i)) (fun i => q (q' i)) :=
 ⟨fun i hi => h'.lt _ (h.lt i hi), fun i hi => h.lt' _ (h'.lt' i hi), fun i hi => by show q (q' (p' (p i))) = i; rw [h'.qp _ (h.lt i hi), h.qp i hi], fun i hi => by show p' (p (q (q' i))) = i; rw [h.pq _ (h'.lt' i hi), h'.pq i hi]⟩
end
end Go.Proofs.Ytmagiabapakhcaa

/- The reference: how many people can be outside after some ticks, on values. (Vm) -/
namespace Go.Proofs.Ytmagiabapakhcaa
theorem HV.ne {h : Ho} (V : HV h) : ∀ d ∈ h.doors, DoOk h.holds.length d ∧ d.a ≠ d.b := fun d hd => ⟨(V.doors d hd).ok, (V.doors d hd).ne⟩
end Go.Proofs.Ytmagiabapakhcaa
namespace Go.Proofs.Ytmagiabapakhcaa.Vm
open Go Go.Proofs
end Go.Proofs.Ytmagiabapakhcaa.Vm

/- The reference: a table of room that is filled, on values. (Vm) -/
namespace Go.Proofs.Ytmagiabapakhcaa.Vm
open Go Go.Proofs
section
variable {H0 : List VObj} {N : Nat} {R : List (List Int)}
end
end Go.Proofs.Ytmagiabapakhcaa.Vm
