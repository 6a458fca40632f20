/- A part of the proofs about the chapter of the doors; it states no condition of its own. -/
import Derived.Test.YtmagiabapakhcaaB24
import Derived.Test.YtmagiabapakhcaaB31
import Derived.Test.YtmagiabapakhcaaB40
import Derived.Test.YtmagiabapakhcaaB45
set_option linter.unusedVariables false
set_option linter.unusedSimpArgs false
/- The reference's network of portions, plain. -/
namespace Go.Proofs.Ytmagiabapakhcaa
def srvOf (k : Kn) (l : List Int) : List (List Int) := (List.range k.meals.length).map fun m => (List.range k.gifts.length).map fun g => l.getD (m * k.gifts.length + g) 0
theorem srvOf_at {k : Kn} (l : List Int) {m g : Nat} (hm : m < k.meals.length) (hg : g < k.gifts.length) : at2 (srvOf k l) m g = l.getD (m * k.gifts.length + g) 0 := by
 have e : (srvOf k l)[m]? = some ((List.range k.gifts.length).map fun g => l.getD (m * k.gifts.length + g) 0) := by
  unfold srvOf
  rw [List.getElem?_map, List.getElem?_range hm]; rfl
 rw [at2, List.getD_eq_getElem?_getD (l := srvOf k l), e, Option.getD_some, List.getD_eq_getElem?_getD, List.getElem?_map, List.getElem?_range hg]; rfl
theorem srvOf_out {k : Kn} (l : List Int) {m g : Nat} (h : k.meals.length ≤ m ∨ k.gifts.length ≤ g) : at2 (srvOf k l) m g = 0 := by
 unfold at2
 rcases Nat.lt_or_ge m k.meals.length with hm | hm
 ·have e : (srvOf k l)[m]? = some ((List.range k.gifts.length).map fun g => l.getD (m * k.gifts.length + g) 0) := by
   unfold srvOf
   rw [List.getElem?_map, List.getElem?_range hm]; rfl
  rw [List.getD_eq_getElem?_getD (l := srvOf k l), e, Option.getD_some, List.getD_eq_getElem?_getD, List.getElem?_eq_none (by simp; omega)]; rfl
 ·rw [List.getD_eq_getElem?_getD (l := srvOf k l), List.getElem?_eq_none (by simp [srvOf]; omega)]; rfl
theorem getD_bd {l : List Int} {a b : Int} (ha : a ≤ 0) (hb : 0 ≤ b) (h : ∀ x ∈ l, a ≤ x ∧ x ≤ b) (i : Nat) : a ≤ l.getD i 0 ∧ l.getD i 0 ≤ b := by
 rw [List.getD_eq_getElem?_getD]
 rcases Nat.lt_or_ge i l.length with q | q
 ·rw [List.getElem?_eq_getElem q]
  exact h _ (List.getElem_mem q)
 ·rw [List.getElem?_eq_none q]
  exact ⟨ha, hb⟩
theorem srvOf_srv {k : Kn} {l : List Int} (h : ∀ x ∈ l, 0 ≤ x ∧ x ≤ 10000) : Srv k (srvOf k l) := by
 have key : ∀ m g, 0 ≤ at2 (srvOf k l) m g ∧ at2 (srvOf k l) m g ≤ 10000 := fun m g => by
  rcases Nat.lt_or_ge m k.meals.length with hm | hm
  ·rcases Nat.lt_or_ge g k.gifts.length with hg | hg
   ·rw [srvOf_at l hm hg]; exact getD_bd (Int.le_refl _) (by omega) h _
   ·rw [srvOf_out l (.inr hg)]; omega
  ·rw [srvOf_out l (.inl hm)]; omega
 exact ⟨by simp [srvOf], fun r hr => by
  obtain ⟨m, _, rfl⟩ := List.mem_map.1 hr
  simp, fun m g => (key m g).1, fun m g => (key m g).2⟩
structure Feas (k : Kn) (l : List Int) : Prop where
 len : l.length ≤ k.meals.length * k.gifts.length
 bd : ∀ x ∈ l, 0 ≤ x ∧ x ≤ 10000
 fits : Fits k (srvOf k l)
end Go.Proofs.Ytmagiabapakhcaa

/- The reference: how many portions can be eaten, on values. (Vm) -/
namespace Go.Proofs.Ytmagiabapakhcaa
section
variable (k : Kn) (l : List Int) (i : Nat)
end
end Go.Proofs.Ytmagiabapakhcaa
