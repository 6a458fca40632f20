/- A part of the proofs about the chapter of the ramps; it states no condition of its own. -/
import Derived.Test.YthcicaelnchfdaaB15
import Derived.Test.YthcicaelnchfdaaB16
import Derived.Test.YthcicaelnchfdaaB21
set_option linter.unusedVariables false
set_option linter.unusedSimpArgs false
/- The reference's search for the best plan, on values. (Vm) -/
-- TABLE TO
namespace Go.Proofs.Ythcicaelnchfdaa.Vm
open Go Go.Proofs
theorem st_put {l : List St} {i : Nat} {a b : Int} (h : i < l.length) : (stC l).take (i * 2) ++ vi a :: vi b :: (stC l).drop (i * 2 + 2) = stC (l.set i ⟨a, b⟩) := by
 rw [← stC_set l i ⟨a, b⟩ h]
 simp [splice]
theorem in_put {l : List Int} {i : Nat} {a : Int} (h : i < l.length) : (l.take i).map vi ++ vi a :: (l.drop (i + 1)).map vi = (l.set i a).map vi := by
 rw [← ints_set l i a h]
 simp [splice]
theorem asc_len : ∀ {l : List Int} {a b : Int}, l.Pairwise (· < ·) → (∀ x ∈ l, a ≤ x ∧ x < b) → l.length ≤ (b - a).toNat
 | [], a, b, _, _ => Nat.zero_le _
 | x :: l, a, b, h, hb => by
  obtain ⟨h1, h2⟩ := List.pairwise_cons.1 h
  have hx := hb x (by simp)
  have := asc_len (l := l) (a := x + 1) (b := b) h2 fun z hz => ⟨by have := h1 z hz; omega, (hb z (by simp [hz])).2⟩
  simp only [List.length_cons]
  omega
end Go.Proofs.Ythcicaelnchfdaa.Vm
