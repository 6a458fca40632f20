/- A part of the proofs about the chapter of the ramps; it states no condition of its own. -/
import Derived.Test.YthcicaelnchfdaaB16
import Derived.Test.YthcicaelnchfdaaB17
set_option linter.unusedVariables false
set_option linter.unusedSimpArgs false
/- Choices of carts that can and cannot be served, plain. -/
namespace Go.Proofs.Ythcicaelnchfdaa
theorem asc_len : ∀ {l : List Int} {a b : Int}, (∀ x ∈ l, a ≤ x ∧ x < b) → l.Pairwise (· < ·) → (l.length : Int) ≤ max 0 (b - a)
 | [], a, b, _, _ => by simp; omega
 | x :: l, a, b, hx, hp => by
  obtain ⟨p1, p2⟩ := List.pairwise_cons.1 hp
  have := asc_len (l := l) (a := x + 1) (b := b) (fun z hz => ⟨by have := p1 z hz; omega, (hx z (by simp [hz])).2⟩) p2
  have hx0 := hx x (by simp)
  simp only [List.length_cons]
  omega
theorem only_at' (y : Ya) (l : List Int) {i : Nat} (h : i < l.length) : ctAt (onlyY y l) i = ctAt y (l[i]).toNat := by
 simp [ctAt, onlyY, h]
theorem only_len' (y : Ya) (l : List Int) : (onlyY y l).carts.length = l.length := by simp [onlyY]
structure ChY (y : Ya) (l : List Int) : Prop where
 m : ∀ x ∈ l, 0 ≤ x ∧ x < y.carts.length
 asc : l.Pairwise (· < ·)
theorem ChY.len {y : Ya} {l : List Int} (h : ChY y l) : l.length ≤ y.carts.length := by
 have := asc_len h.m h.asc
 omega
theorem ChY.ok {y : Ya} {l : List Int} (h : ChY y l) (hy : YaV y) : YaV (onlyY y l) := onlyY_ok hy (by have := h.len; have := hy.m1; omega) h.m
end Go.Proofs.Ythcicaelnchfdaa

/- Plans that are away sooner, plain. -/
namespace Go.Proofs.Ythcicaelnchfdaa
end Go.Proofs.Ythcicaelnchfdaa
