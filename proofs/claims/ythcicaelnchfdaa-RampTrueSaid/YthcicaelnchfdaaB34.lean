/- A part of the proofs about the chapter of the ramps; it states no condition of its own. -/
import Derived.Test.YthcicaelnchfdaaB23
import Derived.Test.YthcicaelnchfdaaB30
import Derived.Test.YthcicaelnchfdaaB31
import Derived.Test.YthcicaelnchfdaaB32
set_option linter.unusedVariables false
set_option linter.unusedSimpArgs false
/- The law of the plan by which all are away soonest, on values. (Vm) -/
namespace Go.Proofs.Ythcicaelnchfdaa.Vm
open Go Go.Proofs
theorem DH_tail (M : Mem) (u : Int) (L : List VObj) : DH (M.H ++ [.dead]) M.H.length u L = M.H ++ (.obj [uv u] :: L) := by
 unfold DH
 rw [List.append_assoc]
 have := hset0 M.H ([.dead] ++ L) (.obj [uv u])
 rw [this]
 rfl
def ShortY (y : Ya) : Prop := y.ramps.length ≤ 12 ∧ y.carts.length ≤ 20 ∧ ∀ c ∈ y.carts, c.ramps.length ≤ 12
theorem MadeY.short {A B m : Int} {y : Ya} (h : MadeY A B m y) (hA : A ≤ 3) (hB : B ≤ 7) : ShortY y := by
 have h1 := h.n1
 have h2 := h.m1
 refine ⟨by omega, by omega, fun c hc => ?_⟩
 have k := h.ct c hc
 have : ∀ (l : List Int) (a b : Int), (∀ x ∈ l, a ≤ x ∧ x < b) → l.Pairwise (· < ·) → (l.length : Int) ≤ max 0 (b - a) := by
  intro l
  induction l with
  | nil => intro a b _ _; simp; omega
  | cons x l ih =>
   intro a b hx hp
   obtain ⟨p1, p2⟩ := List.pairwise_cons.1 hp
   have := ih (x + 1) b (fun z hz => ⟨by have := p1 z hz; omega, (hx z (by simp [hz])).2⟩) p2
   have hx0 := hx x (by simp)
   simp only [List.length_cons]
   omega
 have := this c.ramps 0 y.ramps.length k.r k.asc
 omega
attribute [local irreducible] castF castU fromF fromU oneF oneU yardS
end Go.Proofs.Ythcicaelnchfdaa.Vm
