/- A part of the proofs about the chapter of the ramps; it states no condition of its own. -/
import Derived.Test.YthcicaelnchfdaaB16
import Derived.Test.YthcicaelnchfdaaB17
set_option linter.unusedVariables false
set_option linter.unusedSimpArgs false
/- Choices of carts that can and cannot be served, plain. -/
namespace Go.Proofs.Ythcicaelnchfdaa
theorem asc_len : ∀ {l : List Int} {a b : Int}, (∀ x ∈ l, a ≤ x ∧ x < b) → l.Pairwise (· < ·) → (l.length : Int) ≤ max 0 (b - a)
 | [], a, b, _, _ => by simp; omega
 | x :: l, a, b, hx, hp => by
  obtain ⟨p1, p2⟩ := List.pairwise_cons.1 hp
  have := asc_len (l := l) (a := x + 1) (b := b) (fun z hz => ⟨by have := p1 z hz; omega, (hx z (by simp [hz])).2⟩) p2
  have hx0 := hx x (by simp)
  simp only [List.length_cons]
  omega
structure ChY (y : Ya) (l : List Int) : Prop where
 m : ∀ x ∈ l, 0 ≤ x ∧ x < y.carts.length
 asc : l.Pairwise (· < ·)
theorem ChY.len {y : Ya} {l : List Int} (h : ChY y l) : l.length ≤ y.carts.length := by
 have := asc_len h.m h.asc
 omega
theorem ChY.ok {y : Ya} {l : List Int} (h : ChY y l) (hy : YaV y) : YaV (onlyY y l) := onlyY_ok hy (by have := h.len; have := hy.m1; omega) h.m
end Go.Proofs.Ythcicaelnchfdaa

/- Plans that are away sooner, plain. -/
namespace Go.Proofs.Ythcicaelnchfdaa
def endB (y : Ya) (best : List St) (last : Int) (l : List St) : Bool :=
 if plErr y l = 0 ∧ heldB y l (longest y) = true then decide (lastV y l < last) || (decide (lastV y l = last) && beforeB l best) else false
def soonB (y : Ya) (best : List St) (last : Int) (mn : Nat) : Nat → List St → Bool
 | 0, l => endB y best last l
 | k + 1, l => (List.range y.ramps.length).any fun r => (List.range (mn + 1)).any fun f => soonB y best last mn k (l ++ [⟨(r : Int), (f : Int)⟩])
theorem soon_no {y : Ya} {best : List St} {last : Int} {mn : Nat} (h : ∀ l, endB y best last l = false) : ∀ k l, soonB y best last mn k l = false
 | 0, l => h l
 | k + 1, l => by
  rw [soonB, List.any_eq_false]
  intro r _
  rw [Bool.not_eq_true, List.any_eq_false]
  intro f _
  rw [soon_no h k]
  decide
theorem end_none {y : Ya} (hy : YaV y) (h : servedR y = none) (best : List St) (last : Int) (l : List St) : endB y best last l = false := by
 unfold endB
 split
 ·rename_i h1
  have hf : Fe y l := (fe_iff hy).2 ⟨(plErr_ok.1 h1.1).2, h1.2⟩
  obtain ⟨x, hx, _⟩ := (servedR_best hy).2 l hf
  rw [h] at hx; cases hx
 ·rfl
theorem end_some {y : Ya} (hy : YaV y) {p : List St} (h : servedR y = some p) (l : List St) : endB y p (lastV y p) l = false := by
 unfold endB
 split
 ·rename_i h1
  have hf : Fe y l := (fe_iff hy).2 ⟨(plErr_ok.1 h1.1).2, h1.2⟩
  obtain ⟨x, hx, hle⟩ := (servedR_best hy).2 l hf
  rw [h] at hx
  cases hx
  rw [Bool.or_eq_false_iff]
  rcases hle with hle | ⟨hle, hb⟩
  ·exact ⟨decide_eq_false (by omega), by rw [decide_eq_false (by omega)]; rfl⟩
  ·exact ⟨decide_eq_false (by omega), by rw [hb, Bool.and_false]⟩
 ·rfl
theorem serve_none {y : Ya} (hy : YaV y) (h : servedR y = none) : serveT y = ([], 0, 3) := by
 unfold serveT
 rw [if_pos (yErr_ok.2 hy), h]
theorem serve_some {y : Ya} (hy : YaV y) {p : List St} (h : servedR y = some p) : serveT y = (p, lastV y p, 0) := by
 unfold serveT
 rw [if_pos (yErr_ok.2 hy), h]
end Go.Proofs.Ythcicaelnchfdaa
