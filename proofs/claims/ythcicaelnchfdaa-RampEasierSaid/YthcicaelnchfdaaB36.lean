/- A part of the proofs about the chapter of the ramps; it states no condition of its own. -/
import Derived.Test.YthcicaelnchfdaaB16
import Derived.Test.YthcicaelnchfdaaB17
set_option linter.unusedVariables false
set_option linter.unusedSimpArgs false
/- Choices of carts that can and cannot be served, plain. -/
namespace Go.Proofs.Ythcicaelnchfdaa
theorem asc_len : ∀ {l : List Int} {a b : Int}, (∀ x ∈ l, a ≤ x ∧ x < b) → l.Pairwise (· < ·) → (l.length : Int) ≤ max 0 (b - a)
 | [], a, b, _, _ => by simp; omega
 | x :: l, a, b, hx, hp => by
  obtain ⟨p1, p2⟩ := List.pairwise_cons.1 hp
  have := asc_len (l := l) (a := x + 1) (b := b) (fun z hz => ⟨by have := p1 z hz; omega, (hx z (by simp [hz])).2⟩) p2
  have hx0 := hx x (by simp)
  simp only [List.length_cons]
  omega
theorem only_at' (y : Ya) (l : List Int) {i : Nat} (h : i < l.length) : ctAt (onlyY y l) i = ctAt y (l[i]).toNat := by
 simp [ctAt, onlyY, h]
theorem only_len' (y : Ya) (l : List Int) : (onlyY y l).carts.length = l.length := by simp [onlyY]
structure ChY (y : Ya) (l : List Int) : Prop where
 m : ∀ x ∈ l, 0 ≤ x ∧ x < y.carts.length
 asc : l.Pairwise (· < ·)
theorem ChY.len {y : Ya} {l : List Int} (h : ChY y l) : l.length ≤ y.carts.length := by
 have := asc_len h.m h.asc
 omega
theorem ChY.ok {y : Ya} {l : List Int} (h : ChY y l) (hy : YaV y) : YaV (onlyY y l) := onlyY_ok hy (by have := h.len; have := hy.m1; omega) h.m
theorem choices_ch {y : Ya} {m : Nat} {l : List Int} (h : l ∈ choices y.carts.length m 0) : ChY y l ∧ l.length = m := by
 obtain ⟨a, b, c⟩ := choices_mem.1 h
 exact ⟨⟨fun x hx => by have := c x hx; omega, b⟩, a⟩
theorem ch_choices {y : Ya} {l : List Int} (h : ChY y l) : l ∈ choices y.carts.length l.length 0 :=
 choices_mem.2 ⟨rfl, h.asc, fun x hx => by have := h.m x hx; omega⟩
theorem can_nil (y : Ya) : canB y [] = true := rfl
theorem find_flat {α : Type} {F : α → List (List Int)} {p : List Int → Bool} {l : List Int} : ∀ {ms : List α}, (ms.flatMap F).find? p = some l → ∃ A m B, ms = A ++ m :: B ∧ (∀ a ∈ A, ∀ x ∈ F a, p x = false) ∧ (F m).find? p = some l
 | [], h => by simp at h
 | m :: ms, h => by
  rw [List.flatMap_cons, List.find?_append] at h
  cases hm : (F m).find? p with
  | some l' =>
   rw [hm] at h
   have h' : l' = l := by simpa using h
   subst h'
   exact ⟨[], m, ms, rfl, (fun a ha => by cases ha), hm⟩
  | none =>
   rw [hm, Option.none_or] at h
   obtain ⟨A, m', B, e, h1, h2⟩ := find_flat h
   refine ⟨m :: A, m', B, by rw [e]; rfl, fun a ha x hx => ?_, h2⟩
   rcases List.mem_cons.1 ha with rfl | ha
   ·simpa using List.find?_eq_none.1 hm x hx
   ·exact h1 a ha x hx
theorem find_idx {p : List Int → Bool} {l : List Int} {W : List (List Int)} (h : W.find? p = some l) : ∃ k : Nat, W[k]? = some l ∧ ∀ j, j < k → ∀ a, W[j]? = some a → p a = false := by
 obtain ⟨_, i, hi, e, hj⟩ := List.find?_eq_some_iff_getElem.1 h
 refine ⟨i, by rw [List.getElem?_eq_getElem hi, e], fun j hji a ha => ?_⟩
 obtain ⟨hj', rfl⟩ := List.getElem?_eq_some_iff.1 ha
 simpa using hj j hji
structure MostOk (y : Ya) (l : List Int) : Prop where
 ch : ChY y l
 can : canB y l = true
 big : ∀ m, l.length < m → m ≤ y.carts.length → ∀ a ∈ choices y.carts.length m 0, canB y a = false
 idx : ∃ k : Nat, (choices y.carts.length l.length 0)[k]? = some l ∧ ∀ j, j < k → ∀ a, (choices y.carts.length l.length 0)[j]? = some a → canB y a = false
theorem most_ok {y : Ya} : MostOk y (match (mostL y).find? (canB y) with | none => [] | some l => l) := by
 cases h : (mostL y).find? (canB y) with
 | none =>
  refine ⟨⟨(fun x hx => by cases hx), List.Pairwise.nil⟩, can_nil y, fun m h1 h2 a ha => ?_, 0, rfl, fun j hj => by omega⟩
  have h1' : 0 < m := h1
  have hm : a ∈ mostL y := List.mem_flatMap.2 ⟨y.carts.length - m, List.mem_range.2 (by omega), by rw [show y.carts.length - (y.carts.length - m) = m by omega]; exact ha⟩
  simpa using List.find?_eq_none.1 h a hm
 | some l =>
  obtain ⟨A, j, B, e, h1, h2⟩ := find_flat h
  have hlm := List.mem_of_find?_eq_some h2
  obtain ⟨hch, hlen⟩ := choices_ch hlm
  have hj : j ∈ List.range y.carts.length := by rw [e]; simp
  rw [List.mem_range] at hj
  show MostOk y l
  refine ⟨hch, List.find?_some h2, fun m hm1 hm2 a ha => ?_, ?_⟩
  ·have hin : y.carts.length - m ∈ List.range y.carts.length := List.mem_range.2 (by omega)
   have hA : y.carts.length - m ∈ A := by
    rw [e] at hin
    rcases List.mem_append.1 hin with q | q
    ·exact q
    ·have hpw := List.pairwise_lt_range (n := y.carts.length)
     rw [e, List.pairwise_append] at hpw
     rcases List.mem_cons.1 q with q | q
     ·omega
     ·have := (List.pairwise_cons.1 hpw.2.1).1 _ q; omega
   have := h1 _ hA a (by rw [show y.carts.length - (y.carts.length - m) = m by omega]; exact ha)
   exact this
  ·rw [hlen]
   exact find_idx h2
end Go.Proofs.Ythcicaelnchfdaa

/- Plans that are away sooner, plain. -/
namespace Go.Proofs.Ythcicaelnchfdaa
theorem serve_none {y : Ya} (hy : YaV y) (h : servedR y = none) : serveT y = ([], 0, 3) := by
 unfold serveT
 rw [if_pos (yErr_ok.2 hy), h]
theorem serve_some {y : Ya} (hy : YaV y) {p : List St} (h : servedR y = some p) : serveT y = (p, lastV y p, 0) := by
 unfold serveT
 rw [if_pos (yErr_ok.2 hy), h]
end Go.Proofs.Ythcicaelnchfdaa
