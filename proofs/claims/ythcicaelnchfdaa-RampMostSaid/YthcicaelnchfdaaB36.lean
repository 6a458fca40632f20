/- A part of the proofs about the chapter of the ramps; it states no condition of its own. -/
import Derived.Test.YthcicaelnchfdaaB16
import Derived.Test.YthcicaelnchfdaaB17
set_option linter.unusedVariables false
set_option linter.unusedSimpArgs false
/- Choices of carts that can and cannot be served, plain. -/
namespace Go.Proofs.Ythcicaelnchfdaa
theorem asc_len : ∀ {l : List Int} {a b : Int}, (∀ x ∈ l, a ≤ x ∧ x < b) → l.Pairwise (· < ·) → (l.length : Int) ≤ max 0 (b - a)
 | [], a, b, _, _ => by simp; omega
 | x :: l, a, b, hx, hp => by
  obtain ⟨p1, p2⟩ := List.pairwise_cons.1 hp
  have := asc_len (l := l) (a := x + 1) (b := b) (fun z hz => ⟨by have := p1 z hz; omega, (hx z (by simp [hz])).2⟩) p2
  have hx0 := hx x (by simp)
  simp only [List.length_cons]
  omega
theorem asc_full : ∀ {l : List Int} {a b : Int}, (∀ x ∈ l, a ≤ x ∧ x < b) → l.Pairwise (· < ·) → (l.length : Int) = b - a → ∀ i, i < l.length → l[i]? = some (a + i)
 | [], _, _, _, _, _, i, hi => by simp at hi
 | x :: l, a, b, hx, hp, hl, i, hi => by
  obtain ⟨p1, p2⟩ := List.pairwise_cons.1 hp
  have h2 : ∀ z ∈ l, x + 1 ≤ z ∧ z < b := fun z hz => ⟨by have := p1 z hz; omega, (hx z (by simp [hz])).2⟩
  have := asc_len h2 p2
  have hx0 := hx x (by simp)
  simp only [List.length_cons] at hl
  have hxa : x = a := by omega
  subst hxa
  cases i with
  | zero => simp
  | succ i =>
   have := asc_full h2 p2 (by omega) i (by simpa using hi)
   rw [List.getElem?_cons_succ, this]
   congr 1
   omega
theorem only_at' (y : Ya) (l : List Int) {i : Nat} (h : i < l.length) : ctAt (onlyY y l) i = ctAt y (l[i]).toNat := by
 simp [ctAt, onlyY, h]
theorem only_len' (y : Ya) (l : List Int) : (onlyY y l).carts.length = l.length := by simp [onlyY]
theorem only_full {y : Ya} {l : List Int} (hx : ∀ x ∈ l, 0 ≤ x ∧ x < y.carts.length) (hp : l.Pairwise (· < ·)) (hl : l.length = y.carts.length) : onlyY y l = y := by
 have h := asc_full hx hp (by omega)
 have hc : (l.map fun k => ctAt y k.toNat) = y.carts := by
  refine List.ext_getElem? fun i => ?_
  rw [List.getElem?_map]
  rcases Nat.lt_or_ge i l.length with hi | hi
  ·rw [h i hi, Option.map_some, ctAt_get (by omega)]
   simp
  ·rw [List.getElem?_eq_none hi, List.getElem?_eq_none (by omega)]; rfl
 unfold onlyY
 rw [hc]
structure ChY (y : Ya) (l : List Int) : Prop where
 m : ∀ x ∈ l, 0 ≤ x ∧ x < y.carts.length
 asc : l.Pairwise (· < ·)
theorem ChY.len {y : Ya} {l : List Int} (h : ChY y l) : l.length ≤ y.carts.length := by
 have := asc_len h.m h.asc
 omega
theorem ChY.ok {y : Ya} {l : List Int} (h : ChY y l) (hy : YaV y) : YaV (onlyY y l) := onlyY_ok hy (by have := h.len; have := hy.m1; omega) h.m
theorem choices_ch {y : Ya} {m : Nat} {l : List Int} (h : l ∈ choices y.carts.length m 0) : ChY y l ∧ l.length = m := by
 obtain ⟨a, b, c⟩ := choices_mem.1 h
 exact ⟨⟨fun x hx => by have := c x hx; omega, b⟩, a⟩
theorem ch_choices {y : Ya} {l : List Int} (h : ChY y l) : l ∈ choices y.carts.length l.length 0 :=
 choices_mem.2 ⟨rfl, h.asc, fun x hx => by have := h.m x hx; omega⟩
theorem ch_full (y : Ya) : ∃ l, ChY y l ∧ l.length = y.carts.length := by
 refine ⟨(List.range y.carts.length).map Int.ofNat, ⟨fun x hx => ?_, ?_⟩, by simp⟩
 ·obtain ⟨i, hi, rfl⟩ := List.mem_map.1 hx
  have := List.mem_range.1 hi
  simp; omega
 ·rw [List.pairwise_map]
  exact List.pairwise_lt_range.imp fun h => by simpa using h
theorem fe_only {y : Ya} {q : List St} (h : Fe y q) {l : List Int} (hl : ChY y l) : Fe (onlyY y l) (l.map fun k => stAt q k.toNat) := by
 have hq := h.len
 have hb : ∀ i (hi : i < l.length), (l[i]).toNat < q.length := fun i hi => by
  have := hl.m l[i] (List.getElem_mem hi)
  omega
 have hs : ∀ i (hi : i < l.length), stAt (l.map fun k => stAt q k.toNat) i = stAt q (l[i]).toNat := fun i hi => by
  conv => lhs; unfold stAt
  simp [hi]
  rfl
 have hL : ∀ i, i < (l.map fun k => stAt q k.toNat).length → i < l.length := fun i hi => by simpa using hi
 refine ⟨by simp [onlyY], fun i hi => ?_, fun i hi => ?_, fun i hi => ?_, fun i hi => ?_, fun i hi => ?_, fun i hi => ?_, fun i k hi hk hne => ?_⟩
 ·rw [hs i (hL i hi), only_at' y l (hL i hi)]; exact h.r _ (hb i (hL i hi))
 ·rw [hs i (hL i hi), only_at' y l (hL i hi)]; exact h.br _ (hb i (hL i hi))
 ·rw [hs i (hL i hi), only_at' y l (hL i hi)]; exact h.f1 _ (hb i (hL i hi))
 ·rw [hs i (hL i hi)]; exact h.f2 _ (hb i (hL i hi))
 ·rw [hs i (hL i hi), only_at' y l (hL i hi)]; exact h.f3 _ (hb i (hL i hi))
 ·rw [hs i (hL i hi), only_at' y l (hL i hi)]; exact h.f4 _ (hb i (hL i hi))
 ·rw [hs i (hL i hi), hs k (hL k hk), only_at' y l (hL i hi), only_at' y l (hL k hk)]
  refine h.sep _ _ (hb i (hL i hi)) (hb k (hL k hk)) fun e => ?_
  have h1 := (hl.m (l[i]'(hL i hi)) (List.getElem_mem (hL i hi))).1
  have h2 := (hl.m (l[k]'(hL k hk)) (List.getElem_mem (hL k hk))).1
  have e2 : l[i]'(hL i hi) = l[k]'(hL k hk) := by omega
  have hpw := List.pairwise_iff_getElem.1 hl.asc
  rcases Nat.lt_trichotomy i k with q | q | q
  ·have := hpw i k (hL i hi) (hL k hk) q; omega
  ·exact hne q
  ·have := hpw k i (hL k hk) (hL i hi) q; omega
theorem can_sub {y : Ya} (hy : YaV y) (h : (servedR y).isSome = true) {l : List Int} (hl : ChY y l) : canB y l = true := by
 obtain ⟨q, hq⟩ := Option.isSome_iff_exists.1 h
 obtain ⟨x, hx, _⟩ := (servedR_best (hl.ok hy)).2 _ (fe_only ((servedR_best hy).1 q hq) hl)
 unfold canB
 rw [hx]; rfl
theorem can_full {y : Ya} {l : List Int} (hl : ChY y l) (hn : l.length = y.carts.length) : canB y l = (servedR y).isSome := by
 unfold canB
 rw [only_full hl.m hl.asc hn]
theorem can_nil (y : Ya) : canB y [] = true := rfl
theorem serve_only {y : Ya} (hy : YaV y) {l : List Int} (hl : ChY y l) : (serveT (onlyY y l)).2.2 = if canB y l then 0 else 3 := by
 unfold serveT canB
 rw [if_pos (yErr_ok.2 (hl.ok hy))]
 cases servedR (onlyY y l) <;> rfl
theorem serve_err {y : Ya} (hy : YaV y) : (serveT y).2.2 = if (servedR y).isSome then 0 else 3 := by
 unfold serveT
 rw [if_pos (yErr_ok.2 hy)]
 cases servedR y <;> rfl
theorem find_flat {α : Type} {F : α → List (List Int)} {p : List Int → Bool} {l : List Int} : ∀ {ms : List α}, (ms.flatMap F).find? p = some l → ∃ A m B, ms = A ++ m :: B ∧ (∀ a ∈ A, ∀ x ∈ F a, p x = false) ∧ (F m).find? p = some l
 | [], h => by simp at h
 | m :: ms, h => by
  rw [List.flatMap_cons, List.find?_append] at h
  cases hm : (F m).find? p with
  | some l' =>
   rw [hm] at h
   have h' : l' = l := by simpa using h
   subst h'
   exact ⟨[], m, ms, rfl, (fun a ha => by cases ha), hm⟩
  | none =>
   rw [hm, Option.none_or] at h
   obtain ⟨A, m', B, e, h1, h2⟩ := find_flat h
   refine ⟨m :: A, m', B, by rw [e]; rfl, fun a ha x hx => ?_, h2⟩
   rcases List.mem_cons.1 ha with rfl | ha
   ·simpa using List.find?_eq_none.1 hm x hx
   ·exact h1 a ha x hx
theorem find_idx {p : List Int → Bool} {l : List Int} {W : List (List Int)} (h : W.find? p = some l) : ∃ k : Nat, W[k]? = some l ∧ ∀ j, j < k → ∀ a, W[j]? = some a → p a = false := by
 obtain ⟨_, i, hi, e, hj⟩ := List.find?_eq_some_iff_getElem.1 h
 refine ⟨i, by rw [List.getElem?_eq_getElem hi, e], fun j hji a ha => ?_⟩
 obtain ⟨hj', rfl⟩ := List.getElem?_eq_some_iff.1 ha
 simpa using hj j hji
structure StuckOk (y : Ya) (l : List Int) : Prop where
 ch : ChY y l
 no : canB y l = false
 n1 : 1 ≤ l.length
 none : servedR y = none
 small : ∀ m, 1 ≤ m → m < l.length → ∀ a ∈ choices y.carts.length m 0, canB y a = true
 idx : ∃ k : Nat, (choices y.carts.length l.length 0)[k]? = some l ∧ ∀ j, j < k → ∀ a, (choices y.carts.length l.length 0)[j]? = some a → canB y a = true
theorem stuck_all {y : Ya} (h : (stuckL y).find? (fun l => !canB y l) = none) : (servedR y).isSome = true := by
 obtain ⟨l, hl, hn⟩ := ch_full y
 rw [← can_full hl hn]
 rcases Nat.eq_zero_or_pos l.length with h0 | h0
 ·rw [List.length_eq_zero_iff.1 h0]; exact can_nil y
 ·have hm : l ∈ stuckL y := List.mem_flatMap.2 ⟨l.length, List.mem_range'_1.2 (by omega), ch_choices hl⟩
  simpa using List.find?_eq_none.1 h l hm
theorem stuck_ok {y : Ya} (hy : YaV y) {l : List Int} (h : (stuckL y).find? (fun l => !canB y l) = some l) : StuckOk y l := by
 obtain ⟨A, m, B, e, h1, h2⟩ := find_flat h
 have hlm := List.mem_of_find?_eq_some h2
 obtain ⟨hch, hlen⟩ := choices_ch hlm
 have hno : canB y l = false := by simpa using List.find?_some h2
 have hm : m ∈ List.range' 1 y.carts.length := by rw [e]; simp
 rw [List.mem_range'_1] at hm
 subst hlen
 refine ⟨hch, hno, hm.1, ?_, fun m hm1 hm2 a ha => ?_, ?_⟩
 ·cases hs : servedR y with
  | none => rfl
  | some q =>
   have := can_sub hy (by rw [hs]; rfl) hch
   rw [hno] at this; cases this
 ·have hin : m ∈ List.range' 1 y.carts.length := List.mem_range'_1.2 (by omega)
  have hA : m ∈ A := by
   rw [e] at hin
   rcases List.mem_append.1 hin with q | q
   ·exact q
   ·have hpw := List.pairwise_lt_range' (s := 1) (n := y.carts.length)
    rw [e, List.pairwise_append] at hpw
    rcases List.mem_cons.1 q with q | q
    ·omega
    ·have := (List.pairwise_cons.1 hpw.2.1).1 m q; omega
  simpa using h1 m hA a ha
 ·obtain ⟨k, g1, g2⟩ := find_idx h2
  exact ⟨k, g1, fun j hj a ha => by simpa using g2 j hj a ha⟩
structure MostOk (y : Ya) (l : List Int) : Prop where
 ch : ChY y l
 can : canB y l = true
 big : ∀ m, l.length < m → m ≤ y.carts.length → ∀ a ∈ choices y.carts.length m 0, canB y a = false
 idx : ∃ k : Nat, (choices y.carts.length l.length 0)[k]? = some l ∧ ∀ j, j < k → ∀ a, (choices y.carts.length l.length 0)[j]? = some a → canB y a = false
theorem MostOk.full {y : Ya} (hy : YaV y) {l : List Int} (h : MostOk y l) : l.length = y.carts.length ↔ (servedR y).isSome = true := by
 constructor
 ·intro hn
  rw [← can_full h.ch hn]; exact h.can
 ·intro hs
  obtain ⟨f, hf, hn⟩ := ch_full y
  have hle := h.ch.len
  rcases Nat.lt_or_ge l.length y.carts.length with hlt | hge
  ·have := h.big f.length (by omega) (by omega) f (ch_choices hf)
   rw [can_sub hy hs hf] at this; cases this
  ·omega
theorem most_ok {y : Ya} : MostOk y (match (mostL y).find? (canB y) with | none => [] | some l => l) := by
 cases h : (mostL y).find? (canB y) with
 | none =>
  refine ⟨⟨(fun x hx => by cases hx), List.Pairwise.nil⟩, can_nil y, fun m h1 h2 a ha => ?_, 0, rfl, fun j hj => by omega⟩
  have h1' : 0 < m := h1
  have hm : a ∈ mostL y := List.mem_flatMap.2 ⟨y.carts.length - m, List.mem_range.2 (by omega), by rw [show y.carts.length - (y.carts.length - m) = m by omega]; exact ha⟩
  simpa using List.find?_eq_none.1 h a hm
 | some l =>
  obtain ⟨A, j, B, e, h1, h2⟩ := find_flat h
  have hlm := List.mem_of_find?_eq_some h2
  obtain ⟨hch, hlen⟩ := choices_ch hlm
  have hj : j ∈ List.range y.carts.length := by rw [e]; simp
  rw [List.mem_range] at hj
  show MostOk y l
  refine ⟨hch, List.find?_some h2, fun m hm1 hm2 a ha => ?_, ?_⟩
  ·have hin : y.carts.length - m ∈ List.range y.carts.length := List.mem_range.2 (by omega)
   have hA : y.carts.length - m ∈ A := by
    rw [e] at hin
    rcases List.mem_append.1 hin with q | q
    ·exact q
    ·have hpw := List.pairwise_lt_range (n := y.carts.length)
     rw [e, List.pairwise_append] at hpw
     rcases List.mem_cons.1 q with q | q
     ·omega
     ·have := (List.pairwise_cons.1 hpw.2.1).1 _ q; omega
   have := h1 _ hA a (by rw [show y.carts.length - (y.carts.length - m) = m by omega]; exact ha)
   exact this
  ·rw [hlen]
   exact find_idx h2
end Go.Proofs.Ythcicaelnchfdaa

/- Plans that are away sooner, plain. -/
namespace Go.Proofs.Ythcicaelnchfdaa
end Go.Proofs.Ythcicaelnchfdaa
