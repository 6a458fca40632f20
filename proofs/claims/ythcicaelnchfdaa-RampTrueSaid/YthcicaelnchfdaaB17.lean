/- A part of the proofs about the chapter of the ramps; it states no condition of its own. -/
import Derived.Test.YthcicaelnchfdaaB16
set_option linter.unusedVariables false
set_option linter.unusedSimpArgs false
/- A yard for which a plan is sought, plain: when ramps are done. -/
namespace Go.Proofs.Ythcicaelnchfdaa
structure Ry where
 y : Ya
 wk : List (Nat × Nat)
 frm : List Int
 til : Int
def mustAt (R : Ry) (r : Nat) : Nat := (R.wk.getD r (0, 0)).1
def notAt (R : Ry) (r : Nat) : Nat := (R.wk.getD r (0, 0)).2
def frmAt (R : Ry) (c : Nat) : Int := R.frm.getD c 0
structure RyOk (R : Ry) : Prop where
 y : YaV R.y
 wl : R.wk.length = 3
 fl : R.frm.length = 7
 w : ∀ r, mustAt R r < 128 ∧ notAt R r < 128
 f : ∀ c, 0 ≤ frmAt R c ∧ frmAt R c ≤ 1000
 t0 : 0 ≤ R.til
 t1 : R.til ≤ 1000
def rAt (R : Ry) (r : Nat) : Ra := raAt R.y r
def mayB (R : Ry) (c r : Nat) : Bool := decide ((r : Int) ∈ (ctAt R.y c).ramps) && decide ((ctAt R.y c).grams ≤ (rAt R r).bears) && !(notAt R r).testBit c
def never : Int := 1048576
def lastF (R : Ry) (r c : Nat) (t : List Int) (s : Nat) : Int :=
 let f0 := max (ctAt R.y c).from_ (rAt R r).open_
 if 0 < sdiff s (2 ^ c) then max f0 (t.getD (sdiff s (2 ^ c)) 0 + R.y.sweep) else f0
def comeF (R : Ry) (r c : Nat) (t : List Int) (s : Nat) : Option Int :=
 if (mustAt R r).testBit c then (if frmAt R c < lastF R r c t s then none else some (frmAt R c)) else some (lastF R r c t s)
def limF (R : Ry) (r c : Nat) : Int := min (min (ctAt R.y c).until_ (rAt R r).shut) R.til
def stepD (R : Ry) (r : Nat) (s : Nat) (t : List Int) (c : Nat) : List Int :=
 if s.testBit c && mayB R c r then
  match comeF R r c t s with
  | none => t
  | some f => if f + (ctAt R.y c).takes.hi ≤ limF R r c then t.set s (min (t.getD s 0) (f + (ctAt R.y c).takes.hi)) else t
 else t
def rowD (R : Ry) (r : Nat) (t : List Int) (s : Nat) : List Int := (List.range R.y.carts.length).foldl (stepD R r s) (t.set s never)
def doneL (R : Ry) (r : Nat) : List Int := (List.range' 1 (2 ^ R.y.carts.length - 1)).foldl (rowD R r) (List.replicate 128 0)
theorem stepD_len (R : Ry) (r s : Nat) (t : List Int) (c : Nat) : (stepD R r s t c).length = t.length := by
 unfold stepD
 split
 ·split
  ·rfl
  ·split <;> simp
 ·rfl
theorem rowD_len (R : Ry) (r : Nat) (t : List Int) (s : Nat) : (rowD R r t s).length = t.length := by
 unfold rowD
 generalize List.range R.y.carts.length = l
 have : ∀ (l : List Nat) (t : List Int), (l.foldl (stepD R r s) t).length = t.length := by
  intro l
  induction l with
  | nil => intro t; rfl
  | cons c l ih => intro t; rw [List.foldl_cons, ih, stepD_len]
 rw [this]; simp
theorem foldD_len (R : Ry) (r : Nat) : ∀ (l : List Nat) (t : List Int), (l.foldl (rowD R r) t).length = t.length := by
 intro l
 induction l with
 | nil => intro t; rfl
 | cons c l ih => intro t; rw [List.foldl_cons, ih, rowD_len]
theorem doneL_len (R : Ry) (r : Nat) : (doneL R r).length = 128 := by
 unfold doneL
 rw [foldD_len]; simp
def TB (t : List Int) : Prop := ∀ x ∈ t, 0 ≤ x ∧ x ≤ 1048576
theorem TB.getD {t : List Int} (h : TB t) (i : Nat) : 0 ≤ t.getD i 0 ∧ t.getD i 0 ≤ 1048576 := by
 rw [List.getD_eq_getElem?_getD]
 cases hx : t[i]? with
 | none => simp
 | some x => exact h x (List.mem_of_getElem? hx)
theorem TB.set {t : List Int} {i : Nat} {x : Int} (h : TB t) (hx : 0 ≤ x ∧ x ≤ 1048576) : TB (t.set i x) := fun z hz => by
 rcases List.mem_or_eq_of_mem_set hz with h1 | h1
 ·exact h z h1
 ·rw [h1]; exact hx
theorem lastF_bd {R : Ry} {r c : Nat} {t : List Int} {s : Nat} (h : RyOk R) (hr : r < R.y.ramps.length) (hc : c < R.y.carts.length) (ht : TB t) : 0 ≤ lastF R r c t s ∧ lastF R r c t s ≤ 2000000 := by
 have a := h.y.ct _ (ctAt_mem hc)
 have b := h.y.ra _ (raAt_mem (r := (r : Int)) (by omega) (by omega))
 have a1 := a.f0
 have a2 := a.fu
 have a3 := a.u1
 have b1 := b.o0
 have b2 := b.os
 have b3 := b.s1
 have c1 := h.y.s0
 have c2 := h.y.s1
 have d := ht.getD (sdiff s (2 ^ c))
 unfold lastF rAt
 simp only
 split <;> omega
theorem stepD_tb {R : Ry} {r s c : Nat} {t : List Int} (h : RyOk R) (hr : r < R.y.ramps.length) (hc : c < R.y.carts.length) (ht : TB t) : TB (stepD R r s t c) := by
 unfold stepD
 split
 ·split
  ·exact ht
  ·rename_i f hf
   have hl := lastF_bd (s := s) h hr hc ht
   have hfr := h.f c
   have a := h.y.ct _ (ctAt_mem hc)
   have a1 := a.l0
   have a2 := a.lh
   have a3 := a.h1
   have hf0 : 0 ≤ f ∧ f ≤ 2000000 := by
    unfold comeF at hf
    split at hf
    ·split at hf
     ·cases hf
     ·cases hf; omega
    ·cases hf; exact hl
   split
   ·have d := ht.getD s
    exact ht.set (by omega)
   ·exact ht
 ·exact ht
theorem rowD_tb {R : Ry} {r s : Nat} {t : List Int} (h : RyOk R) (hr : r < R.y.ramps.length) (ht : TB t) : TB (rowD R r t s) := by
 unfold rowD
 have h0 : TB (t.set s never) := ht.set (by unfold never; omega)
 exact fold_inv (p := TB) h0 fun c hc t ht => stepD_tb h hr (List.mem_range.1 hc) ht
theorem doneL_tb {R : Ry} {r : Nat} (h : RyOk R) (hr : r < R.y.ramps.length) : TB (doneL R r) :=
 fold_inv (p := TB) (fun x hx => by rw [List.mem_replicate] at hx; omega) fun s _ t ht => rowD_tb h hr ht
end Go.Proofs.Ythcicaelnchfdaa

/- When sets of carts can be away, plain: as it is computed. -/
namespace Go.Proofs.Ythcicaelnchfdaa
def partF (R : Ry) (r : Nat) (t all : List Int) (s : Nat) (m : Int) (q : Nat) : Int :=
 if q &&& mustAt R r = s &&& mustAt R r then min m (max (t.getD q 0) (all.getD (sdiff s q) 0)) else m
def minP (R : Ry) (r : Nat) (t all : List Int) (s : Nat) : Int := (subsTo s s).foldl (partF R r t all s) never
def nextTo (R : Ry) (r : Nat) (t all : List Int) (k : Nat) : List Int := (List.range k).foldl (fun nx s => nx.set s (minP R r t all s)) (List.replicate 128 0)
def allL (R : Ry) : Nat → List Int
 | 0 => 0 :: List.replicate 127 never
 | r + 1 => nextTo R r (doneL R r) (allL R r) (2 ^ R.y.carts.length)
def soonestL (R : Ry) : List Int := allL R R.y.ramps.length
theorem nextTo_len (R : Ry) (r : Nat) (t all : List Int) (k : Nat) : (nextTo R r t all k).length = 128 := by
 unfold nextTo
 generalize List.range k = l
 have : ∀ (l : List Nat) (x : List Int), (l.foldl (fun nx s => nx.set s (minP R r t all s)) x).length = x.length := by
  intro l
  induction l with
  | nil => intro x; rfl
  | cons a l ih => intro x; rw [List.foldl_cons, ih]; simp
 rw [this]; simp
theorem nextTo_succ (R : Ry) (r : Nat) (t all : List Int) (k : Nat) : nextTo R r t all (k + 1) = (nextTo R r t all k).set k (minP R r t all k) := by
 unfold nextTo
 rw [List.range_succ, List.foldl_append]
 rfl
theorem allL_len (R : Ry) : ∀ r, (allL R r).length = 128
 | 0 => by simp [allL]
 | r + 1 => nextTo_len _ _ _ _ _
theorem nextTo_get {R : Ry} {r : Nat} {t all : List Int} : ∀ {k s : Nat}, s < k → k ≤ 128 → (nextTo R r t all k).getD s 0 = minP R r t all s
 | k + 1, s, h, hk => by
  rw [nextTo_succ, List.getD_eq_getElem?_getD, List.getElem?_set]
  by_cases e : k = s
  ·subst e
   rw [if_pos rfl, if_pos (by rw [nextTo_len]; omega)]; rfl
  ·rw [if_neg e, ← List.getD_eq_getElem?_getD]
   exact nextTo_get (by omega) (by omega)
theorem allL_get {R : Ry} {r s : Nat} (hm : R.y.carts.length ≤ 7) (h : s < 2 ^ R.y.carts.length) : (allL R (r + 1)).getD s 0 = minP R r (doneL R r) (allL R r) s := by
 rw [allL]
 exact nextTo_get h (Nat.pow_le_pow_right (n := 2) (by decide) hm)
end Go.Proofs.Ythcicaelnchfdaa

/- When sets of carts can be away, plain: what the numbers mean. -/
namespace Go.Proofs.Ythcicaelnchfdaa
/-! ### the numbers of one ramp -/
def stepV (R : Ry) (r s : Nat) (t : List Int) (m : Int) (c : Nat) : Int :=
 if s.testBit c && mayB R c r then
  match comeF R r c t s with
  | none => m
  | some f => if f + (ctAt R.y c).takes.hi ≤ limF R r c then min m (f + (ctAt R.y c).takes.hi) else m
 else m
theorem sdiff_self_lt {s c : Nat} (h : s.testBit c = true) : sdiff s (2 ^ c) < s := by
 have h1 := sdiff_le s (2 ^ c)
 rcases Nat.lt_or_ge (sdiff s (2 ^ c)) s with h2 | h2
 ·exact h2
 ·have e : sdiff s (2 ^ c) = s := by omega
  have := sdiff_bit s (2 ^ c) c
  rw [e, h, Nat.testBit_two_pow] at this
  simp at this
theorem getD_set {t : List Int} {i j : Nat} {x : Int} (h : i < t.length) : (t.set i x).getD j 0 = if i = j then x else t.getD j 0 := by
 rw [List.getD_eq_getElem?_getD, List.getD_eq_getElem?_getD, List.getElem?_set]
 by_cases e : i = j
 ·subst e; simp [h]
 ·simp [e]
theorem comeF_congr {R : Ry} {r c s : Nat} {t t' : List Int} (h : t.getD (sdiff s (2 ^ c)) 0 = t'.getD (sdiff s (2 ^ c)) 0) : comeF R r c t s = comeF R r c t' s := by
 unfold comeF lastF
 rw [h]
theorem row_fold {R : Ry} {r s : Nat} {t0 : List Int} (hs : s < t0.length) : ∀ (l : List Nat) (t : List Int), t.length = t0.length → (∀ i, i ≠ s → t.getD i 0 = t0.getD i 0) →
  (l.foldl (stepD R r s) t).getD s 0 = l.foldl (stepV R r s t0) (t.getD s 0) ∧ ∀ i, i ≠ s → (l.foldl (stepD R r s) t).getD i 0 = t0.getD i 0
 | [], t, _, h => ⟨rfl, h⟩
 | c :: l, t, hl, h => by
  rw [List.foldl_cons, List.foldl_cons]
  have key : (stepD R r s t c).getD s 0 = stepV R r s t0 (t.getD s 0) c ∧ ∀ i, i ≠ s → (stepD R r s t c).getD i 0 = t0.getD i 0 := by
   unfold stepD stepV
   cases hb : s.testBit c && mayB R c r with
   | false => exact ⟨rfl, h⟩
   | true =>
    simp only [Bool.and_eq_true] at hb
    have hlt := sdiff_self_lt hb.1
    rw [if_pos rfl, if_pos rfl, comeF_congr (h (sdiff s (2 ^ c)) (by omega))]
    cases comeF R r c t0 s with
    | none => exact ⟨rfl, h⟩
    | some f =>
     simp only
     by_cases hlim : f + (ctAt R.y c).takes.hi ≤ limF R r c
     ·rw [if_pos hlim, if_pos hlim]
      refine ⟨by rw [getD_set (by omega), if_pos rfl], fun i hi => ?_⟩
      rw [getD_set (by omega), if_neg (fun e => hi e.symm)]
      exact h i hi
     ·rw [if_neg hlim, if_neg hlim]
      exact ⟨rfl, h⟩
  have ih := row_fold (R := R) (r := r) hs l (stepD R r s t c) (by rw [stepD_len]; exact hl) key.2
  rw [key.1] at ih
  exact ih
theorem rowD_get {R : Ry} {r s : Nat} {t : List Int} (hs : s < t.length) : (rowD R r t s).getD s 0 = (List.range R.y.carts.length).foldl (stepV R r s t) never ∧ ∀ i, i ≠ s → (rowD R r t s).getD i 0 = t.getD i 0 := by
 unfold rowD
 have h := row_fold (R := R) (r := r) hs (List.range R.y.carts.length) (t.set s never) (by simp) (fun i hi => by rw [getD_set hs, if_neg (fun e => hi e.symm)])
 rw [getD_set hs, if_pos rfl] at h
 exact h
def doneTo (R : Ry) (r k : Nat) : List Int := (List.range' 1 (k - 1)).foldl (rowD R r) (List.replicate 128 0)
theorem doneTo_len (R : Ry) (r k : Nat) : (doneTo R r k).length = 128 := by
 unfold doneTo
 rw [foldD_len]; simp
theorem doneTo_succ {R : Ry} {r k : Nat} (h : 1 ≤ k) : doneTo R r (k + 1) = rowD R r (doneTo R r k) k := by
 unfold doneTo
 rw [show k + 1 - 1 = (k - 1) + 1 by omega, List.range'_1_concat, List.foldl_append, show 1 + (k - 1) = k by omega]
 rfl
theorem doneTo_stay {R : Ry} {r i : Nat} : ∀ {k k' : Nat}, 1 ≤ k → i < k → k ≤ k' → k' ≤ 128 → (doneTo R r k').getD i 0 = (doneTo R r k).getD i 0 := by
 intro k k' h1 hi hk hk'
 obtain ⟨d, rfl⟩ : ∃ d, k' = k + d := ⟨k' - k, by omega⟩
 induction d with
 | zero => rfl
 | succ d ih =>
  rw [← Nat.add_assoc, doneTo_succ (by omega), (rowD_get (by rw [doneTo_len]; omega)).2 i (by omega)]
  exact ih (by omega) (by omega)
theorem doneL_rec {R : Ry} {r s : Nat} (hm : R.y.carts.length ≤ 7) (h0 : 1 ≤ s) (hs : s < 2 ^ R.y.carts.length) : (doneL R r).getD s 0 = (List.range R.y.carts.length).foldl (stepV R r s (doneL R r)) never := by
 have h2n : 2 ^ R.y.carts.length ≤ 128 := Nat.pow_le_pow_right (n := 2) (by decide) hm
 have hd : doneL R r = doneTo R r (2 ^ R.y.carts.length) := rfl
 rw [hd, doneTo_stay (k := s + 1) (by omega) (by omega) (by omega) h2n, doneTo_succ h0, (rowD_get (by rw [doneTo_len]; omega)).1]
 have key : ∀ (l : List Nat) (m : Int), l.foldl (stepV R r s (doneTo R r s)) m = l.foldl (stepV R r s (doneTo R r (2 ^ R.y.carts.length))) m := by
  intro l
  induction l with
  | nil => intro m; rfl
  | cons c l ih =>
   intro m
   rw [List.foldl_cons, List.foldl_cons, ih]
   congr 1
   unfold stepV
   cases hb : s.testBit c with
   | false => rfl
   | true =>
    have hlt := sdiff_self_lt hb
    rw [comeF_congr (t' := doneTo R r (2 ^ R.y.carts.length)) (doneTo_stay (by omega) hlt (by omega) h2n).symm]
 rw [key]
theorem doneL_zero (R : Ry) (r : Nat) (hm : R.y.carts.length ≤ 7) : (doneL R r).getD 0 0 = 0 := by
 have h2n : 2 ^ R.y.carts.length ≤ 128 := Nat.pow_le_pow_right (n := 2) (by decide) hm
 have h2p : 1 ≤ 2 ^ R.y.carts.length := Nat.one_le_two_pow
 have hd : doneL R r = doneTo R r (2 ^ R.y.carts.length) := rfl
 rw [hd, doneTo_stay (k := 1) (by omega) (by omega) h2p h2n]
 simp [doneTo]
theorem fold_le {α : Type} {f : Int → α → Int} {g : α → Option Int} (hf : ∀ m a, f m a = match g a with
  | none => m
  | some x => min m x) {V : Int} : ∀ (l : List α) (m : Int), l.foldl f m ≤ V ↔ m ≤ V ∨ ∃ a ∈ l, ∃ x, g a = some x ∧ x ≤ V
 | [], m => by simp
 | a :: l, m => by
  rw [List.foldl_cons, fold_le hf l (f m a), hf]
  constructor
  ·rintro (h | ⟨b, hb, x, hx, hv⟩)
   ·cases hg : g a with
    | none => rw [hg] at h; exact .inl h
    | some x =>
     rw [hg] at h
     simp only at h
     by_cases hm : m ≤ V
     ·exact .inl hm
     ·exact .inr ⟨a, by simp, x, hg, by omega⟩
   ·exact .inr ⟨b, by simp [hb], x, hx, hv⟩
  ·rintro (h | ⟨b, hb, x, hx, hv⟩)
   ·left
    cases hg : g a with
    | none => exact h
    | some x => simp only; omega
   ·rcases List.mem_cons.1 hb with rfl | hb
    ·left
     rw [hx]
     simp only; omega
    ·exact .inr ⟨b, hb, x, hx, hv⟩
structure OnR (R : Ry) (r s : Nat) (V : Int) (g : Nat → Int) : Prop where
 may : ∀ c, s.testBit c = true → mayB R c r = true
 f1 : ∀ c, s.testBit c = true → (ctAt R.y c).from_ ≤ g c
 f2 : ∀ c, s.testBit c = true → (rAt R r).open_ ≤ g c
 f3 : ∀ c, s.testBit c = true → g c + (ctAt R.y c).takes.hi ≤ limF R r c
 v : ∀ c, s.testBit c = true → g c + (ctAt R.y c).takes.hi ≤ V
 mu : ∀ c, s.testBit c = true → (mustAt R r).testBit c = true → g c = frmAt R c
 sep : ∀ c d, s.testBit c = true → s.testBit d = true → c ≠ d → g c + (ctAt R.y c).takes.hi + R.y.sweep ≤ g d ∨ g d + (ctAt R.y d).takes.hi + R.y.sweep ≤ g c
theorem last_bit {s : Nat} (g : Nat → Int) (n : Nat) (hs : s < 2 ^ n) (h0 : 0 < s) : ∃ c, s.testBit c = true ∧ c < n ∧ ∀ d, s.testBit d = true → g d ≤ g c := by
 have hex : ∃ c, s.testBit c = true := Nat.exists_testBit_of_ne_zero (by omega)
 have hbd : ∀ c, s.testBit c = true → c < n := fun c hc => by
  rcases Nat.lt_or_ge c n with h | h
  ·exact h
  ·have : s.testBit c = false := Nat.testBit_lt_two_pow (Nat.lt_of_lt_of_le hs (Nat.pow_le_pow_right (by decide) h))
   rw [this] at hc; cases hc
 have key : ∀ k, (∃ c, c < k ∧ s.testBit c = true) → ∃ c, c < k ∧ s.testBit c = true ∧ ∀ d, d < k → s.testBit d = true → g d ≤ g c := by
  intro k
  induction k with
  | zero => intro ⟨c, hc, _⟩; omega
  | succ k ih =>
   intro ⟨c, hc, hb⟩
   by_cases hl : ∃ c, c < k ∧ s.testBit c = true
   ·obtain ⟨e, he, heb, hem⟩ := ih hl
    by_cases hcmp : s.testBit k = true ∧ g e < g k
    ·refine ⟨k, by omega, hcmp.1, fun d hd hdb => ?_⟩
     rcases Nat.lt_or_ge d k with h1 | h1
     ·have := hem d h1 hdb; omega
     ·rw [show d = k by omega]; exact Int.le_refl _
    ·refine ⟨e, by omega, heb, fun d hd hdb => ?_⟩
     rcases Nat.lt_or_ge d k with h1 | h1
     ·exact hem d h1 hdb
     ·have hdk : d = k := by omega
      subst hdk
      have : ¬ g e < g d := fun h => hcmp ⟨hdb, h⟩
      omega
   ·have hck : c = k := by
     rcases Nat.lt_or_ge c k with h1 | h1
     ·exact absurd ⟨c, h1, hb⟩ hl
     ·omega
    subst hck
    refine ⟨c, by omega, hb, fun d hd hdb => ?_⟩
    rcases Nat.lt_or_ge d c with h1 | h1
    ·exact absurd ⟨d, h1, hdb⟩ hl
    ·rw [show d = c by omega]; exact Int.le_refl _
 obtain ⟨c, hc⟩ := hex
 obtain ⟨e, h1, h2, h3⟩ := key n ⟨c, hbd c hc, hc⟩
 exact ⟨e, h2, h1, fun d hd => h3 d (hbd d hd) hd⟩
theorem done_iff {R : Ry} (hR : RyOk R) {r : Nat} (hr : r < R.y.ramps.length) : ∀ (s : Nat) (V : Int), 0 < s → s < 2 ^ R.y.carts.length → V < never → ((doneL R r).getD s 0 ≤ V ↔ ∃ g, OnR R r s V g) := by
 intro s
 induction s using Nat.strongRecOn with
 | ind s ih =>
 intro V h0 hs hV
 have hm := hR.y.m1
 have hsw := hR.y.s0
 have hbd : ∀ c, s.testBit c = true → c < R.y.carts.length := fun c hc => by
  rcases Nat.lt_or_ge c R.y.carts.length with h | h
  ·exact h
  ·have : s.testBit c = false := Nat.testBit_lt_two_pow (Nat.lt_of_lt_of_le hs (Nat.pow_le_pow_right (by decide) h))
   rw [this] at hc; cases hc
 have hcv : ∀ c, s.testBit c = true → 1 ≤ (ctAt R.y c).takes.hi := fun c hc => by
  have := hR.y.ct _ (ctAt_mem (hbd c hc))
  have a := this.l0
  have b := this.lh
  omega
 have hsdb : ∀ c d, (sdiff s (2 ^ c)).testBit d = true ↔ s.testBit d = true ∧ d ≠ c := fun c d => by
  rw [sdiff_bit, Nat.testBit_two_pow]
  by_cases e : c = d
  ·subst e; simp
  ·simp [e, Ne.symm e]
 rw [doneL_rec hm h0 hs, fold_le (g := fun c => if s.testBit c && mayB R c r then (match comeF R r c (doneL R r) s with
  | none => none
  | some f => if f + (ctAt R.y c).takes.hi ≤ limF R r c then some (f + (ctAt R.y c).takes.hi) else none) else none) (fun m c => by
   unfold stepV
   split
   ·cases comeF R r c (doneL R r) s with
    | none => rfl
    | some f =>
     simp only
     split <;> rfl
   ·rfl)]
 constructor
 ·rintro (h | ⟨c, _, x, hx, hxV⟩)
  ·omega
  ·split at hx
   case isFalse => cases hx
   case isTrue hb =>
   simp only [Bool.and_eq_true] at hb
   obtain ⟨hbc, hmay⟩ := hb
   split at hx
   ·cases hx
   ·rename_i f hf
    split at hx
    case isFalse => cases hx
    case isTrue hlim =>
    cases hx
    -- f is at least lastF
    have hlf : lastF R r c (doneL R r) s ≤ f ∧ ((mustAt R r).testBit c = true → f = frmAt R c) := by
     unfold comeF at hf
     split at hf
     ·rename_i hmu
      split at hf
      ·cases hf
      ·cases hf
       exact ⟨by omega, fun _ => rfl⟩
     ·rename_i hmu
      cases hf
      exact ⟨Int.le_refl _, fun h => absurd h hmu⟩
    obtain ⟨hlf, hmu⟩ := hlf
    have hl0 : (ctAt R.y c).from_ ≤ f ∧ (rAt R r).open_ ≤ f := by
     unfold lastF at hlf
     simp only at hlf
     split at hlf <;> omega
    by_cases hb0 : 0 < sdiff s (2 ^ c)
    ·have hDb : (doneL R r).getD (sdiff s (2 ^ c)) 0 ≤ f - R.y.sweep := by
      unfold lastF at hlf
      simp only at hlf
      rw [if_pos hb0] at hlf
      omega
     have hfV : f - R.y.sweep < never := by
      have := hcv c hbc
      omega
     obtain ⟨g, hg⟩ := (ih _ (sdiff_self_lt hbc) (f - R.y.sweep) hb0 (Nat.lt_of_le_of_lt (sdiff_le _ _) hs) hfV).1 hDb
     have hgc : ∀ d, d ≠ c → (if d = c then f else g d) = g d := fun d hd => if_neg hd
     have hgcc : (if c = c then f else g c) = f := if_pos rfl
     refine ⟨fun d => if d = c then f else g d, fun d hd => ?_, fun d hd => ?_, fun d hd => ?_, fun d hd => ?_, fun d hd => ?_, fun d hd hdm => ?_, fun d e hd he hne => ?_⟩
     ·by_cases hdc : d = c
      ·subst hdc; exact hmay
      ·exact hg.may d ((hsdb c d).2 ⟨hd, hdc⟩)
     ·by_cases hdc : d = c
      ·subst hdc; simp only [if_true]; exact hl0.1
      ·simp only [hgc d hdc]; exact hg.f1 d ((hsdb c d).2 ⟨hd, hdc⟩)
     ·by_cases hdc : d = c
      ·subst hdc; simp only [if_true]; exact hl0.2
      ·simp only [hgc d hdc]; exact hg.f2 d ((hsdb c d).2 ⟨hd, hdc⟩)
     ·by_cases hdc : d = c
      ·subst hdc; simp only [if_true]; exact hlim
      ·simp only [hgc d hdc]; exact hg.f3 d ((hsdb c d).2 ⟨hd, hdc⟩)
     ·by_cases hdc : d = c
      ·subst hdc; simp only [if_true]; exact hxV
      ·simp only [hgc d hdc]
       have := hg.v d ((hsdb c d).2 ⟨hd, hdc⟩)
       have := hcv c hbc
       omega
     ·by_cases hdc : d = c
      ·subst hdc; simp only [if_true]; exact hmu hdm
      ·simp only [hgc d hdc]; exact hg.mu d ((hsdb c d).2 ⟨hd, hdc⟩) hdm
     ·by_cases hdc : d = c
      ·subst hdc
       have hed : e ≠ d := fun h => hne h.symm
       simp only [if_true, hgc e hed]
       have := hg.v e ((hsdb d e).2 ⟨he, hed⟩)
       right; omega
      ·by_cases hec : e = c
       ·subst hec
        simp only [if_true, hgc d hdc]
        have := hg.v d ((hsdb e d).2 ⟨hd, hdc⟩)
        left; omega
       ·simp only [hgc d hdc, hgc e hec]
        exact hg.sep d e ((hsdb c d).2 ⟨hd, hdc⟩) ((hsdb c e).2 ⟨he, hec⟩) hne
    ·have hs1 : ∀ d, s.testBit d = true → d = c := fun d hd => by
      rcases Nat.decEq d c with hne | he
      ·have := (hsdb c d).2 ⟨hd, hne⟩
       rw [show sdiff s (2 ^ c) = 0 by omega] at this
       simp at this
      ·exact he
     refine ⟨fun _ => f, fun d hd => ?_, fun d hd => ?_, fun d hd => ?_, fun d hd => ?_, fun d hd => ?_, fun d hd hdm => ?_, fun d e hd he hne => ?_⟩
     ·rw [hs1 d hd]; exact hmay
     ·rw [hs1 d hd]; exact hl0.1
     ·exact hl0.2
     ·rw [hs1 d hd]; exact hlim
     ·rw [hs1 d hd]; exact hxV
     ·rw [hs1 d hd] at hdm ⊢; exact hmu hdm
     ·rw [hs1 d hd, hs1 e he] at hne; exact absurd rfl hne
 ·rintro ⟨g, hg⟩
  right
  obtain ⟨c, hbc, hcn, hmax⟩ := last_bit g R.y.carts.length hs h0
  refine ⟨c, List.mem_range.2 hcn, ?_⟩
  have hmay := hg.may c hbc
  rw [hbc, hmay]
  simp only [Bool.and_self, if_true]
  have hlf : lastF R r c (doneL R r) s ≤ g c := by
   have a := hg.f1 c hbc
   have b := hg.f2 c hbc
   unfold lastF
   simp only
   by_cases hb0 : 0 < sdiff s (2 ^ c)
   ·rw [if_pos hb0]
    have hDb : (doneL R r).getD (sdiff s (2 ^ c)) 0 ≤ g c - R.y.sweep := by
     have hfV : g c - R.y.sweep < never := by
      have := hcv c hbc
      have := hg.v c hbc
      omega
     refine (ih _ (sdiff_self_lt hbc) (g c - R.y.sweep) hb0 (Nat.lt_of_le_of_lt (sdiff_le _ _) hs) hfV).2 ⟨g, fun d hd => hg.may d ((hsdb c d).1 hd).1, fun d hd => hg.f1 d ((hsdb c d).1 hd).1, fun d hd => hg.f2 d ((hsdb c d).1 hd).1, fun d hd => hg.f3 d ((hsdb c d).1 hd).1, fun d hd => ?_, fun d hd => hg.mu d ((hsdb c d).1 hd).1, fun d e hd he => hg.sep d e ((hsdb c d).1 hd).1 ((hsdb c e).1 he).1⟩
     obtain ⟨hd1, hd2⟩ := (hsdb c d).1 hd
     have h1 := hmax d hd1
     have h2 := hcv c hbc
     rcases hg.sep d c hd1 hbc hd2 with h3 | h3
     ·omega
     ·omega
    omega
   ·rw [if_neg hb0]; omega
  have hlim := hg.f3 c hbc
  have hv := hg.v c hbc
  unfold comeF
  by_cases hmu : (mustAt R r).testBit c = true
  ·rw [if_pos hmu]
   have hfe := hg.mu c hbc hmu
   rw [if_neg (by omega)]
   simp only
   rw [if_pos (by omega)]
   exact ⟨_, rfl, by omega⟩
  ·rw [if_neg hmu]
   simp only
   rw [if_pos (by omega)]
   exact ⟨_, rfl, by omega⟩
end Go.Proofs.Ythcicaelnchfdaa

/- When sets of carts can be away, plain: on all ramps. -/
namespace Go.Proofs.Ythcicaelnchfdaa
def maskOf (f : Nat → Bool) : Nat → Nat
 | 0 => 0
 | n + 1 => maskOf f n ||| (if f n then 2 ^ n else 0)
theorem maskOf_bit (f : Nat → Bool) : ∀ n i, (maskOf f n).testBit i = (decide (i < n) && f i)
 | 0, i => by simp [maskOf]
 | n + 1, i => by
  rw [maskOf, Nat.testBit_or, maskOf_bit f n i]
  by_cases h : i = n
  ·subst h
   cases hf : f i <;> simp [hf, Nat.testBit_two_pow]
  ·have h2 : (if f n = true then 2 ^ n else 0).testBit i = false := by
    split
    ·rw [Nat.testBit_two_pow]; simp; omega
    ·simp
   rw [h2, Bool.or_false]
   by_cases h3 : i < n
   ·rw [decide_eq_true h3, decide_eq_true (by omega)]
   ·rw [decide_eq_false h3, decide_eq_false (by omega)]
structure AsK (R : Ry) (k s : Nat) (V : Int) (p : Nat → Nat × Int) : Prop where
 rk : ∀ c, s.testBit c = true → (p c).1 < k
 may : ∀ c, s.testBit c = true → mayB R c (p c).1 = true
 f1 : ∀ c, s.testBit c = true → (ctAt R.y c).from_ ≤ (p c).2
 f2 : ∀ c, s.testBit c = true → (rAt R (p c).1).open_ ≤ (p c).2
 f3 : ∀ c, s.testBit c = true → (p c).2 + (ctAt R.y c).takes.hi ≤ limF R (p c).1 c
 v : ∀ c, s.testBit c = true → (p c).2 + (ctAt R.y c).takes.hi ≤ V
 mu : ∀ c, s.testBit c = true → (mustAt R (p c).1).testBit c = true → (p c).2 = frmAt R c
 mst : ∀ c, s.testBit c = true → ∀ r, r < k → (p c).1 ≤ r → (mustAt R r).testBit c = true → (p c).1 = r
 sep : ∀ c d, s.testBit c = true → s.testBit d = true → c ≠ d → (p c).1 = (p d).1 → (p c).2 + (ctAt R.y c).takes.hi + R.y.sweep ≤ (p d).2 ∨ (p d).2 + (ctAt R.y d).takes.hi + R.y.sweep ≤ (p c).2
theorem limF_eq (R : Ry) (r c : Nat) : limF R r c = min (min (ctAt R.y c).until_ (rAt R r).shut) R.til := rfl
theorem allL_iff {R : Ry} (hR : RyOk R) : ∀ (k s : Nat) (V : Int), k ≤ R.y.ramps.length → s < 2 ^ R.y.carts.length → 0 ≤ V → V < never → ((allL R k).getD s 0 ≤ V ↔ ∃ p, AsK R k s V p)
 | 0, s, V, _, hs, h0, hV => by
  have hm := hR.y.m1
  have h2n : 2 ^ R.y.carts.length ≤ 128 := Nat.pow_le_pow_right (n := 2) (by decide) hm
  rcases Nat.eq_zero_or_pos s with hz | hz
  ·subst hz
   constructor
   ·intro _
    exact ⟨fun _ => (0, 0), fun c hc => by simp at hc, fun c hc => by simp at hc, fun c hc => by simp at hc, fun c hc => by simp at hc, fun c hc => by simp at hc, fun c hc => by simp at hc, fun c hc => by simp at hc, fun c hc => by simp at hc, fun c d hc => by simp at hc⟩
   ·intro _
    simpa [allL] using h0
  ·constructor
   ·intro h
    obtain ⟨j, rfl⟩ : ∃ j, s = j + 1 := ⟨s - 1, by omega⟩
    have : (allL R 0).getD (j + 1) 0 = never := by
     have hj : j < 127 := by omega
     show (List.replicate 127 never).getD j 0 = never
     rw [List.getD_eq_getElem?_getD, List.getElem?_replicate, if_pos hj]
     rfl
    omega
   ·rintro ⟨p, hp⟩
    obtain ⟨c, hc⟩ := Nat.exists_testBit_of_ne_zero (show s ≠ 0 by omega)
    have := hp.rk c hc
    omega
 | k + 1, s, V, hk, hs, h0, hV => by
  have hm := hR.y.m1
  have h2n : 2 ^ R.y.carts.length ≤ 128 := Nat.pow_le_pow_right (n := 2) (by decide) hm
  have hkr : k < R.y.ramps.length := by omega
  have hbd : ∀ c, s.testBit c = true → c < R.y.carts.length := fun c hc => by
   rcases Nat.lt_or_ge c R.y.carts.length with h | h
   ·exact h
   ·have : s.testBit c = false := Nat.testBit_lt_two_pow (Nat.lt_of_lt_of_le hs (Nat.pow_le_pow_right (by decide) h))
    rw [this] at hc; cases hc
  have hsd : ∀ q c, (sdiff s q).testBit c = true ↔ s.testBit c = true ∧ q.testBit c = false := fun q c => by
   rw [sdiff_bit]
   cases s.testBit c <;> cases q.testBit c <;> simp
  rw [allL_get hm hs, minP, fold_le (g := fun q => if q &&& mustAt R k = s &&& mustAt R k then some (max ((doneL R k).getD q 0) ((allL R k).getD (sdiff s q) 0)) else none) (fun m q => by
   unfold partF
   split <;> rfl)]
  constructor
  ·rintro (h | ⟨q, hq, x, hx, hxV⟩)
   ·omega
   ·rw [mem_subsTo] at hq
    split at hx
    case isFalse => cases hx
    case isTrue hmus =>
    cases hx
    have hmu2 : ∀ c, s.testBit c = true → (mustAt R k).testBit c = true → q.testBit c = true := fun c hc hmc => by
     have : (s &&& mustAt R k).testBit c = true := by rw [Nat.testBit_and, hc, hmc]; rfl
     rw [← hmus, Nat.testBit_and, Bool.and_eq_true] at this
     exact this.1
    have hqs : q < 2 ^ R.y.carts.length := by
     have : q &&& s ≤ s := Nat.and_le_right
     omega
    obtain ⟨p, hp⟩ := (allL_iff hR k (sdiff s q) V (by omega) (Nat.lt_of_le_of_lt (sdiff_le _ _) hs) h0 hV).1 (by omega)
    obtain ⟨g, hg⟩ : ∃ g, OnR R k q V g := by
     rcases Nat.eq_zero_or_pos q with hz | hz
     ·subst hz
      exact ⟨fun _ => 0, fun c hc => by simp at hc, fun c hc => by simp at hc, fun c hc => by simp at hc, fun c hc => by simp at hc, fun c hc => by simp at hc, fun c hc => by simp at hc, fun c d hc => by simp at hc⟩
     ·exact (done_iff hR hkr q V hz hqs hV).1 (by omega)
    have hP : ∀ c, q.testBit c = true → (fun c => if q.testBit c then (k, g c) else p c) c = (k, g c) := fun c h => by simp [h]
    have hN : ∀ c, q.testBit c = false → (fun c => if q.testBit c then (k, g c) else p c) c = p c := fun c h => by simp [h]
    refine ⟨fun c => if q.testBit c then (k, g c) else p c, fun c hc => ?_, fun c hc => ?_, fun c hc => ?_, fun c hc => ?_, fun c hc => ?_, fun c hc => ?_, fun c hc hmc => ?_, fun c hc r hr hle hmc => ?_, fun c d hc hd hne he => ?_⟩
    ·cases hb : q.testBit c with
     | true => simp
     | false => simp only [Bool.false_eq_true, if_false]; have := hp.rk c ((hsd q c).2 ⟨hc, hb⟩); omega
    ·cases hb : q.testBit c with
     | true => simp only [if_true]; exact hg.may c hb
     | false => simp only [Bool.false_eq_true, if_false]; exact hp.may c ((hsd q c).2 ⟨hc, hb⟩)
    ·cases hb : q.testBit c with
     | true => simp only [if_true]; exact hg.f1 c hb
     | false => simp only [Bool.false_eq_true, if_false]; exact hp.f1 c ((hsd q c).2 ⟨hc, hb⟩)
    ·cases hb : q.testBit c with
     | true => simp only [if_true]; exact hg.f2 c hb
     | false => simp only [Bool.false_eq_true, if_false]; exact hp.f2 c ((hsd q c).2 ⟨hc, hb⟩)
    ·cases hb : q.testBit c with
     | true => simp only [if_true]; exact hg.f3 c hb
     | false => simp only [Bool.false_eq_true, if_false]; exact hp.f3 c ((hsd q c).2 ⟨hc, hb⟩)
    ·cases hb : q.testBit c with
     | true => simp only [if_true]; exact hg.v c hb
     | false => simp only [Bool.false_eq_true, if_false]; exact hp.v c ((hsd q c).2 ⟨hc, hb⟩)
    ·cases hb : q.testBit c with
     | true =>
      simp only [hb, if_true] at hmc ⊢
      exact hg.mu c hb hmc
     | false =>
      simp only [hb, Bool.false_eq_true, if_false] at hmc ⊢
      exact hp.mu c ((hsd q c).2 ⟨hc, hb⟩) hmc
    ·cases hb : q.testBit c with
     | true =>
      simp only [hb, if_true] at hle ⊢
      omega
     | false =>
      simp only [hb, Bool.false_eq_true, if_false] at hle ⊢
      by_cases hrk : r = k
      ·subst hrk
       have := hmu2 c hc hmc
       rw [hb] at this; cases this
      ·exact hp.mst c ((hsd q c).2 ⟨hc, hb⟩) r (by omega) hle hmc
    ·cases hb : q.testBit c with
     | true =>
      cases hb2 : q.testBit d with
      | true =>
       simp only [if_true]
       exact hg.sep c d hb hb2 hne
      | false =>
       simp only [hb, hb2, if_true, Bool.false_eq_true, if_false] at he ⊢
       have := hp.rk d ((hsd q d).2 ⟨hd, hb2⟩)
       omega
     | false =>
      cases hb2 : q.testBit d with
      | true =>
       simp only [hb, hb2, if_true, Bool.false_eq_true, if_false] at he ⊢
       have := hp.rk c ((hsd q c).2 ⟨hc, hb⟩)
       omega
      | false =>
       simp only [hb, hb2, Bool.false_eq_true, if_false] at he ⊢
       exact hp.sep c d ((hsd q c).2 ⟨hc, hb⟩) ((hsd q d).2 ⟨hd, hb2⟩) hne he
  ·rintro ⟨p, hp⟩
   right
   have hqb : ∀ c, (maskOf (fun c => s.testBit c && decide ((p c).1 = k)) R.y.carts.length).testBit c = true ↔ s.testBit c = true ∧ (p c).1 = k := fun c => by
    rw [maskOf_bit]
    simp only [Bool.and_eq_true, decide_eq_true_eq]
    constructor
    ·exact fun h => h.2
    ·exact fun h => ⟨hbd c h.1, h⟩
   generalize maskOf (fun c => s.testBit c && decide ((p c).1 = k)) R.y.carts.length = q at hqb
   have hqs : q &&& s = q := by
    apply Nat.eq_of_testBit_eq
    intro c
    rw [Nat.testBit_and]
    cases hb : q.testBit c with
    | false => rfl
    | true => rw [((hqb c).1 hb).1]; rfl
   have hmus : q &&& mustAt R k = s &&& mustAt R k := by
    apply Nat.eq_of_testBit_eq
    intro c
    rw [Nat.testBit_and, Nat.testBit_and]
    cases hmc : (mustAt R k).testBit c with
    | false => simp
    | true =>
     rw [Bool.and_true, Bool.and_true]
     cases hsc : s.testBit c with
     | false =>
      cases hb : q.testBit c with
      | false => rfl
      | true => rw [((hqb c).1 hb).1] at hsc; cases hsc
     | true =>
      have := hp.rk c hsc
      exact (hqb c).2 ⟨hsc, hp.mst c hsc k (by omega) (by omega) hmc⟩
   refine ⟨q, mem_subsTo.2 hqs, _, if_pos hmus, ?_⟩
   have hq2 : q < 2 ^ R.y.carts.length := by
    have : q &&& s ≤ s := Nat.and_le_right
    omega
   have hD : (doneL R k).getD q 0 ≤ V := by
    rcases Nat.eq_zero_or_pos q with hz | hz
    ·rw [hz, doneL_zero R k hm]; exact h0
    ·refine (done_iff hR hkr q V hz hq2 hV).2 ⟨fun c => (p c).2, fun c hc => ?_, fun c hc => hp.f1 c ((hqb c).1 hc).1, fun c hc => ?_, fun c hc => ?_, fun c hc => hp.v c ((hqb c).1 hc).1, fun c hc hmc => ?_, fun c d hc hd hne => ?_⟩
     ·have h := (hqb c).1 hc
      have := hp.may c h.1
      rwa [h.2] at this
     ·have h := (hqb c).1 hc
      have := hp.f2 c h.1
      rwa [h.2] at this
     ·have h := (hqb c).1 hc
      have := hp.f3 c h.1
      rwa [h.2] at this
     ·have h := (hqb c).1 hc
      exact hp.mu c h.1 (by rw [h.2]; exact hmc)
     ·have h := (hqb c).1 hc
      have h' := (hqb d).1 hd
      exact hp.sep c d h.1 h'.1 hne (by rw [h.2, h'.2])
   have hA : (allL R k).getD (sdiff s q) 0 ≤ V := by
    refine (allL_iff hR k (sdiff s q) V (by omega) (Nat.lt_of_le_of_lt (sdiff_le _ _) hs) h0 hV).2 ⟨p, fun c hc => ?_, fun c hc => hp.may c ((hsd q c).1 hc).1, fun c hc => hp.f1 c ((hsd q c).1 hc).1, fun c hc => hp.f2 c ((hsd q c).1 hc).1, fun c hc => hp.f3 c ((hsd q c).1 hc).1, fun c hc => hp.v c ((hsd q c).1 hc).1, fun c hc => hp.mu c ((hsd q c).1 hc).1, fun c hc r hr hle => hp.mst c ((hsd q c).1 hc).1 r (by omega) hle, fun c d hc hd => hp.sep c d ((hsd q c).1 hc).1 ((hsd q d).1 hd).1⟩
    obtain ⟨h1, h2⟩ := (hsd q c).1 hc
    have h3 := hp.rk c h1
    have h4 : (p c).1 ≠ k := fun e => by
     rw [(hqb c).2 ⟨h1, e⟩] at h2; cases h2
    omega
   omega
theorem soonest_iff {R : Ry} (hR : RyOk R) {s : Nat} {V : Int} (hs : s < 2 ^ R.y.carts.length) (h0 : 0 ≤ V) (hV : V < never) : (soonestL R).getD s 0 ≤ V ↔ ∃ p, AsK R R.y.ramps.length s V p :=
 allL_iff hR R.y.ramps.length s V (Nat.le_refl _) hs h0 hV
end Go.Proofs.Ythcicaelnchfdaa

/- Plans that serve all carts, plain. -/
namespace Go.Proofs.Ythcicaelnchfdaa
structure Fe (y : Ya) (q : List St) : Prop where
 len : q.length = y.carts.length
 r : ∀ i, i < q.length → (stAt q i).ramp ∈ (ctAt y i).ramps
 br : ∀ i, i < q.length → (ctAt y i).grams ≤ (raAt y (stAt q i).ramp).bears
 f1 : ∀ i, i < q.length → (ctAt y i).from_ ≤ (stAt q i).from_
 f2 : ∀ i, i < q.length → (raAt y (stAt q i).ramp).open_ ≤ (stAt q i).from_
 f3 : ∀ i, i < q.length → (stAt q i).from_ + (ctAt y i).takes.hi ≤ (ctAt y i).until_
 f4 : ∀ i, i < q.length → (stAt q i).from_ + (ctAt y i).takes.hi ≤ (raAt y (stAt q i).ramp).shut
 sep : ∀ i k, i < q.length → k < q.length → i ≠ k → (stAt q i).ramp = (stAt q k).ramp → (stAt q i).from_ + (ctAt y i).takes.hi + y.sweep ≤ (stAt q k).from_ ∨ (stAt q k).from_ + (ctAt y k).takes.hi + y.sweep ≤ (stAt q i).from_
theorem stAt_repl {n i : Nat} {s : St} (h : i < n) : stAt (List.replicate n s) i = s := by
 unfold stAt
 rw [List.getD_eq_getElem?_getD, List.getElem?_replicate, if_pos h]; rfl
theorem tkAt_repl (n i : Nat) : tkAt (List.replicate n 0) i = 0 := by
 unfold tkAt
 rw [List.getD_eq_getElem?_getD, List.getElem?_replicate]
 split <;> rfl
theorem ext_fe {y : Ya} (hy : YaV y) {q : List St} : Ext y (List.replicate y.carts.length ⟨-1, 0⟩) (List.replicate y.ramps.length 0) q ↔ Fe y q := by
 have hno : ∀ i, i < y.carts.length → ¬ 0 ≤ (stAt (List.replicate y.carts.length (⟨-1, 0⟩ : St)) i).ramp := fun i hi => by
  rw [stAt_repl hi]; decide
 constructor
 ·intro h
  have hl : q.length = y.carts.length := by rw [h.len]; simp
  have hb : ∀ i, i < q.length → i < (List.replicate y.carts.length (⟨-1, 0⟩ : St)).length ∧ i < y.carts.length := fun i hi => by simp; omega
  exact ⟨hl, fun i hi => h.r i (hb i hi).1 (hno i (hb i hi).2), fun i hi => h.br i (hb i hi).1 (hno i (hb i hi).2), fun i hi => h.f1 i (hb i hi).1 (hno i (hb i hi).2), fun i hi => h.f2 i (hb i hi).1 (hno i (hb i hi).2), fun i hi => h.f3 i (hb i hi).1 (hno i (hb i hi).2), fun i hi => h.f4 i (hb i hi).1 (hno i (hb i hi).2), fun i k hi hk hne he => h.sep i k (hb i hi).1 (hb k hk).1 hne (hno i (hb i hi).2) (hno k (hb k hk).2) he⟩
 ·intro h
  have hl := h.len
  have hb : ∀ i, i < (List.replicate y.carts.length (⟨-1, 0⟩ : St)).length → i < q.length ∧ i < y.carts.length := fun i hi => by simp at hi; omega
  refine ⟨by simp [hl], fun i hi h0 => absurd h0 (hno i (hb i hi).2), fun i hi _ => h.r i (hb i hi).1, fun i hi _ => h.br i (hb i hi).1, fun i hi _ => h.f1 i (hb i hi).1, fun i hi _ => h.f2 i (hb i hi).1, fun i hi _ => h.f3 i (hb i hi).1, fun i hi _ => h.f4 i (hb i hi).1, fun i hi _ => ?_, fun i k hi hk hne _ _ he => h.sep i k (hb i hi).1 (hb k hk).1 hne he⟩
  rw [tkAt_repl]
  have c := (hy.ct _ (ctAt_mem (hb i hi).2)).f0
  have := h.f1 i (hb i hi).1
  omega
theorem servedR_best {y : Ya} (hy : YaV y) : (∀ x, servedR y = some x → Fe y x) ∧ ∀ q, Fe y q → ∃ x, servedR y = some x ∧ leP y x q := by
 have hsv : SvOk y (List.replicate y.carts.length ⟨-1, 0⟩) (List.replicate y.ramps.length 0) := by
  refine ⟨by simp, by simp, fun i hi => ?_, fun r hr => ?_⟩
  ·rw [stAt_repl (by simpa using hi)]; decide
  ·rw [tkAt_repl]; decide
 have hun : un (List.replicate y.carts.length ⟨-1, 0⟩) ≤ y.carts.length := by
  unfold un
  exact Nat.le_trans List.countP_le_length (by simp)
 have h := servR_best hy _ _ _ hsv hun
 exact ⟨fun x hx => (ext_fe hy).1 (h.1 x hx), fun q hq => h.2 q ((ext_fe hy).2 hq)⟩
theorem Fe.bd {y : Ya} (hy : YaV y) {q : List St} (h : Fe y q) {i : Nat} (hi : i < q.length) : 0 ≤ (stAt q i).ramp ∧ (stAt q i).ramp < y.ramps.length ∧ 0 ≤ (stAt q i).from_ ∧ (stAt q i).from_ < 480 ∧ (stAt q i).from_ + (ctAt y i).takes.hi ≤ 480 ∧ 1 ≤ (ctAt y i).takes.hi := by
 have hl := h.len
 have c := hy.ct _ (ctAt_mem (y := y) (i := i) (by omega))
 have r := c.r _ (h.r i hi)
 have a := h.f1 i hi
 have b := h.f3 i hi
 have := c.f0
 have := c.u1
 have := c.l0
 have := c.lh
 omega
theorem Fe.pl {y : Ya} (hy : YaV y) {q : List St} (h : Fe y q) : PlV y q :=
 ⟨h.len, fun i hi => (h.bd hy hi).1, fun i hi => (h.bd hy hi).2.1, h.r, h.br, fun i hi => (h.bd hy hi).2.2.1, fun i hi => by have := h.bd hy hi; omega⟩
theorem longest_at {y : Ya} {i : Nat} (h : i < y.carts.length) : tkAt (longest y) i = (ctAt y i).takes.hi := by simp [tkAt, longest, ctAt, h]
theorem okPair_iff {y : Ya} {p : List St} {tk : List Int} {i k : Nat} : okPair y p tk i k = true ↔ (k ≠ i → (stAt p k).ramp = (stAt p i).ramp → ((stAt p i).from_ < (stAt p k).from_ ∨ ((stAt p k).from_ = (stAt p i).from_ ∧ i < k)) → (stAt p i).from_ + tkAt tk i + y.sweep ≤ (stAt p k).from_) := by
 unfold okPair
 simp only [Bool.not_eq_true', Bool.and_eq_false_iff, Bool.or_eq_false_iff, decide_eq_false_iff_not]
 constructor
 ·intro h h1 h2 h3
  rcases h with ((h | h) | h) | h
  ·exact absurd h1 h
  ·exact absurd h2 h
  ·rcases h3 with h3 | h3
   ·exact absurd h3 h.1
   ·rcases h.2 with h4 | h4
    ·exact absurd h3.1 h4
    ·exact absurd h3.2 h4
  ·omega
 ·intro h
  by_cases h1 : k ≠ i
  ·by_cases h2 : (stAt p k).ramp = (stAt p i).ramp
   ·by_cases h3 : (stAt p i).from_ < (stAt p k).from_ ∨ ((stAt p k).from_ = (stAt p i).from_ ∧ i < k)
    ·have := h h1 h2 h3
     right; omega
    ·left; right
     refine ⟨fun h4 => h3 (.inl h4), ?_⟩
     by_cases h5 : (stAt p k).from_ = (stAt p i).from_
     ·right; exact fun h6 => h3 (.inr ⟨h5, h6⟩)
     ·left; exact h5
   ·left; left; right; exact h2
  ·left; left; left; exact h1
theorem okSelf_iff {y : Ya} {p : List St} {tk : List Int} {i : Nat} : okSelf y p tk i = true ↔ (ctAt y i).from_ ≤ (stAt p i).from_ ∧ (raAt y (stAt p i).ramp).open_ ≤ (stAt p i).from_ ∧ (stAt p i).from_ + tkAt tk i ≤ (ctAt y i).until_ ∧ (stAt p i).from_ + tkAt tk i ≤ (raAt y (stAt p i).ramp).shut := by
 unfold okSelf
 simp only [Bool.and_eq_true, decide_eq_true_eq]
 constructor
 ·rintro ⟨⟨⟨a, b⟩, c⟩, d⟩; exact ⟨a, b, c, d⟩
 ·rintro ⟨a, b, c, d⟩; exact ⟨⟨⟨a, b⟩, c⟩, d⟩
theorem heldB_iff {y : Ya} {p : List St} {tk : List Int} : heldB y p tk = true ↔ (∀ i, i < p.length → okSelf y p tk i = true) ∧ ∀ i k, i < p.length → k < p.length → okPair y p tk i k = true := by
 unfold heldB okAll
 rw [List.all_eq_true]
 simp only [List.mem_range, Bool.and_eq_true, List.all_eq_true]
 constructor
 ·intro h; exact ⟨fun i hi => (h i hi).1, fun i k hi hk => (h i hi).2 k hk⟩
 ·intro h i hi; exact ⟨h.1 i hi, fun k hk => h.2 i k hi hk⟩
def ry0 (y : Ya) : Ry := ⟨y, List.replicate 3 (0, 0), List.replicate 7 0, 480⟩
theorem ry0_ok {y : Ya} (hy : YaV y) : RyOk (ry0 y) := by
 refine ⟨hy, rfl, rfl, fun r => ?_, fun c => ?_, by simp [ry0], by simp [ry0]⟩
 ·have : (List.replicate 3 ((0 : Nat), (0 : Nat))).getD r (0, 0) = (0, 0) := by
   rw [List.getD_eq_getElem?_getD, List.getElem?_replicate]
   split <;> rfl
  unfold mustAt notAt ry0
  simp only [this]
  decide
 ·have : (List.replicate 7 (0 : Int)).getD c 0 = 0 := by
   rw [List.getD_eq_getElem?_getD, List.getElem?_replicate]
   split <;> rfl
  unfold frmAt ry0
  simp only [this]
  decide
def planOf (n : Nat) (p : Nat → Nat × Int) : List St := (List.range n).map fun i => ⟨(p i).1, (p i).2⟩
theorem planOf_at {n i : Nat} {p : Nat → Nat × Int} (h : i < n) : stAt (planOf n p) i = ⟨(p i).1, (p i).2⟩ := by simp [planOf, stAt, h]
theorem planOf_len (n : Nat) (p : Nat → Nat × Int) : (planOf n p).length = n := by simp [planOf]
theorem full_bit {n i : Nat} : (2 ^ n - 1).testBit i = true ↔ i < n := by rw [Nat.testBit_two_pow_sub_one]; simp
theorem ask_fe {R : Ry} (hR : RyOk R) {V : Int} {p : Nat → Nat × Int} (h : AsK R R.y.ramps.length (2 ^ R.y.carts.length - 1) V p) (hV : 0 ≤ V) : Fe R.y (planOf R.y.carts.length p) ∧ lastV R.y (planOf R.y.carts.length p) ≤ V := by
 have hb : ∀ i, i < R.y.carts.length → (2 ^ R.y.carts.length - 1).testBit i = true := fun i hi => full_bit.2 hi
 have hm : ∀ i, i < R.y.carts.length → ((p i).1 : Int) ∈ (ctAt R.y i).ramps ∧ (ctAt R.y i).grams ≤ (raAt R.y (p i).1).bears := fun i hi => by
  have := h.may i (hb i hi)
  unfold mayB rAt at this
  simp only [Bool.and_eq_true, decide_eq_true_eq] at this
  exact this.1
 have hl := planOf_len R.y.carts.length p
 refine ⟨⟨hl, fun i hi => ?_, fun i hi => ?_, fun i hi => ?_, fun i hi => ?_, fun i hi => ?_, fun i hi => ?_, fun i k hi hk hne he => ?_⟩, lastV_le.2 ⟨hV, fun i hi hi2 => ?_⟩⟩
 ·rw [hl] at hi
  rw [planOf_at hi]; exact (hm i hi).1
 ·rw [hl] at hi
  rw [planOf_at hi]; exact (hm i hi).2
 ·rw [hl] at hi
  rw [planOf_at hi]; exact h.f1 i (hb i hi)
 ·rw [hl] at hi
  rw [planOf_at hi]; exact h.f2 i (hb i hi)
 ·rw [hl] at hi
  rw [planOf_at hi]
  have := h.f3 i (hb i hi)
  rw [limF_eq] at this
  simp only
  omega
 ·rw [hl] at hi
  rw [planOf_at hi]
  have := h.f3 i (hb i hi)
  rw [limF_eq] at this
  unfold rAt at this
  simp only
  omega
 ·rw [hl] at hi hk
  rw [planOf_at hi, planOf_at hk] at he ⊢
  simp only at he ⊢
  exact h.sep i k (hb i hi) (hb k hk) hne (by omega)
 ·rw [hl] at hi
  rw [planOf_at hi]; exact h.v i (hb i hi)
def slotsOf (q : List St) (i : Nat) : Nat × Int := ((stAt q i).ramp.toNat, (stAt q i).from_)
theorem fe_ask {R : Ry} (hR : RyOk R) {V : Int} {q : List St} (h : Fe R.y q) (hv : lastV R.y q ≤ V) (ht : lastV R.y q ≤ R.til) (hno : ∀ i, i < q.length → (notAt R (stAt q i).ramp.toNat).testBit i = false)
  (hmu : ∀ i, i < q.length → (mustAt R (stAt q i).ramp.toNat).testBit i = true → (stAt q i).from_ = frmAt R i) (hmk : ∀ i, i < q.length → ∀ r, r < R.y.ramps.length → (mustAt R r).testBit i = true → (stAt q i).ramp.toNat = r) :
  AsK R R.y.ramps.length (2 ^ R.y.carts.length - 1) V (slotsOf q) := by
 have hl := h.len
 have hb : ∀ i, (2 ^ R.y.carts.length - 1).testBit i = true → i < q.length := fun i hi => by
  have := full_bit.1 hi
  omega
 have hc : ∀ i, i < q.length → (((stAt q i).ramp.toNat : Nat) : Int) = (stAt q i).ramp := fun i hi => by
  have := (h.bd hR.y hi).1
  omega
 refine ⟨fun i hi => ?_, fun i hi => ?_, fun i hi => h.f1 i (hb i hi), fun i hi => ?_, fun i hi => ?_, fun i hi => ?_, fun i hi hm => hmu i (hb i hi) hm, fun i hi r hr _ hm => hmk i (hb i hi) r hr hm, fun i k hi hk hne he => ?_⟩
 ·have := h.bd hR.y (hb i hi)
  show (stAt q i).ramp.toNat < _
  omega
 ·unfold mayB rAt slotsOf
  simp only
  rw [hc i (hb i hi), hno i (hb i hi)]
  simp only [Bool.and_eq_true, decide_eq_true_eq]
  exact ⟨⟨h.r i (hb i hi), h.br i (hb i hi)⟩, rfl⟩
 ·unfold rAt slotsOf
  simp only
  rw [hc i (hb i hi)]
  exact h.f2 i (hb i hi)
 ·rw [limF_eq]
  unfold rAt slotsOf
  simp only
  rw [hc i (hb i hi)]
  have a := h.f3 i (hb i hi)
  have b := h.f4 i (hb i hi)
  have c := lastV_at (y := R.y) (p := q) (i := i) (hb i hi) (by have := hb i hi; omega)
  omega
 ·have c := lastV_at (y := R.y) (p := q) (i := i) (hb i hi) (by have := hb i hi; omega)
  show (stAt q i).from_ + _ ≤ V
  omega
 ·refine h.sep i k (hb i hi) (hb k hk) hne ?_
  have a := (h.bd hR.y (hb i hi)).1
  have b := (h.bd hR.y (hb k hk)).1
  have : (stAt q i).ramp.toNat = (stAt q k).ramp.toNat := he
  omega
end Go.Proofs.Ythcicaelnchfdaa
