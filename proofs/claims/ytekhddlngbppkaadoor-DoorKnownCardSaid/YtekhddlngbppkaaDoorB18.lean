/- A part of the proofs about the chapter of the doors; it states no condition of its own. -/
import Derived.Test.YtekhddlngbppkaaDoorB13
import Derived.Test.YtekhddlngbppkaaDoorB14
import Derived.Test.YtekhddlngbppkaaDoorB17
set_option linter.unusedVariables false
set_option linter.unusedSimpArgs false
open Int renaming reduceLE → zA, reduceLT → zB, reduceToNat → zC, reduceNeg → zD
open Nat renaming reduceLT → zE, reduceEqDiff → zF, reduceAdd → zG, reduceSub → zH, reduceMul → zI, reduceLeDiff → zJ
/- Flows through a network of places: plain facts. -/
namespace Go.Proofs.YtekhddlngbppkaaDoor
def at2 (R : List (List Int)) (i j : Nat) : Int := (R.getD i []).getD j 0
structure Sq (N : Nat) (R : List (List Int)) : Prop where
 len : R.length = N
 row : ∀ r ∈ R, r.length = N
def sumTo (n : Nat) (f : Nat → Int) : Int := ((List.range n).map f).sum
theorem sumTo_zero (f : Nat → Int) : sumTo 0 f = 0 := rfl
theorem sumTo_succ (n : Nat) (f : Nat → Int) : sumTo (n + 1) f = sumTo n f + f n := by
 simp [sumTo, List.range_succ, List.sum_append]
theorem sumTo_add (n : Nat) (f g : Nat → Int) : sumTo n (fun i => f i + g i) = sumTo n f + sumTo n g := by
 induction n with
 | zero => rfl
 | succ n ih => simp only [sumTo_succ, ih]; omega
theorem sumTo_sub (n : Nat) (f g : Nat → Int) : sumTo n (fun i => f i - g i) = sumTo n f - sumTo n g := by
 induction n with
 | zero => rfl
 | succ n ih => simp only [sumTo_succ, ih]; omega
theorem sumTo_congr {n : Nat} {f g : Nat → Int} (h : ∀ i, i < n → f i = g i) : sumTo n f = sumTo n g := by
 induction n with
 | zero => rfl
 | succ n ih => rw [sumTo_succ, sumTo_succ, ih fun i hi => h i (by omega), h n (by omega)]
theorem sumTo_le {n : Nat} {f g : Nat → Int} (h : ∀ i, i < n → f i ≤ g i) : sumTo n f ≤ sumTo n g := by
 induction n with
 | zero => exact Int.le_refl _
 | succ n ih =>
  rw [sumTo_succ, sumTo_succ]
  have := ih fun i hi => h i (by omega)
  have := h n (by omega)
  omega
theorem sumTo_const0 (n : Nat) : sumTo n (fun _ => 0) = 0 := by
 induction n with
 | zero => rfl
 | succ n ih => rw [sumTo_succ, ih]; rfl
theorem sumTo_swap (n m : Nat) (f : Nat → Nat → Int) : sumTo n (fun i => sumTo m (f i)) = sumTo m (fun j => sumTo n fun i => f i j) := by
 induction n with
 | zero => simp only [sumTo_zero]; rw [sumTo_const0]
 | succ n ih =>
  simp only [sumTo_succ, ih]
  rw [sumTo_add]
theorem sumTo_one {n k : Nat} (hk : k < n) (x : Int) : sumTo n (fun i => if i = k then x else 0) = x := by
 induction n with
 | zero => omega
 | succ n ih =>
  rw [sumTo_succ]
  by_cases h : n = k
  ·subst h
   rw [if_pos rfl, sumTo_congr (g := fun _ => 0) fun i hi => if_neg (by omega), sumTo_const0]
   omega
  ·rw [ih (by omega), if_neg h]
   omega
structure Res (N : Nat) (C R : List (List Int)) (v : Int) : Prop where
 nn : ∀ i j, i < N → j < N → 0 ≤ at2 R i j
 sk : ∀ i j, i < N → j < N → at2 R i j + at2 R j i = at2 C i j + at2 C j i
 src : sumTo N (fun j => at2 C 0 j - at2 R 0 j) = v
 mid : ∀ i, i < N → i ≠ 0 → i ≠ 1 → sumTo N (fun j => at2 C i j - at2 R i j) = 0
def cutOf (N : Nat) (C : List (List Int)) (S : Nat → Bool) : Int := sumTo N fun i => sumTo N fun j => if S i && !S j then at2 C i j else 0
theorem antisym_sum (N : Nat) (g : Nat → Nat → Int) (S : Nat → Bool) (h : ∀ i j, i < N → j < N → g i j + g j i = 0) : sumTo N (fun i => sumTo N fun j => if S i && S j then g i j else 0) = 0 := by
 have h1 := sumTo_swap N N (fun i j => if S i && S j then g i j else 0)
 have h2 : sumTo N (fun j => sumTo N fun i => if S i && S j then g i j else 0) = sumTo N (fun i => sumTo N fun j => -(if S i && S j then g i j else 0)) := by
  refine sumTo_congr fun j hj => sumTo_congr fun i hi => ?_
  have := h i j hi hj
  cases S i <;> cases S j <;> simp <;> omega
 have h3 : sumTo N (fun i => sumTo N fun j => -(if S i && S j then g i j else 0)) = - sumTo N (fun i => sumTo N fun j => if S i && S j then g i j else 0) := by
  have e : ∀ f : Nat → Int, ∀ n, sumTo n (fun i => - f i) = - sumTo n f := fun f n => by
   have := sumTo_sub n (fun _ => 0) f
   rw [sumTo_const0] at this
   simp only [Int.zero_sub] at this
   exact this
  rw [← e]
  exact sumTo_congr fun i _ => e _ _
 rw [h2, h3] at h1
 omega
theorem Res.across {N : Nat} {C R : List (List Int)} {v : Int} (h : Res N C R v) (hN : 2 ≤ N) {S : Nat → Bool} (h0 : S 0 = true) (h1 : S 1 = false) : v = sumTo N fun i => sumTo N fun j => if S i && !S j then at2 C i j - at2 R i j else 0 := by
 have e1 : sumTo N (fun i => if S i then sumTo N (fun j => at2 C i j - at2 R i j) else 0) = v := by
  rw [sumTo_congr (g := fun i => if i = 0 then v else 0), sumTo_one (by omega)]
  intro i hi
  by_cases hi0 : i = 0
  ·subst hi0
   rw [h0, if_pos rfl, if_pos rfl]
   exact h.src
  ·rw [if_neg hi0]
   cases hs : S i with
   | false => rfl
   | true =>
    have : i ≠ 1 := by rintro rfl; rw [h1] at hs; cases hs
    exact h.mid i hi hi0 this
 have e2 := antisym_sum N (fun i j => at2 C i j - at2 R i j) S (fun i j hi hj => by have := h.sk i j hi hj; omega)
 have e3 : sumTo N (fun i => if S i then sumTo N (fun j => at2 C i j - at2 R i j) else 0) = sumTo N (fun i => (sumTo N fun j => if S i && S j then at2 C i j - at2 R i j else 0) + sumTo N fun j => if S i && !S j then at2 C i j - at2 R i j else 0) := by
  refine sumTo_congr fun i hi => ?_
  rw [← sumTo_add]
  cases hs : S i with
  | false =>
   simp only [Bool.false_and, Bool.false_eq_true, if_false, Int.add_zero]
   rw [sumTo_const0]
  | true =>
   simp only [Bool.true_and, if_true]
   refine sumTo_congr fun j hj => ?_
   cases S j <;> simp
 rw [sumTo_add, e2, e1] at e3
 omega
theorem Res.le_cut {N : Nat} {C R : List (List Int)} {v : Int} (h : Res N C R v) (hN : 2 ≤ N) {S : Nat → Bool} (h0 : S 0 = true) (h1 : S 1 = false) : v ≤ cutOf N C S := by
 rw [h.across hN h0 h1]
 refine sumTo_le fun i hi => sumTo_le fun j hj => ?_
 have := h.nn i j hi hj
 split <;> omega
def MF (N : Nat) (C : List (List Int)) (v : Int) : Prop := (∃ R, Res N C R v) ∧ ∃ S : Nat → Bool, S 0 = true ∧ S 1 = false ∧ cutOf N C S = v
theorem MF.unique {N : Nat} {C : List (List Int)} {v w : Int} (hN : 2 ≤ N) (h : MF N C v) (h' : MF N C w) : v = w := by
 obtain ⟨⟨R, hR⟩, S, s0, s1, hS⟩ := h
 obtain ⟨⟨R', hR'⟩, S', s0', s1', hS'⟩ := h'
 have a := hR.le_cut hN s0' s1'
 have b := hR'.le_cut hN s0 s1
 omega
theorem Res.max {N : Nat} {C R : List (List Int)} {v : Int} (h : Res N C R v) (hN : 2 ≤ N) {S : Nat → Bool} (h0 : S 0 = true) (h1 : S 1 = false) (hc : ∀ i j, i < N → j < N → S i = true → S j = false → at2 R i j ≤ 0) : MF N C v := by
 refine ⟨⟨R, h⟩, S, h0, h1, ?_⟩
 rw [h.across hN h0 h1]
 refine sumTo_congr fun i hi => sumTo_congr fun j hj => ?_
 cases hs : S i with
 | false => simp
 | true =>
  cases hj' : S j with
  | true => simp
  | false =>
   have := h.nn i j hi hj
   have := hc i j hi hj hs hj'
   simp
   omega
theorem Res.start {N : Nat} {C : List (List Int)} (h : ∀ i j, i < N → j < N → 0 ≤ at2 C i j) : Res N C C 0 := by
 refine ⟨h, fun _ _ _ _ => rfl, ?_, fun i _ _ _ => ?_⟩ <;> simp only [Int.sub_self] <;> exact sumTo_const0 N
structure Aug (N : Nat) (R R' : List (List Int)) (a : Nat) (k : Int) : Prop where
 sq : Sq N R'
 nn : ∀ i j, i < N → j < N → 0 ≤ at2 R' i j
 sk : ∀ i j, i < N → j < N → at2 R' i j + at2 R' j i = at2 R i j + at2 R j i
 sum : ∀ i, i < N → i ≠ 1 → sumTo N (at2 R' i) = sumTo N (at2 R i) - if i = a then k else 0
theorem Aug.res {N : Nat} {C R R' : List (List Int)} {v k : Int} (h : Res N C R v) (hN : 2 ≤ N) (ha : Aug N R R' 0 k) : Res N C R' (v + k) := by
 refine ⟨ha.nn, fun i j hi hj => (ha.sk i j hi hj).trans (h.sk i j hi hj), ?_, fun i hi h0 h1 => ?_⟩
 ·have h1 := h.src
  have h2 := ha.sum 0 (by omega) (by omega)
  rw [sumTo_sub] at h1 ⊢
  rw [if_pos rfl] at h2
  omega
 ·have h3 := h.mid i hi h0 h1
  have h2 := ha.sum i hi h1
  rw [sumTo_sub] at h3 ⊢
  rw [if_neg h0] at h2
  omega
end Go.Proofs.YtekhddlngbppkaaDoor

/- Flows: a way through places that were not met, plain facts and memory. -/
namespace Go.Proofs.YtekhddlngbppkaaDoor
def upd2 (R : List (List Int)) (i j : Nat) (x : Int) : List (List Int) := R.set i ((R.getD i []).set j x)
theorem Sq.rowlen {N : Nat} {R : List (List Int)} (h : Sq N R) {i : Nat} (hi : i < N) : (R.getD i []).length = N := by
 rw [List.getD_eq_getElem?_getD, List.getElem?_eq_getElem (by rw [h.len]; exact hi)]
 exact h.row _ (List.getElem_mem _)
theorem Sq.upd {N : Nat} {R : List (List Int)} (h : Sq N R) {i : Nat} (hi : i < N) (j : Nat) (x : Int) : Sq N (upd2 R i j x) := by
 refine ⟨by rw [upd2, List.length_set]; exact h.len, fun r hr => ?_⟩
 rcases List.mem_or_eq_of_mem_set hr with hr | rfl
 ·exact h.row r hr
 ·rw [List.length_set]
  exact h.rowlen hi
theorem at2_upd {N : Nat} {R : List (List Int)} (h : Sq N R) {i j : Nat} (hi : i < N) (hj : j < N) (x : Int) (k l : Nat) : at2 (upd2 R i j x) k l = if i = k ∧ j = l then x else at2 R k l := by
 unfold at2 upd2
 have hrl := h.rowlen hi
 rw [List.getD_eq_getElem?_getD (l := R.set _ _), List.getElem?_set]
 by_cases e : i = k
 ·subst e
  rw [if_pos rfl, if_pos (by rw [h.len]; exact hi), Option.getD_some, List.getD_eq_getElem?_getD, List.getElem?_set]
  by_cases e2 : j = l
  ·subst e2
   rw [if_pos rfl, if_pos (by omega), if_pos ⟨rfl, rfl⟩]; rfl
  ·rw [if_neg e2, if_neg (by simp [e2]), ← List.getD_eq_getElem?_getD]
 ·rw [if_neg e, if_neg (by simp [e]), ← List.getD_eq_getElem?_getD]
theorem sum_upd {N : Nat} {R : List (List Int)} (h : Sq N R) {i j : Nat} (hi : i < N) (hj : j < N) (x : Int) (k : Nat) : sumTo N (at2 (upd2 R i j x) k) = sumTo N (at2 R k) + if i = k then x - at2 R i j else 0 := by
 have e : sumTo N (at2 (upd2 R i j x) k) = sumTo N (fun l => at2 R k l + if l = j then (if i = k then x - at2 R i j else 0) else 0) := by
  refine sumTo_congr fun l _ => ?_
  rw [at2_upd h hi hj]
  by_cases e1 : i = k
  ·subst e1
   by_cases e2 : j = l
   ·subst e2
    simp
    omega
   ·simp [e2, Ne.symm e2]
  ·simp [e1]
 rw [e, sumTo_add, sumTo_one hj]
theorem Aug.step {N : Nat} {R R1 : List (List Int)} {a t : Nat} {k : Int} (hs : Sq N R) (ha : a < N) (ht : t < N) (hne : a ≠ t) (h1 : Aug N R R1 t k) (hk : k ≤ at2 R a t) (hk0 : 0 ≤ k) (hr : at2 R1 a t = at2 R a t) (hsum : sumTo N (at2 R1 a) = sumTo N (at2 R a)) (ha1 : a ≠ 1) :
  Aug N R (upd2 (upd2 R1 a t (at2 R1 a t - k)) t a (at2 R1 t a + k)) a k := by
 have q1 := h1.sq.upd ha t (at2 R1 a t - k)
 have ev : ∀ i j, at2 (upd2 (upd2 R1 a t (at2 R1 a t - k)) t a (at2 R1 t a + k)) i j = if t = i ∧ a = j then at2 R1 t a + k else if a = i ∧ t = j then at2 R1 a t - k else at2 R1 i j := fun i j => by
  rw [at2_upd q1 ht ha, at2_upd h1.sq ha ht]
 refine ⟨q1.upd ht a _, fun i j hi hj => ?_, fun i j hi hj => ?_, fun i hi hi1 => ?_⟩
 ·rw [ev]
  have h2 := h1.nn i j hi hj
  have h3 := h1.nn t a ht ha
  split
  ·omega
  ·split <;> omega
 ·rw [ev, ev, ← h1.sk i j hi hj]
  by_cases c1 : t = i ∧ a = j
  ·obtain ⟨rfl, rfl⟩ := c1
   simp [hne, Ne.symm hne]
   omega
  ·by_cases c2 : a = i ∧ t = j
   ·obtain ⟨rfl, rfl⟩ := c2
    simp [hne, Ne.symm hne]
    omega
   ·have c3 : ¬ (t = j ∧ a = i) := fun ⟨x, y⟩ => c2 ⟨y, x⟩
    have c4 : ¬ (a = j ∧ t = i) := fun ⟨x, y⟩ => c1 ⟨y, x⟩
    rw [if_neg c1, if_neg c2, if_neg c3, if_neg c4]
 ·rw [sum_upd q1 ht ha, sum_upd h1.sq ha ht, h1.sum i hi hi1, at2_upd h1.sq ha ht]
  have c : ¬ (a = t ∧ t = a) := fun h => hne h.1
  rw [if_neg c]
  by_cases e1 : i = a
  ·subst e1
   simp [hne, Ne.symm hne]
   omega
  ·by_cases e2 : i = t
   ·subst e2
    simp [hne, Ne.symm hne, e1]
    omega
   ·simp [Ne.symm e1, Ne.symm e2, e1, e2]
abbrev mt (met : List Bool) (i : Nat) : Bool := met.getD i false
structure Dfs (N : Nat) (least : Int) (R : List (List Int)) (met : List Bool) (a : Nat) (n k : Int) (R' : List (List Int)) (met' : List Bool) : Prop where
 len : met'.length = N
 mono : ∀ i, mt met i = true → mt met' i = true
 one : mt met' 1 = mt met 1
 k0 : 0 ≤ k
 zero : k = 0 → R' = R ∧ mt met' a = true ∧ ∀ i j, i < N → j < N → mt met' i = true → mt met i = false → mt met' j = false → at2 R i j < least
 pos : k ≠ 0 → k ≤ n ∧ Aug N R R' a k ∧ ∀ i, i < N → mt met i = true → ∀ j, j < N → at2 R' i j = at2 R i j
def unmet (met : List Bool) : Nat := (met.filter fun b => !b).length
theorem mt_set {met : List Bool} {a : Nat} (ha : a < met.length) (b : Bool) (i : Nat) : mt (met.set a b) i = if a = i then b else mt met i := by
 unfold mt
 rw [List.getD_eq_getElem?_getD, List.getElem?_set]
 by_cases e : a = i
 ·subst e
  rw [if_pos rfl, if_pos ha, if_pos rfl]; rfl
 ·rw [if_neg e, if_neg e, ← List.getD_eq_getElem?_getD]
theorem unmet_le : ∀ {met met' : List Bool}, met.length = met'.length → (∀ i, mt met i = true → mt met' i = true) → unmet met' ≤ unmet met
 | [], [], _, _ => Nat.le_refl _
 | b :: m, c :: m', hl, h => by
  have ih := unmet_le (met := m) (met' := m') (by simpa using hl) fun i hi => h (i + 1) hi
  have h0 := h 0
  unfold unmet at ih ⊢
  cases b <;> cases c <;> simp_all [mt] <;> omega
theorem unmet_set : ∀ {met : List Bool} {a : Nat}, a < met.length → mt met a = false → unmet (met.set a true) + 1 = unmet met
 | b :: m, 0, _, h => by
  have : b = false := h
  subst this
  simp [unmet]
 | b :: m, a + 1, hl, h => by
  have ih := unmet_set (met := m) (a := a) (by simpa using hl) h
  unfold unmet at ih ⊢
  cases b <;> simp_all
end Go.Proofs.YtekhddlngbppkaaDoor
namespace Go.Proofs.YtekhddlngbppkaaDoor.Vm
open Go Go.Proofs
def setRows (H : List VObj) : Nat → List (List Int) → List VObj
 | _, [] => H
 | rid, r :: R => (setRows H (rid + 1) R).set rid (.obj (r.map vi))
def HF (H : List VObj) (rid mb : Nat) (R : List (List Int)) (met : List Bool) : List VObj := (setRows H rid R).set mb (.obj (met.map vb))
section
variable {H : List VObj} {rid mb : Nat} {R : List (List Int)} {met : List Bool}
theorem setRows_len : ∀ (R : List (List Int)) (rid : Nat), (setRows H rid R).length = H.length
 | [], _ => rfl
 | r :: R, rid => by rw [setRows, List.length_set, setRows_len]
theorem HF_len : (HF H rid mb R met).length = H.length := by rw [HF, List.length_set, setRows_len]
theorem setRows_other : ∀ (R : List (List Int)) (rid i : Nat), (i < rid ∨ rid + R.length ≤ i) → (setRows H rid R)[i]? = H[i]?
 | [], _, _, _ => rfl
 | r :: R, rid, i, h => by
  rw [List.length_cons] at h
  rw [setRows, List.getElem?_set_ne (by omega)]
  exact setRows_other R (rid + 1) i (by omega)
theorem setRows_get : ∀ (R : List (List Int)) (rid i : Nat), rid + R.length ≤ H.length → i < R.length → (setRows H rid R)[rid + i]? = some (.obj ((R.getD i []).map vi))
 | r :: R, rid, 0, h, _ => by
  show ((setRows H (rid + 1) R).set rid (.obj (r.map vi)))[rid]? = _
  rw [List.getElem?_set_self (by rw [setRows_len]; simp at h; omega)]
  rfl
 | r :: R, rid, i + 1, h, hi => by
  rw [List.length_cons] at h hi
  rw [setRows, List.getElem?_set_ne (by omega), show rid + (i + 1) = rid + 1 + i by omega, setRows_get R (rid + 1) i (by omega) (by omega)]
  rfl
theorem setRows_set : ∀ (R : List (List Int)) (rid i : Nat) (r : List Int), i < R.length → (setRows H rid R).set (rid + i) (.obj (r.map vi)) = setRows H rid (R.set i r)
 | q :: R, rid, 0, r, _ => by
  show ((setRows H (rid + 1) R).set rid (.obj (q.map vi))).set rid (.obj (r.map vi)) = _
  rw [List.set_set]
  rfl
 | q :: R, rid, i + 1, r, hi => by
  rw [List.length_cons] at hi
  rw [setRows, List.set_comm _ _ (by omega), show rid + (i + 1) = rid + 1 + i by omega, setRows_set R (rid + 1) i r (by omega)]
  rfl
theorem HF_other {i : Nat} (h1 : i ≠ mb) (h2 : i < rid ∨ rid + R.length ≤ i) : (HF H rid mb R met)[i]? = H[i]? := by
 rw [HF, List.getElem?_set_ne (Ne.symm h1), setRows_other R rid i h2]
theorem HF_row {i : Nat} (hr : rid + R.length ≤ H.length) (hd : mb < rid ∨ rid + R.length ≤ mb) (hi : i < R.length) : (HF H rid mb R met)[rid + i]? = some (.obj ((R.getD i []).map vi)) := by
 rw [HF, List.getElem?_set_ne (by omega), setRows_get R rid i hr hi]
theorem HF_mb (hm : mb < H.length) : (HF H rid mb R met)[mb]? = some (.obj (met.map vb)) := by
 rw [HF, List.getElem?_set_self (by rw [setRows_len]; exact hm)]
theorem HF_setmb (met' : List Bool) : (HF H rid mb R met).set mb (.obj (met'.map vb)) = HF H rid mb R met' := by
 rw [HF, List.set_set]; rfl
theorem HF_setrow {i : Nat} (hd : mb < rid ∨ rid + R.length ≤ mb) (hi : i < R.length) (r : List Int) : (HF H rid mb R met).set (rid + i) (.obj (r.map vi)) = HF H rid mb (R.set i r) met := by
 rw [HF, List.set_comm _ _ (by omega), setRows_set R rid i r hi]; rfl
end
end Go.Proofs.YtekhddlngbppkaaDoor.Vm

/- Flows: the search for a way, on values. (Vm) -/
namespace Go.Proofs.YtekhddlngbppkaaDoor.Vm
open Go Go.Proofs
structure PM (H : List VObj) (N m l s p lb rid mb : Nat) (least : Int) : Prop where
 hm : H[m]? = some (.obj [.bf mb 0 N 1])
 hl : H[l]? = some (.obj [.bf lb 0 N 1])
 hs : H[s]? = some (.obj [vi least])
 hp : H[p]? = some (.obj [.fn (.func 50) [] [.ptr m 0, .ptr l 0, .ptr s 0, .ptr p 0]])
 hlb : H[lb]? = some (.obj ((List.range N).map fun i => .bf (rid + i) 0 N 1))
 r1 : rid + N ≤ H.length
 m1 : mb < H.length
 d : mb < rid ∨ rid + N ≤ mb
 om : m ≠ mb ∧ (m < rid ∨ rid + N ≤ m)
 ol : l ≠ mb ∧ (l < rid ∨ rid + N ≤ l)
 os : s ≠ mb ∧ (s < rid ∨ rid + N ≤ s)
 op : p ≠ mb ∧ (p < rid ∨ rid + N ≤ p)
 ob : lb ≠ mb ∧ (lb < rid ∨ rid + N ≤ lb)
theorem own_retH {f : Nat} {fn : Func} {H : List VObj} {rid mb : Nat} {R R' : List (List Int)} {met met' : List Bool} {lg : List (Nat × Nat)} {Q : VV → Mem → Prop} {e : Env} {t : Nat} {k : Int} (h1 : fn.results.toList = [.tmp t]) (hr : get e t = vi k) (hq : Q (vi k) ⟨HF H rid mb R' met', lg⟩) : ownQ T f fn ⟨HF H rid mb R met, lg⟩ Q .ret e ⟨HF H rid mb R' met', lg⟩ [] := by
 refine ⟨.inr rfl, rfl, ⟨[], by simp, by simp⟩, HF H rid mb R' met', [], by simp, by rw [HF_len, HF_len], [vi k], ?_, vi k, rfl, by simp [refs], hq⟩
 rw [h1]
 simp [vresL, hr]
theorem dfs_stay {N : Nat} {least n : Int} {R : List (List Int)} {met : List Bool} (hl : met.length = N) (hn : 0 ≤ n) (hs : Sq N R) (hnn : ∀ i j, i < N → j < N → 0 ≤ at2 R i j) (hpos : n ≠ 0) : Dfs N least R met 1 n n R met :=
 ⟨hl, fun _ h => h, rfl, hn, fun h => absurd h hpos, fun _ => ⟨Int.le_refl _, ⟨hs, hnn, fun _ _ _ _ => rfl, fun i hi h1 => by rw [if_neg h1]; omega⟩, fun _ _ _ _ _ => rfl⟩⟩
set_option maxHeartbeats 1000000 in
theorem push_v {H : List VObj} {N m l s p lb rid mb : Nat} {least : Int} (PQ : PM H N m l s p lb rid mb least) (hN : 2 ≤ N) (hN2 : N ≤ 1000000) (h1 : 1 ≤ least) (lg : List (Nat × Nat)) : ∀ (u : Nat) (R : List (List Int)) (met : List Bool) (a : Nat) (n : Int), unmet met ≤ u → Sq N R → met.length = N → a < N → mt met a = false → mt met 1 = false → 1 ≤ n → n ≤ 1099511627776 → (∀ i j, i < N → j < N → 0 ≤ at2 R i j) → (∀ i j, i < N → j < N → at2 R i j + at2 R j i ≤ 1125899906842624) →
  VC Tryd.prog 50 [vi a, vi n, .ptr m 0, .ptr l 0, .ptr s 0, .ptr p 0] ⟨HF H rid mb R met, lg⟩ (fun r M' => ∃ k R' met', r = vi k ∧ M' = ⟨HF H rid mb R' met', lg⟩ ∧ Dfs N least R met a n k R' met') := by
 intro u
 induction u with
 | zero =>
  intro R met a n hu hs hl ha hma
  exfalso
  have := unmet_set (by omega) hma
  omega
 | succ u ih =>
  intro R met a n hu hs hl ha hma hm1 hn hn2 hnn hbd
  have gm := fun (R : List (List Int)) (met : List Bool) (hl : R.length = N) => (HF_other (H := H) (mb := mb) (rid := rid) (R := R) (met := met) PQ.om.1 (by rw [hl]; exact PQ.om.2)).trans PQ.hm
  have gl := fun (R : List (List Int)) (met : List Bool) (hl : R.length = N) => (HF_other (H := H) (mb := mb) (rid := rid) (R := R) (met := met) PQ.ol.1 (by rw [hl]; exact PQ.ol.2)).trans PQ.hl
  have gs := fun (R : List (List Int)) (met : List Bool) (hl : R.length = N) => (HF_other (H := H) (mb := mb) (rid := rid) (R := R) (met := met) PQ.os.1 (by rw [hl]; exact PQ.os.2)).trans PQ.hs
  have gp := fun (R : List (List Int)) (met : List Bool) (hl : R.length = N) => (HF_other (H := H) (mb := mb) (rid := rid) (R := R) (met := met) PQ.op.1 (by rw [hl]; exact PQ.op.2)).trans PQ.hp
  have gb := fun (R : List (List Int)) (met : List Bool) (hl : R.length = N) => (HF_other (H := H) (mb := mb) (rid := rid) (R := R) (met := met) PQ.ob.1 (by rw [hl]; exact PQ.ob.2)).trans PQ.hlb
  have gmb := fun (R : List (List Int)) (met : List Bool) => HF_mb (H := H) (rid := rid) (R := R) (met := met) PQ.m1
  have grow := fun (R : List (List Int)) (met : List Bool) (hl : R.length = N) (i : Nat) (hi : i < N) => HF_row (H := H) (mb := mb) (rid := rid) (R := R) (met := met) (i := i) (by rw [hl]; exact PQ.r1) (by rw [hl]; exact PQ.d) (by rw [hl]; exact hi)
  refine VC_own' T_ok (f := 50) (fn := Tryd.f50) (by kernel_rfl) rfl Tryd.ntmps50 (by rfl) (by rfl) ?_
  ((repeat refine Ws ?_);refine Wr ?_)
  simp (maxSteps := 1000000) only [VL,VM,↓VG,reduceIte,reduceCtorEq,zA,zB,zC,zD,zE,zF,zG,zH,zI,zJ]
  ((repeat refine Ws ?_);refine Wr ?_)
  by_cases ea : a = 1
  ·have k0 : ((a : Int) = 1) = True := eq_true (by omega)
   subst ea
   simp (maxSteps := 1000000) only [VL,VM,↓VG,reduceIte,reduceCtorEq,zA,zB,zC,zD,zE,zF,zG,zH,zI,zJ, k0]
   ((repeat refine Ws ?_);refine Wt (by first|rfl|simp only [EV,zF,reduceIte]) ?_)
   ((repeat refine Ws ?_);refine Wr ?_)
   simp (maxSteps := 1000000) only [VL,VM,↓VG,reduceIte,reduceCtorEq,zA,zB,zC,zD,zE,zF,zG,zH,zI,zJ]
   (repeat refine Ws ?_)
   refine W_ret ?_
   try simp only [thenQ, blockQ]
   exact own_retH rfl rfl ⟨n, R, met, rfl, rfl, dfs_stay hl (by omega) hs hnn (by omega)⟩
  have k0 : ((a : Int) = 1) = False := eq_false (by omega)
  simp (maxSteps := 1000000) only [VL,VM,↓VG,reduceIte,reduceCtorEq,zA,zB,zC,zD,zE,zF,zG,zH,zI,zJ, k0]
  ((repeat refine Ws ?_);refine Wf (by first|rfl|simp only [EV,zF,reduceIte]) ?_)
  ((repeat refine Ws ?_);refine W_skip ?_)
  simp (maxSteps := 1000000) only [VL,VM,↓VG,reduceIte,reduceCtorEq,zA,zB,zC,zD,zE,zF,zG,zH,zI,zJ]
  have hx1 : List.map vb (List.take a met) ++ vb true :: List.map vb (List.drop (a + 1) met) = List.map vb (met.set a true) := by
   rw [List.set_eq_take_append_cons_drop, if_pos (by omega)]
   simp
  have hx2 : (a + 1 ≤ met.length) = True := eq_true (by omega)
  have hlt : (a < N) = True := eq_true ha
  have hrow : (List.map (fun i => VV.bf (rid + i) 0 N 1) (List.range N))[a]? = some (.bf (rid + a) 0 N 1) := by simp [ha]
  ((repeat refine Ws ?_);refine Wr ?_)
  simp (maxSteps := 1000000) only [VL,VM,↓VG,reduceIte,reduceCtorEq,zA,zB,zC,zD,zE,zF,zG,zH,zI,zJ, gm R met hs.len, gmb, hlt, hx1, hx2, HF_setmb]
  have hmset := mt_set (met := met) (a := a) (by omega) true
  have hun := unmet_set (by omega) hma
  have hl2 : (met.set a true).length = N := by simpa using hl
  generalize met.set a true = met0 at hmset hun hl2
  ((repeat refine Ws ?_);refine Wr ?_)
  simp (maxSteps := 1000000) only [VL,VM,↓VG,reduceIte,reduceCtorEq,zA,zB,zC,zD,zE,zF,zG,zH,zI,zJ, gl R met0 hs.len, gb R met0 hs.len, hlt, hrow]
  have hm01 : mt met0 1 = mt met 1 := by
   rw [hmset, if_neg ea]
  ((repeat refine Ws ?_);refine W_block ?_; (repeat refine Ws ?_)); refine W_loopS (fun q : Nat × List Bool => [(0, vi a), (1, vi n), (2, .ptr m 0), (3, .ptr l 0), (4, .ptr s 0), (5, .ptr p 0), (21, .bf (rid + a) 0 N 1), (22, vi N), (23, vi q.1)]) (fun s => ⟨HF H rid mb R s.2, lg⟩) (fun s => N - s.1) (fun s => s.1 ≤ N ∧ s.2.length = N ∧ (∀ i, mt met0 i = true → mt s.2 i = true) ∧ mt s.2 1 = mt met0 1 ∧ (∀ i x, i < N → x < N → mt s.2 i = true → mt met0 i = false → mt s.2 x = false → at2 R i x < least) ∧ ∀ x, x < s.1 → mt s.2 x = true ∨ at2 R a x < least) (0, met0) ⟨Nat.zero_le _, hl2, fun _ h => h, rfl, fun i x _ _ h1 h2 => by (rw [h1] at h2; cases h2), fun x hx => by omega⟩ ⟨rfl, rfl, rfl, rfl, rfl, rfl, rfl, rfl, rfl, trivial⟩ rfl ?_
  rintro ⟨j, met2⟩ ⟨hj, g1, g2, g3, g4, g5⟩
  simp only at hj g1 g2 g3 g4 g5
  have k1 : -9223372036854775808 ≤ (j : Int) + 1 ∧ (j : Int) + 1 < 9223372036854775808 := by omega
  have hma2 : mt met2 a = true := g2 a (by rw [hmset, if_pos rfl])
  ((repeat refine Ws ?_);refine Wr ?_)
  rcases Nat.lt_or_ge j N with hjl | hjg
  rotate_left
  ·have k2 : ((j : Int) < (N : Int)) = False := eq_false (by omega)
   simp (maxSteps := 1000000) only [VL,VM,↓VG,reduceIte,reduceCtorEq,zA,zB,zC,zD,zE,zF,zG,zH,zI,zJ, k2]
   ((repeat refine Ws ?_);refine Wf (by first|rfl|simp only [EV,zF,reduceIte]) ?_)
   ((repeat refine Ws ?_);refine W_exit ?_)
   simp (maxSteps := 1000000) only [VL,VM,↓VG,reduceIte,reduceCtorEq,zA,zB,zC,zD,zE,zF,zG,zH,zI,zJ]
   ((repeat refine Ws ?_);refine Wr ?_)
   simp (maxSteps := 1000000) only [VL,VM,↓VG,reduceIte,reduceCtorEq,zA,zB,zC,zD,zE,zF,zG,zH,zI,zJ]
   (repeat refine Ws ?_)
   refine W_ret ?_
   try simp only [thenQ, blockQ]
   refine own_retH rfl rfl ⟨0, R, met2, rfl, rfl, g1, fun i h => g2 i ?_, by rw [g3, hm01], Int.le_refl _, fun _ => ⟨rfl, hma2, fun i x hi hx h1 h2 h3 => ?_⟩, fun h => absurd rfl h⟩
   ·rw [hmset]
    split
    ·rfl
    ·exact h
   ·by_cases e : i = a
    ·subst e
     rcases g5 x (by omega) with h | h
     ·rw [h3] at h; cases h
     ·exact h
    ·exact g4 i x hi hx h1 (by rw [hmset, if_neg (Ne.symm e)]; exact h2) h3
  have k2 : ((j : Int) < (N : Int)) = True := eq_true (by omega)
  have hrj : (List.map vi (R.getD a []))[j]? = some (vi (at2 R a j)) := by
   have := hs.rowlen ha
   rw [List.getElem?_map, List.getElem?_eq_getElem (by omega)]
   unfold at2
   rw [List.getD_eq_getElem?_getD (l := R.getD a []), List.getElem?_eq_getElem (by omega)]
   rfl
  have hmj : (List.map vb met2)[j]? = some (vb (mt met2 j)) := by
   rw [List.getElem?_map, List.getElem?_eq_getElem (by omega)]
   unfold mt
   rw [List.getD_eq_getElem?_getD, List.getElem?_eq_getElem (by omega)]
   rfl
  have hjlt : (j < N) = True := eq_true hjl
  have next : ∀ b, (mt met2 j = true ∨ at2 R a j < least) → ((j, met2) : Nat × List Bool) = b → True := fun _ _ _ => trivial
  simp (maxSteps := 1000000) only [VL,VM,↓VG,reduceIte,reduceCtorEq,zA,zB,zC,zD,zE,zF,zG,zH,zI,zJ, k2]
  ((repeat refine Ws ?_);refine Wt (by first|rfl|simp only [EV,zF,reduceIte]) ?_)
  ((repeat refine Ws ?_);refine W_skip ?_)
  simp (maxSteps := 1000000) only [VL,VM,↓VG,reduceIte,reduceCtorEq,zA,zB,zC,zD,zE,zF,zG,zH,zI,zJ]
  ((repeat refine Ws ?_);refine W_block ?_)
  ((repeat refine Ws ?_);refine Wr ?_)
  simp (maxSteps := 1000000) only [VL,VM,↓VG,reduceIte,reduceCtorEq,zA,zB,zC,zD,zE,zF,zG,zH,zI,zJ, hjlt, grow R met2 hs.len a ha, hrj]
  ((repeat refine Ws ?_);refine Wr ?_)
  cases hb : mt met2 j
  rotate_left
  ·rw [hb] at hmj
   simp (maxSteps := 1000000) only [VL,VM,↓VG,reduceIte,reduceCtorEq,zA,zB,zC,zD,zE,zF,zG,zH,zI,zJ, hjlt, gm R met2 hs.len, gmb, hmj]
   ((repeat refine Ws ?_);refine Wt (by first|rfl|simp only [EV,zF,reduceIte]) ?_)
   ((repeat refine Ws ?_);refine W_exit ?_)
   simp (maxSteps := 1000000) only [VL,VM,↓VG,reduceIte,reduceCtorEq,zA,zB,zC,zD,zE,zF,zG,zH,zI,zJ]
   ((repeat refine Ws ?_);refine Wr ?_)
   simp (maxSteps := 1000000) only [VL,VM,↓VG,reduceIte,reduceCtorEq,zA,zB,zC,zD,zE,zF,zG,zH,zI,zJ, k1]
   refine LoopK.mk (j + 1, met2) (by simp only; omega) ⟨by simp only; omega, g1, g2, g3, g4, fun x hx => ?_⟩ ⟨rfl, rfl, rfl, rfl, rfl, rfl, rfl, rfl, rfl, trivial⟩ rfl
   by_cases e : x = j
   ·subst e; exact .inl hb
   ·exact g5 x (by omega)
  rw [hb] at hmj
  by_cases hroom : at2 R a j < least
  ·simp (maxSteps := 1000000) only [VL,VM,↓VG,reduceIte,reduceCtorEq,zA,zB,zC,zD,zE,zF,zG,zH,zI,zJ, hjlt, gm R met2 hs.len, gmb, hmj, gs R met2 hs.len, eq_true hroom]
   ((repeat refine Ws ?_);refine Wt (by first|rfl|simp only [EV,zF,reduceIte]) ?_)
   ((repeat refine Ws ?_);refine W_exit ?_)
   simp (maxSteps := 1000000) only [VL,VM,↓VG,reduceIte,reduceCtorEq,zA,zB,zC,zD,zE,zF,zG,zH,zI,zJ]
   ((repeat refine Ws ?_);refine Wr ?_)
   simp (maxSteps := 1000000) only [VL,VM,↓VG,reduceIte,reduceCtorEq,zA,zB,zC,zD,zE,zF,zG,zH,zI,zJ, k1]
   refine LoopK.mk (j + 1, met2) (by simp only; omega) ⟨by simp only; omega, g1, g2, g3, g4, fun x hx => ?_⟩ ⟨rfl, rfl, rfl, rfl, rfl, rfl, rfl, rfl, rfl, trivial⟩ rfl
   by_cases e : x = j
   ·subst e; exact .inr hroom
   ·exact g5 x (by omega)
  simp (maxSteps := 1000000) only [VL,VM,↓VG,reduceIte,reduceCtorEq,zA,zB,zC,zD,zE,zF,zG,zH,zI,zJ, hjlt, gm R met2 hs.len, gmb, hmj, gs R met2 hs.len, eq_false hroom]
  ((repeat refine Ws ?_);refine Wf (by first|rfl|simp only [EV,zF,reduceIte]) ?_)
  ((repeat refine Ws ?_);refine W_skip ?_)
  simp (maxSteps := 1000000) only [VL,VM,↓VG,reduceIte,reduceCtorEq,zA,zB,zC,zD,zE,zF,zG,zH,zI,zJ]
  ((repeat refine Ws ?_);refine Wr ?_)
  simp (maxSteps := 1000000) only [VL,VM,↓VG,reduceIte,reduceCtorEq,zA,zB,zC,zD,zE,zF,zG,zH,zI,zJ, gp R met2 hs.len]
  have hja : a ≠ j := by rintro rfl; rw [hma2] at hb; cases hb
  have hsp : ∀ (row : List Int) (x : Int) (q : Nat), q < row.length → List.map vi (List.take q row) ++ vi x :: List.map vi (List.drop (q + 1) row) = List.map vi (row.set q x) := fun row x q hq => by
   rw [List.set_eq_take_append_cons_drop, if_pos hq]
   simp
  refine VCall_fn T_ok (f := 50) (fn := Tryd.f50) (by kernel_rfl) ?_
  have hc := ih R met2 j (min n (at2 R a j)) (by have := unmet_le (met := met0) (met' := met2) (by omega) g2; omega) hs g1 hjl hb (by rw [g3, hm01]; exact hm1) (by omega) (by omega) hnn hbd
  refine VC.mono (show VC Tryd.prog 50 ((([] : List VV) ++ [vi j, vi (min n (at2 R a j))] ++ [VV.ptr m 0, VV.ptr l 0, VV.ptr s 0, VV.ptr p 0]).map (sarg T 50)) _ _ from hc) ?_
  rintro _ _ ⟨k, R', met', rfl, rfl, D⟩
  simp (maxSteps := 1000000) only [VL,VM,↓VG,reduceIte,reduceCtorEq,zA,zB,zC,zD,zE,zF,zG,zH,zI,zJ]
  ((repeat refine Ws ?_);refine Wr ?_)
  by_cases hk : k = 0
  ·obtain ⟨rfl, d1, d2⟩ := D.zero hk
   have k3 : (0 < k) = False := eq_false (by omega)
   simp (maxSteps := 1000000) only [VL,VM,↓VG,reduceIte,reduceCtorEq,zA,zB,zC,zD,zE,zF,zG,zH,zI,zJ, k3]
   ((repeat refine Ws ?_);refine Wf (by first|rfl|simp only [EV,zF,reduceIte]) ?_)
   ((repeat refine Ws ?_);refine W_skip ?_)
   simp (maxSteps := 1000000) only [VL,VM,↓VG,reduceIte,reduceCtorEq,zA,zB,zC,zD,zE,zF,zG,zH,zI,zJ]
   ((repeat refine Ws ?_);refine Wr ?_)
   simp (maxSteps := 1000000) only [VL,VM,↓VG,reduceIte,reduceCtorEq,zA,zB,zC,zD,zE,zF,zG,zH,zI,zJ, k1]
   refine LoopK.mk (j + 1, met') (by simp only; omega) ⟨by simp only; omega, D.len, fun i h => D.mono i (g2 i h), D.one.trans g3, fun i x hi hx h1 h2 h3 => ?_, fun x hx => ?_⟩ ⟨rfl, rfl, rfl, rfl, rfl, rfl, rfl, rfl, rfl, trivial⟩ rfl
   ·have hx2 : mt met2 x = false := by
     cases hh : mt met2 x with
     | false => rfl
     | true => rw [D.mono x hh] at h3; cases h3
    cases hi2 : mt met2 i with
    | true => exact g4 i x hi hx hi2 h2 hx2
    | false => exact d2 i x hi hx h1 hi2 h3
   ·by_cases e : x = j
    ·subst e; exact .inl d1
    ·rcases g5 x (by omega) with h | h
     ·exact .inl (D.mono x h)
     ·exact .inr h
  obtain ⟨d1, d2, d3⟩ := D.pos hk
  have dk := D.k0
  have k3 : (0 < k) = True := eq_true (by omega)
  have hs' := d2.sq
  have hs2 := hs'.upd ha j (at2 R' a j - k)
  have hae : at2 R' a j = at2 R a j := d3 a ha hma2 j hjl
  have hv2 : at2 (upd2 R' a j (at2 R' a j - k)) j a = at2 R' j a := by
   rw [at2_upd hs' ha hjl, if_neg (by rintro ⟨x, _⟩; exact hja x)]
  have hb1 := hbd a j ha hjl
  have hn1 := hnn a j ha hjl
  have hn2' := d2.nn j a hjl ha
  have hn3 := d2.nn a j ha hjl
  have hsk := d2.sk a j ha hjl
  have w1 : -9223372036854775808 ≤ at2 R' a j - k ∧ at2 R' a j - k < 9223372036854775808 := by omega
  have w2 : -9223372036854775808 ≤ at2 R' j a + k ∧ at2 R' j a + k < 9223372036854775808 := by omega
  have hcell : ∀ (Q : List (List Int)) (x y : Nat), Sq N Q → x < N → y < N → (List.map vi (Q.getD x []))[y]? = some (vi (at2 Q x y)) := fun Q x y hQ hx hy => by
   have := hQ.rowlen hx
   rw [List.getElem?_map, List.getElem?_eq_getElem (by omega)]
   unfold at2
   rw [List.getD_eq_getElem?_getD (l := Q.getD x []), List.getElem?_eq_getElem (by omega)]
   rfl
  have hrow2 : (List.map (fun i => VV.bf (rid + i) 0 N 1) (List.range N))[j]? = some (.bf (rid + j) 0 N 1) := by simp [hjl]
  have e1 : (j + 1 ≤ (R'.getD a []).length) = True := eq_true (by rw [hs'.rowlen ha]; omega)
  have e2 : (a + 1 ≤ ((upd2 R' a j (at2 R' a j - k)).getD j []).length) = True := eq_true (by rw [hs2.rowlen hjl]; omega)
  have st1 : (HF H rid mb R' met').set (rid + a) (.obj (List.map vi ((R'.getD a []).set j (at2 R' a j - k)))) = HF H rid mb (upd2 R' a j (at2 R' a j - k)) met' := HF_setrow (by rw [hs'.len]; exact PQ.d) (by rw [hs'.len]; exact ha) _
  have sp1 := hsp (R'.getD a []) (at2 R' a j - k) j (by rw [hs'.rowlen ha]; exact hjl)
  simp (maxSteps := 1000000) only [VL,VM,↓VG,reduceIte,reduceCtorEq,zA,zB,zC,zD,zE,zF,zG,zH,zI,zJ, k3]
  ((repeat refine Ws ?_);refine Wt (by first|rfl|simp only [EV,zF,reduceIte]) ?_)
  ((repeat refine Ws ?_);refine Wr ?_)
  simp (maxSteps := 1000000) only [VL,VM,↓VG,reduceIte,reduceCtorEq,zA,zB,zC,zD,zE,zF,zG,zH,zI,zJ, gl R' met' hs'.len, gb R' met' hs'.len, hlt, hjlt, hrow, grow R' met' hs'.len a ha, hcell R' a j hs' ha hjl, w1, e1, sp1, st1]
  generalize hR2 : upd2 R' a j (at2 R' a j - k) = R2 at hs2 hv2 e2
  have st2 : (HF H rid mb R2 met').set (rid + j) (.obj (List.map vi ((R2.getD j []).set a (at2 R' j a + k)))) = HF H rid mb (upd2 R2 j a (at2 R' j a + k)) met' := HF_setrow (by rw [hs2.len]; exact PQ.d) (by rw [hs2.len]; exact hjl) _
  have sp2 := hsp (R2.getD j []) (at2 R' j a + k) a (by rw [hs2.rowlen hjl]; exact ha)
  have hc2 := hcell R2 j a hs2 hjl ha
  rw [hv2] at hc2
  ((repeat refine Ws ?_);refine Wr ?_)
  simp (maxSteps := 1000000) only [VL,VM,↓VG,reduceIte,reduceCtorEq,zA,zB,zC,zD,zE,zF,zG,zH,zI,zJ, gl R2 met' hs2.len, gb R2 met' hs2.len, hlt, hjlt, hrow2, grow R2 met' hs2.len j hjl, hc2, w2, e2, sp2, st2]
  ((repeat refine Ws ?_);refine Wr ?_)
  simp (maxSteps := 1000000) only [VL,VM,↓VG,reduceIte,reduceCtorEq,zA,zB,zC,zD,zE,zF,zG,zH,zI,zJ]
  (repeat refine Ws ?_)
  refine W_ret ?_
  try simp only [thenQ, blockQ]
  have hmm : ∀ i, mt met i = true → mt met2 i = true := fun i h => g2 i (by
   rw [hmset]
   split
   ·rfl
   ·exact h)
  refine own_retH rfl rfl ⟨k, _, met', rfl, rfl, D.len, fun i h => D.mono i (hmm i h), by rw [D.one, g3, hm01], dk, fun h => absurd h hk, fun _ => ⟨by omega, ?_, fun i hi h x hx => ?_⟩⟩
  ·rw [← hR2]
   exact Aug.step hs ha hjl hja d2 (by omega) dk hae (sumTo_congr fun x hx => d3 a ha hma2 x hx) ea
  ·have hij : j ≠ i := by
    rintro rfl
    rw [hmm _ h] at hb; cases hb
   have hai : a ≠ i := by
    rintro rfl
    rw [hma] at h; cases h
   rw [at2_upd hs2 hjl ha, if_neg (fun e => hij e.1), ← hR2, at2_upd hs' ha hjl, if_neg (fun e => hai e.1)]
   exact d3 i hi (hmm i h) x hx
end Go.Proofs.YtekhddlngbppkaaDoor.Vm

/- Ranges over iterators; calls whose result leads to what nobody looks at. (Vm) -/
namespace Go.Proofs.YtekhddlngbppkaaDoor.Vm
open Go Go.Proofs
theorem get_prune_mem {vs : List Nat} {e : Env} {t : Nat} (h : t ∈ vs) : get (prune vs e) t = get e t := by
 unfold prune
 induction vs with
 | nil => cases h
 | cons v vs ih =>
  simp only [List.map_cons, get_cons]
  by_cases h' : t = v
  ·rw [if_pos h', h']
  ·rw [if_neg h']
   exact ih (by rcases List.mem_cons.1 h with h | h; exact absurd h h'; exact h)
theorem Sub_prune {vs : List Nat} {e : Env} : ∀ {E : Env}, Sub E e → (E.map Prod.fst).all (fun t => vs.contains t) = true → Sub E (prune vs e)
 | [], _, _ => trivial
 | (k, v) :: r, h, hv => by
  simp only [List.map_cons, List.all_cons, Bool.and_eq_true, List.contains_iff_mem] at hv
  exact ⟨(get_prune_mem hv.1).trans h.1, Sub_prune h.2 hv.2⟩
def IterOf (fi : Nat) (caps : List VV) (xs : List VV) (Pk : List VObj → Prop) : Prop :=
 ∀ {σ : Type} (id : Nat) (M : Mem) (A : σ → List VObj) (good : Nat → σ → Prop) (s0 : σ), good 0 s0 → (∀ s, (A s).length = M.H.length) → M.H = A s0 → (∀ s, Pk (A s)) →
  (∀ i x s junk, xs[i]? = some x → good i s → ∃ s' X, VCall Tryd.prog (.yl id) [x] ⟨A s ++ junk, M.lg⟩ (fun r M' => r = vb true ∧ M' = ⟨A s' ++ (junk ++ X), M.lg⟩) ∧ good (i + 1) s') →
  VC Tryd.prog fi (.yl id :: caps) M (fun r M' => ∃ s, M' = ⟨A s, M.lg⟩ ∧ good xs.length s)
theorem W_iter {cx : Cx} {e : Env} {M : Mem} {D : List Nat} {Q : PQ} {g : Operand} {p : Nat} {assign body : Code} (hrd : cx.rd = none) {fi : Nat} {fn : Func} (hfn : T.fn fi = some fn) (hkf : T.keeps fi = false) {caps : List VV} (hcp : caps.map strip1 = caps) (hg : ev e g = .fn (.func fi) [] caps) {xs : List VV} {Pk : List VObj → Prop} (hit : IterOf fi caps xs Pk)
  (hPk : ∀ A L, Pk A → Pk (A ++ L))
  {σ : Type} (E : Env) (A : σ → List VObj) (good : Nat → σ → Prop) (s0 : σ) (h0 : good 0 s0) (hA : ∀ s, (A s).length = M.H.length) (hM : M.H = A s0) (hk : ∀ s, Pk (A s)) (hp : Nat.blt p cx.nt = true) (hE : Sub E e) (hv : (E.map Prod.fst).all (fun t => (T.vars cx.fid).contains t) = true)
  (round : ∀ (o o' : VObj) i x s junk, xs[i]? = some x → good i s → ∃ s' junk2, good (i + 1) s' ∧ WCode Tryd.prog ⟨cx.fid, some (M.H.length + 1), cx.nt⟩ assign ((p, x) :: E) ⟨A s ++ .dfr :: o :: junk, M.lg⟩ []
    (fun ex e' M' D' => ex = .normal ∧ ∃ junk', M' = ⟨A s ++ .dfr :: o :: junk', M.lg⟩ ∧ WCode Tryd.prog ⟨cx.fid, some (M.H.length + 1), cx.nt⟩ body e' ⟨A s ++ .dfr :: o' :: junk', M.lg⟩ D'
      (fun ex e2 M2 D2 => ex = .normal ∧ M2 = ⟨A s' ++ .dfr :: o' :: (junk ++ junk2), M.lg⟩)))
  (fin : ∀ (o : VObj) s, good xs.length s → Q .normal e ⟨A s ++ [.dfr, o], M.lg⟩ (M.H.length :: D)) : WCode Tryd.prog cx (.rangeFunc g #[p] assign body) e M D Q := by
 obtain ⟨H, lg⟩ := M
 simp only at hA hM round fin
 subst hM
 obtain ⟨Lp, hLp⟩ : ∃ Lp, Lp = mkLoop T cx e #[p] assign body (A s0).length := ⟨_, rfl⟩
 have hget : ∀ (s : σ) (x y : VObj) (junk : List VObj), (A s ++ x :: y :: junk)[(A s0).length + 1]? = some y := fun s x y junk => by
  rw [← hA s, List.getElem?_append_right (by omega)]; simp
 have hset : ∀ (s : σ) (x y z : VObj) (junk : List VObj), (A s ++ x :: y :: junk).set ((A s0).length + 1) z = A s ++ x :: z :: junk := fun s x y z junk => by
  rw [← hA s, List.set_append_right _ _ (by omega)]; simp
 refine W_range T_ok (f := fi) (fn := fn) hrd hg hfn ?_
 rw [← hLp]
 have hst : (Mem.push (Mem.push ⟨A s0, lg⟩ .dfr) (.lp Lp)) = ⟨A s0 ++ [.dfr, .lp Lp], lg⟩ := by simp [Mem.push]
 rw [hst]
 have hargs : (([] ++ [VV.yl ((A s0).length + 1)] ++ caps).map (sarg T fi)) = .yl ((A s0).length + 1) :: caps := by
  have hsa : sarg T fi = strip1 := funext fun v => by simp [sarg, hkf]
  rw [hsa]
  simp [strip1, hcp]
 show VC Tryd.prog fi (([] ++ [VV.yl ((A s0).length + 1)] ++ caps).map (sarg T fi)) _ _
 rw [hargs]
 refine (hit ((A s0).length + 1) ⟨A s0 ++ [.dfr, .lp Lp], lg⟩ (fun s => A s ++ [.dfr, .lp Lp]) good s0 h0 (fun s => by simp [hA]) rfl (fun s => hPk _ _ (hk s)) ?_).mono ?_
 ·intro i c s junk hi hgd
  obtain ⟨s', junk2, hg', hround⟩ := round (.lp Lp) (.lp (Lp.with .busy none)) i c s junk hi hgd
  refine ⟨s', junk2, ?_, hg'⟩
  have hm : (A s ++ [.dfr, .lp Lp]) ++ junk = A s ++ .dfr :: .lp Lp :: junk := by simp
  rw [hm]
  refine V_yield (L := Lp) (e0 := (p, c) :: prune (T.vars cx.fid) e) (hget s _ _ _) (by rw [hLp]; simp [mkLoop, vputs, hp]) ?_
  have f1 : Lp.fid = cx.fid := by rw [hLp]; rfl
  have f2 : Lp.nt = cx.nt := by rw [hLp]; rfl
  have f3 : Lp.assign = assign := by rw [hLp]; rfl
  have f4 : Lp.body = body := by rw [hLp]; rfl
  rw [f1, f2, f3, f4]
  refine (WCode.weak hround ?_).mono ?_
  ·intro t
   rw [get_cons, get_cons]
   by_cases ht : t = p
   ·rw [if_pos ht, if_pos ht]; exact .inl rfl
   ·rw [if_neg ht, if_neg ht]; exact (Sub_prune hE hv).ok t
  ·rintro ex e' M' D' ⟨rfl, junk', rfl, hb⟩
   refine ⟨Lp, hget s _ _ _, by rw [hLp]; rfl, ?_⟩
   simp only [Mem.loop, hset]
   have hpd : Lp.pend = none := by rw [hLp]; rfl
   rw [hpd]
   refine hb.mono ?_
   rintro ex e2 M2 D2 ⟨rfl, rfl⟩
   refine ⟨Lp.with .busy none, hget s' _ _ _, ?_⟩
   simp only [Mem.loop, hset]
   have hback : ∀ L : LoopV, L.st = .ready → L.pend = none → (L.with .busy none).with .ready none = L := fun L h1 h2 => by
    cases L
    simp only at h1 h2
    subst h1 h2
    rfl
   rw [hback Lp (by rw [hLp]; rfl) hpd]
   exact ⟨by trivial, by simp⟩
 ·rintro r M' ⟨s, rfl, hgd⟩
  refine ⟨Lp, hget s _ _ _, by rw [hLp]; rfl, ?_⟩
  have hpd : Lp.pend = none := by rw [hLp]; rfl
  simp only [Mem.loop, hset, hpd]
  exact fin _ s hgd
theorem VC_first {P : Program} {f : Nat} {args : List VV} {M : Mem} {a : VV} (ha : isCell a = true) (hr : refs a = []) (hfz : ∀ n H, frz n H a = a) (h : VC P f args M (fun r M' => ∃ b L X, r = .tup [a, b] ∧ M' = ⟨M.H ++ L, M.lg ++ X⟩ ∧ ∀ e ∈ X, M.H.length ≤ e.1)) : VC P f args M (fun r M' => M' = M ∧ r = .tup [a, .any]) := by
 intro G w K rargs hI hA
 refine (h G w K rargs hI hA).mono ?_
 intro e w'
 rintro ⟨rv, r, K', M', he, ⟨b, L, X, rfl, rfl, hX⟩, h1, h2, h3, h4⟩
 have hr1 : RepV w' K' (M.H ++ L) rv (.tup [a, .any]) := by
  cases h1 with
  | tup vs cs hs hh =>
   refine .tup vs _ (by simpa using hs) fun i v c hv hc => ?_
   rcases i with _ | _ | i
   ·simp only [List.getElem?_cons_zero, Option.some.injEq] at hc
    subst hc
    exact hh 0 v _ hv rfl
   ·simp only [List.getElem?_cons_succ, List.getElem?_cons_zero, Option.some.injEq] at hc
    subst hc
    exact .any _
   ·simp at hc
 have hrf : refs (VV.tup [a, .any]) = [] := by simp [refs, refsL, hr]
 have hfr : frz M.H.length (M.H ++ L) (.tup [a, .any]) = .tup [a, .any] := by
  rw [frz, frzL, frzL, frzL, hfz]
  simp [frz]
 have hf := frz_ok h4 (n0 := M.H.length) (by simp) hr1 hr1 (by rw [hfr, hrf]; intro r hr; cases hr)
 rw [hfr] at hf
 have htk : (M.H ++ L).take M.H.length = M.H := by simp
 simp only [htk] at hf
 refine ⟨rv, _, K', M, he, ⟨rfl, rfl⟩, hf, fun q hq => (by rw [hrf] at hq; cases hq), ?_, ?_⟩
 ·have := h3.keep (keep_take M.H.length) (Nat.le_refl _) fun i hi => ⟨by rw [List.getElem?_take_of_lt hi], rfl, fun _ _ _ => rfl⟩
  simpa only [htk] using this
 ·have hlg := hI.lg
  have := inv_take h4 (n := M.H.length) (lg' := M.lg) (by simp) (fun e he h1 => by
   rcases List.mem_append.1 he with he | he
   ·exact ⟨(hlg e he).2, he⟩
   ·have := hX e he
    omega) hlg
  simpa only [htk] using this
end Go.Proofs.YtekhddlngbppkaaDoor.Vm

/- Flows: as much as can flow, on values. (Vm) -/
namespace Go.Proofs.YtekhddlngbppkaaDoor
structure Wa where
 fr : Nat
 to : Nat
 most : Int
 deriving DecidableEq
def add2 (R : List (List Int)) (w : Wa) : List (List Int) := upd2 R w.fr w.to (at2 R w.fr w.to + w.most)
def zeros2 (N : Nat) : List (List Int) := List.replicate N (List.replicate N 0)
def tabOfW (N : Nat) (ws : List Wa) : List (List Int) := ws.foldl add2 (zeros2 N)
structure WaOk (N : Nat) (w : Wa) : Prop where
 fr : w.fr < N
 to : w.to < N
 lo : 0 ≤ w.most
 hi : w.most ≤ 1073741824
theorem zeros2_sq (N : Nat) : Sq N (zeros2 N) := ⟨by simp [zeros2], fun r hr => by
 simp only [zeros2, List.mem_replicate] at hr
 rw [hr.2]; simp⟩
theorem zeros2_at (N i j : Nat) : at2 (zeros2 N) i j = 0 := by
 unfold at2 zeros2
 rw [List.getD_eq_getElem?_getD (l := List.replicate N _), List.getElem?_replicate]
 split
 ·rw [Option.getD_some, List.getD_eq_getElem?_getD, List.getElem?_replicate]
  split <;> rfl
 ·rfl
theorem tabW_succ (N : Nat) (ws : List Wa) (w : Wa) : tabOfW N (ws ++ [w]) = add2 (tabOfW N ws) w := by simp [tabOfW]
theorem tabW_ok {N : Nat} : ∀ (n : Nat) (ws : List Wa), ws.length = n → (∀ w ∈ ws, WaOk N w) → Sq N (tabOfW N ws) ∧ ∀ i j, 0 ≤ at2 (tabOfW N ws) i j ∧ at2 (tabOfW N ws) i j ≤ 1073741824 * (n : Int) := by
 intro n
 induction n with
 | zero =>
  intro ws h _
  rw [List.length_eq_zero_iff.1 h]
  refine ⟨zeros2_sq N, fun i j => ?_⟩
  show 0 ≤ at2 (zeros2 N) i j ∧ at2 (zeros2 N) i j ≤ _
  rw [zeros2_at]
  omega
 | succ n ih =>
  intro ws h hw
  rcases List.eq_nil_or_concat ws with rfl | ⟨vs, w, rfl⟩
  ·cases h
  ·rw [List.concat_eq_append] at h hw ⊢
   simp at h
   obtain ⟨q1, q2⟩ := ih vs h fun x hx => hw x (List.mem_append_left _ hx)
   have hww := hw w (by simp)
   rw [tabW_succ]
   refine ⟨q1.upd hww.fr _ _, fun i j => ?_⟩
   unfold add2
   rw [at2_upd q1 hww.fr hww.to]
   have h1 := q2 i j
   have h2 := q2 w.fr w.to
   have := hww.lo
   have := hww.hi
   split <;> omega
open Classical in
noncomputable def mfv (N : Nat) (C : List (List Int)) : Int := if h : ∃ v, MF N C v then Classical.choose h else 0
theorem mfv_eq {N : Nat} {C : List (List Int)} (hN : 2 ≤ N) {v : Int} (h : MF N C v) : mfv N C = v := by
 unfold mfv
 have he : ∃ v, MF N C v := ⟨v, h⟩
 rw [dif_pos he]
 exact (Classical.choose_spec he).unique hN h
end Go.Proofs.YtekhddlngbppkaaDoor
namespace Go.Proofs.YtekhddlngbppkaaDoor.Vm
open Go Go.Proofs
abbrev wayV (w : Wa) : VV := .agg [vi w.fr, vi w.to, vi w.most]
abbrev rowO (r : List Int) : VObj := .obj (r.map vi)
def FA (H0 : List VObj) (N : Nat) (R : List (List Int)) : List VObj := H0 ++ (VObj.obj ((List.range N).map fun i => .bf (H0.length + 2 + i) 0 N 1) :: .obj [.bf H0.length 0 N 1] :: R.map rowO)
section
variable {H0 : List VObj} {N : Nat} {R : List (List Int)}
theorem FA_len : (FA H0 N R).length = H0.length + 2 + R.length := by simp [FA]; omega
theorem FA_0 : (FA H0 N R)[H0.length]? = some (.obj ((List.range N).map fun i => .bf (H0.length + 2 + i) 0 N 1)) := by rw [FA, hget0]; rfl
theorem FA_1 : (FA H0 N R)[H0.length + 1]? = some (.obj [.bf H0.length 0 N 1]) := by rw [FA, hget]; rfl
theorem FA_row {i : Nat} (hi : i < R.length) : (FA H0 N R)[H0.length + 2 + i]? = some (.obj ((R.getD i []).map vi)) := by
 rw [FA, Nat.add_assoc, hget, show 2 + i = i + 1 + 1 by omega, List.getElem?_cons_succ, List.getElem?_cons_succ, List.getElem?_map, List.getElem?_eq_getElem hi, List.getD_eq_getElem?_getD, List.getElem?_eq_getElem hi]
 rfl
theorem FA_set (i : Nat) (r : List Int) : (FA H0 N R).set (H0.length + 2 + i) (.obj (r.map vi)) = FA H0 N (R.set i r) := by
 rw [FA, Nat.add_assoc, hset, show 2 + i = i + 1 + 1 by omega, List.set_cons_succ, List.set_cons_succ, FA, List.map_set]
end
end Go.Proofs.YtekhddlngbppkaaDoor.Vm
