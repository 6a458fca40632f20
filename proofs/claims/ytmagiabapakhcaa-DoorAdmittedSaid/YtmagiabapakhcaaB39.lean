/- A part of the proofs about the chapter of the doors; it states no condition of its own. -/
import Derived.Test.YtmagiabapakhcaaB13
import Derived.Test.YtmagiabapakhcaaB21
import Derived.Test.YtmagiabapakhcaaB35
set_option linter.unusedVariables false
set_option linter.unusedSimpArgs false
/- Flows to the last place: the same, with two places' names exchanged; and a search by the fewest steps. -/
namespace Go.Proofs.Ytmagiabapakhcaa
def tau (N i : Nat) : Nat := if i = 1 then N - 1 else if i = N - 1 then 1 else i
theorem tau_tau {N : Nat} (hN : 2 ≤ N) (i : Nat) : tau N (tau N i) = i := by
 unfold tau
 by_cases h1 : i = 1
 ·rw [if_pos h1]
  by_cases h2 : N - 1 = 1
  ·rw [if_pos h2]; omega
  ·rw [if_neg h2, if_pos rfl]; omega
 ·by_cases h2 : i = N - 1
  ·rw [if_neg h1, if_pos h2, if_pos rfl]; omega
  ·rw [if_neg h1, if_neg h2, if_neg h1, if_neg h2]
theorem tau_lt {N : Nat} (hN : 2 ≤ N) {i : Nat} (hi : i < N) : tau N i < N := by
 unfold tau
 split
 ·omega
 ·split <;> omega
theorem tau_inj {N : Nat} (hN : 2 ≤ N) {i j : Nat} (h : tau N i = tau N j) : i = j := by
 rw [← tau_tau hN i, h, tau_tau hN]
theorem tau_last {N : Nat} (hN : 2 ≤ N) : tau N (N - 1) = 1 := by
 unfold tau
 split
 ·omega
 ·rw [if_pos rfl]
def permT (N : Nat) (R : List (List Int)) : List (List Int) := (List.range N).map fun i => (List.range N).map fun j => at2 R (tau N i) (tau N j)
theorem permT_sq (N : Nat) (R : List (List Int)) : Sq N (permT N R) := ⟨by simp [permT], fun r hr => by
 obtain ⟨i, _, rfl⟩ := List.mem_map.1 hr
 simp⟩
theorem permT_at {N : Nat} (R : List (List Int)) {i j : Nat} (hi : i < N) (hj : j < N) : at2 (permT N R) i j = at2 R (tau N i) (tau N j) := by
 have e : (permT N R)[i]? = some ((List.range N).map fun j => at2 R (tau N i) (tau N j)) := by
  unfold permT
  rw [List.getElem?_map, List.getElem?_range hi]; rfl
 rw [at2, List.getD_eq_getElem?_getD (l := permT N R), e, Option.getD_some, List.getD_eq_getElem?_getD, List.getElem?_map, List.getElem?_range hj]; rfl
theorem sq_ext {N : Nat} {A B : List (List Int)} (ha : Sq N A) (hb : Sq N B) (h : ∀ i j, i < N → j < N → at2 A i j = at2 B i j) : A = B := by
 apply List.ext_getElem?
 intro i
 rcases Nat.lt_or_ge i N with q | q
 ·have la : i < A.length := by rw [ha.len]; exact q
  have lb : i < B.length := by rw [hb.len]; exact q
  rw [List.getElem?_eq_getElem la, List.getElem?_eq_getElem lb]
  congr 1
  apply List.ext_getElem?
  intro j
  have ra := ha.row _ (List.getElem_mem la)
  have rb := hb.row _ (List.getElem_mem lb)
  rcases Nat.lt_or_ge j N with q2 | q2
  ·have := h i j q q2
   unfold at2 at this
   rw [List.getD_eq_getElem?_getD (l := A), List.getD_eq_getElem?_getD (l := B), List.getElem?_eq_getElem la, List.getElem?_eq_getElem lb, Option.getD_some, Option.getD_some, List.getD_eq_getElem?_getD, List.getD_eq_getElem?_getD, List.getElem?_eq_getElem (by omega), List.getElem?_eq_getElem (by omega), Option.getD_some, Option.getD_some] at this
   rw [List.getElem?_eq_getElem (by omega), List.getElem?_eq_getElem (by omega), this]
  ·rw [List.getElem?_eq_none (by omega), List.getElem?_eq_none (by omega)]
 ·rw [List.getElem?_eq_none (by rw [ha.len]; exact q), List.getElem?_eq_none (by rw [hb.len]; exact q)]
theorem permT_upd {N : Nat} (hN : 2 ≤ N) {R : List (List Int)} (hs : Sq N R) {i j : Nat} (hi : i < N) (hj : j < N) (x : Int) : permT N (upd2 R i j x) = upd2 (permT N R) (tau N i) (tau N j) x := by
 refine sq_ext (permT_sq N _) ((permT_sq N R).upd (tau_lt hN hi) _ _) fun a b ha hb => ?_
 rw [permT_at _ ha hb, at2_upd hs hi hj, at2_upd (permT_sq N R) (tau_lt hN hi) (tau_lt hN hj), permT_at _ ha hb]
 have e : (i = tau N a ∧ j = tau N b) ↔ (tau N i = a ∧ tau N j = b) := by
  constructor
  ·rintro ⟨h1, h2⟩; rw [h1, h2, tau_tau hN, tau_tau hN]; exact ⟨rfl, rfl⟩
  ·rintro ⟨h1, h2⟩; rw [← h1, ← h2, tau_tau hN, tau_tau hN]; exact ⟨rfl, rfl⟩
 by_cases h : i = tau N a ∧ j = tau N b
 ·rw [if_pos h, if_pos (e.1 h)]
 ·rw [if_neg h, if_neg (fun q => h (e.2 q))]
structure Bfs (N : Nat) (R : List (List Int)) (q : List Nat) (fr : List Int) : Prop where
 len : fr.length = N
 q0 : q[0]? = some 0
 lt : ∀ x ∈ q, x < N
 nd : q.Nodup
 out : ∀ v, v < N → v ∉ q → fr.getD v 0 = -1
 inn : ∀ v, v ∈ q → v ≠ 0 → 0 ≤ fr.getD v 0
 par : ∀ k x, q[k]? = some x → k ≠ 0 → ∃ (l y : Nat), l < k ∧ q[l]? = some y ∧ fr.getD x 0 = (y : Int) ∧ 0 < at2 R y x
theorem Bfs.start {N : Nat} (hN : 2 ≤ N) (R : List (List Int)) : Bfs N R [0] (List.replicate N (-1)) := by
 refine ⟨by simp, rfl, by simp; omega, by simp, fun v hv _ => ?_, fun v hv h0 => ?_, fun k x hk h0 => ?_⟩
 ·rw [List.getD_eq_getElem?_getD, List.getElem?_replicate, if_pos hv]; rfl
 ·simp at hv; exact absurd hv h0
 ·rcases k with _ | k
  ·exact absurd rfl h0
  ·simp at hk
theorem Bfs.zero {N : Nat} {R : List (List Int)} {q : List Nat} {fr : List Int} (h : Bfs N R q fr) : 0 ∈ q := List.mem_of_getElem? h.q0
theorem Bfs.add {N : Nat} {R : List (List Int)} {q : List Nat} {fr : List Int} (h : Bfs N R q fr) {i v x : Nat} (hi : q[i]? = some x) (hv : v < N) (hnv : v ∉ q) (hp : 0 < at2 R x v) : Bfs N R (q ++ [v]) (fr.set v (x : Int)) := by
 have hil : i < q.length := (List.getElem?_eq_some_iff.1 hi).1
 have ne : ∀ w, w ∈ q → v ≠ w := fun w hw e => hnv (e ▸ hw)
 have gd : ∀ w, v ≠ w → (fr.set v (x : Int)).getD w 0 = fr.getD w 0 := fun w e => by rw [List.getD_eq_getElem?_getD, List.getElem?_set_ne e, ← List.getD_eq_getElem?_getD]
 have gv : (fr.set v (x : Int)).getD v 0 = (x : Int) := by rw [List.getD_eq_getElem?_getD, List.getElem?_set_self (by rw [h.len]; exact hv)]; rfl
 refine ⟨by rw [List.length_set]; exact h.len, ?_, fun y hy => ?_, ?_, fun w hw hn => ?_, fun w hw h0 => ?_, fun k y hk h0 => ?_⟩
 ·rw [List.getElem?_append_left (by omega)]; exact h.q0
 ·rcases List.mem_append.1 hy with hy | hy
  ·exact h.lt y hy
  ·rw [List.mem_singleton] at hy; omega
 ·rw [List.nodup_append]
  refine ⟨h.nd, by simp, fun a ha b hb => ?_⟩
  rw [List.mem_singleton] at hb
  rw [hb]
  exact fun e => ne a ha e.symm
 ·rw [List.mem_append, List.mem_singleton] at hn
  rw [gd w (fun e => hn (.inr e.symm))]
  exact h.out w hw (fun q => hn (.inl q))
 ·rcases List.mem_append.1 hw with hw | hw
  ·rw [gd w (ne w hw)]; exact h.inn w hw h0
  ·rw [List.mem_singleton] at hw
   rw [hw, gv]; omega
 ·rcases Nat.lt_or_ge k q.length with hkl | hkl
  ·rw [List.getElem?_append_left hkl] at hk
   obtain ⟨l, z, h1, h2, h3, h4⟩ := h.par k y hk h0
   refine ⟨l, z, h1, ?_, ?_, h4⟩
   ·rw [List.getElem?_append_left (by omega)]; exact h2
   ·rw [gd y (ne y (List.mem_of_getElem? hk))]; exact h3
  ·rw [List.getElem?_append_right hkl] at hk
   have hk0 : k - q.length = 0 := by
    rcases Nat.eq_zero_or_pos (k - q.length) with e | e
    ·exact e
    ·rw [List.getElem?_eq_none (by simp; omega)] at hk; cases hk
   rw [hk0] at hk
   simp at hk
   subst hk
   refine ⟨i, x, by omega, ?_, gv, hp⟩
   rw [List.getElem?_append_left hil]; exact hi
theorem nodup_pos {q : List Nat} (h : q.Nodup) {i j x : Nat} (hi : q[i]? = some x) (hj : q[j]? = some x) : i = j := by
 obtain ⟨a, b⟩ := List.getElem?_eq_some_iff.1 hi
 obtain ⟨c, d⟩ := List.getElem?_eq_some_iff.1 hj
 exact (List.getElem_inj h).1 (b.trans d.symm)
structure Bak (N : Nat) (R : List (List Int)) (q : List Nat) (k : Nat) (x : Nat) (n : Int) (R1 : List (List Int)) : Prop where
 sq : Sq N R1
 aug : Aug N (permT N R) (permT N R1) (tau N x) n
 far : ∀ a b, at2 R1 a b ≠ at2 R a b → (∃ i, k ≤ i ∧ q[i]? = some a) ∧ ∃ i, k ≤ i ∧ q[i]? = some b
theorem Bak.step {N : Nat} (hN : 2 ≤ N) {R : List (List Int)} (hs : Sq N R) {q : List Nat} {fr : List Int} (B : Bfs N R q fr) {k l x y : Nat} {n : Int} {R1 : List (List Int)} (h : Bak N R q k x n R1) (hk : q[k]? = some x) (hl : l < k) (hy : q[l]? = some y) (hn : n ≤ at2 R y x) (hn0 : 0 ≤ n) (hlast : ∀ i, q[i]? = some (N - 1) → k ≤ i) :
  Bak N R q l y n (upd2 (upd2 R1 y x (at2 R1 y x - n)) x y (at2 R1 x y + n)) ∧ at2 R1 y x = at2 R y x := by
 have hx := B.lt x (List.mem_of_getElem? hk)
 have hyl := B.lt y (List.mem_of_getElem? hy)
 have hny : ∀ i, k ≤ i → q[i]? ≠ some y := fun i hi e => by
  have := nodup_pos B.nd e hy
  omega
 have row : ∀ j, at2 R1 y j = at2 R y j := fun j => by
  rcases Classical.em (at2 R1 y j = at2 R y j) with e | e
  ·exact e
  ·obtain ⟨i, h1, h2⟩ := (h.far y j e).1
   exact absurd h2 (hny i h1)
 have hne : y ≠ x := fun e => hny k (Nat.le_refl _) (by rw [e]; exact hk)
 have hy1 : tau N y ≠ 1 := fun e => by
  have : y = N - 1 := tau_inj hN (by rw [e, tau_last hN])
  have := hlast l (by rw [hy, this])
  omega
 have e1 : permT N (upd2 (upd2 R1 y x (at2 R1 y x - n)) x y (at2 R1 x y + n)) = upd2 (upd2 (permT N R1) (tau N y) (tau N x) (at2 (permT N R1) (tau N y) (tau N x) - n)) (tau N x) (tau N y) (at2 (permT N R1) (tau N x) (tau N y) + n) := by
  rw [permT_upd hN (h.sq.upd hyl x _) hx hyl, permT_upd hN h.sq hyl hx, permT_at _ (tau_lt hN hyl) (tau_lt hN hx), permT_at _ (tau_lt hN hx) (tau_lt hN hyl), tau_tau hN, tau_tau hN]
 refine ⟨⟨(h.sq.upd hyl x _).upd hx y _, ?_, fun a b hab => ?_⟩, row x⟩
 ·rw [e1]
  refine Aug.step (permT_sq N R) (tau_lt hN hyl) (tau_lt hN hx) (fun e => hne (tau_inj hN e)) h.aug ?_ hn0 ?_ ?_ hy1
  ·rw [permT_at _ (tau_lt hN hyl) (tau_lt hN hx), tau_tau hN, tau_tau hN]; exact hn
  ·rw [permT_at _ (tau_lt hN hyl) (tau_lt hN hx), permT_at _ (tau_lt hN hyl) (tau_lt hN hx), tau_tau hN, tau_tau hN]; exact row x
  ·refine sumTo_congr fun j hj => ?_
   rw [permT_at _ (tau_lt hN hyl) hj, permT_at _ (tau_lt hN hyl) hj, tau_tau hN]; exact row _
 ·rw [at2_upd (h.sq.upd hyl x _) hx hyl, at2_upd h.sq hyl hx] at hab
  split at hab
  ·rename_i e
   rw [← e.1, ← e.2]
   exact ⟨⟨k, by omega, hk⟩, l, Nat.le_refl _, hy⟩
  ·split at hab
   ·rename_i e
    rw [← e.1, ← e.2]
    exact ⟨⟨l, Nat.le_refl _, hy⟩, k, by omega, hk⟩
   ·obtain ⟨⟨i, a1, a2⟩, j, b1, b2⟩ := h.far a b hab
    exact ⟨⟨i, by omega, a2⟩, j, by omega, b2⟩
theorem Bak.start {N : Nat} (hN : 2 ≤ N) {R : List (List Int)} (hs : Sq N R) (hnn : ∀ i j, i < N → j < N → 0 ≤ at2 R i j) (q : List Nat) (k : Nat) (n : Int) : Bak N R q k (N - 1) n R := by
 refine ⟨hs, ?_, fun a b h => absurd rfl h⟩
 rw [tau_last hN]
 exact ⟨permT_sq N R, fun i j hi hj => by rw [permT_at _ hi hj]; exact hnn _ _ (tau_lt hN hi) (tau_lt hN hj), fun _ _ _ _ => rfl, fun i _ h1 => by rw [if_neg h1]; omega⟩
end Go.Proofs.Ytmagiabapakhcaa

/- What holds behind a piece of code. (Vm) -/
namespace Go.Proofs.Ytmagiabapakhcaa.Vm
open Go
end Go.Proofs.Ytmagiabapakhcaa.Vm

/- The reference's search for a way, on values. (Vm) -/
namespace Go.Proofs.Ytmagiabapakhcaa.Vm
open Go Go.Proofs
end Go.Proofs.Ytmagiabapakhcaa.Vm

/- The reference's flow, on values. (Vm) -/
namespace Go.Proofs.Ytmagiabapakhcaa
end Go.Proofs.Ytmagiabapakhcaa
namespace Go.Proofs.Ytmagiabapakhcaa.Vm
open Go Go.Proofs
end Go.Proofs.Ytmagiabapakhcaa.Vm
