/- A part of the proofs about the chapter of the doors; it states no condition of its own. -/
import Derived.Test.YtmagiabapakhcaaB13
import Derived.Test.YtmagiabapakhcaaB21
import Derived.Test.YtmagiabapakhcaaB35
set_option linter.unusedVariables false
set_option linter.unusedSimpArgs false
open Int renaming reduceLE → zA, reduceLT → zB, reduceToNat → zC, reduceNeg → zD
open Nat renaming reduceLT → zE, reduceEqDiff → zF, reduceAdd → zG, reduceSub → zH, reduceMul → zI, reduceLeDiff → zJ
/- Flows to the last place: the same, with two places' names exchanged; and a search by the fewest steps. -/
namespace Go.Proofs.Ytmagiabapakhcaa
def tau (N i : Nat) : Nat := if i = 1 then N - 1 else if i = N - 1 then 1 else i
theorem tau_tau {N : Nat} (hN : 2 ≤ N) (i : Nat) : tau N (tau N i) = i := by
 unfold tau
 by_cases h1 : i = 1
 ·rw [if_pos h1]
  by_cases h2 : N - 1 = 1
  ·rw [if_pos h2]; omega
  ·rw [if_neg h2, if_pos rfl]; omega
 ·by_cases h2 : i = N - 1
  ·rw [if_neg h1, if_pos h2, if_pos rfl]; omega
  ·rw [if_neg h1, if_neg h2, if_neg h1, if_neg h2]
theorem tau_lt {N : Nat} (hN : 2 ≤ N) {i : Nat} (hi : i < N) : tau N i < N := by
 unfold tau
 split
 ·omega
 ·split <;> omega
theorem tau_inj {N : Nat} (hN : 2 ≤ N) {i j : Nat} (h : tau N i = tau N j) : i = j := by
 rw [← tau_tau hN i, h, tau_tau hN]
theorem tau_0 {N : Nat} (hN : 2 ≤ N) : tau N 0 = 0 := by unfold tau; rw [if_neg (by omega), if_neg (by omega)]
theorem tau_last {N : Nat} (hN : 2 ≤ N) : tau N (N - 1) = 1 := by
 unfold tau
 split
 ·omega
 ·rw [if_pos rfl]
def permT (N : Nat) (R : List (List Int)) : List (List Int) := (List.range N).map fun i => (List.range N).map fun j => at2 R (tau N i) (tau N j)
theorem permT_sq (N : Nat) (R : List (List Int)) : Sq N (permT N R) := ⟨by simp [permT], fun r hr => by
 obtain ⟨i, _, rfl⟩ := List.mem_map.1 hr
 simp⟩
theorem permT_at {N : Nat} (R : List (List Int)) {i j : Nat} (hi : i < N) (hj : j < N) : at2 (permT N R) i j = at2 R (tau N i) (tau N j) := by
 have e : (permT N R)[i]? = some ((List.range N).map fun j => at2 R (tau N i) (tau N j)) := by
  unfold permT
  rw [List.getElem?_map, List.getElem?_range hi]; rfl
 rw [at2, List.getD_eq_getElem?_getD (l := permT N R), e, Option.getD_some, List.getD_eq_getElem?_getD, List.getElem?_map, List.getElem?_range hj]; rfl
theorem sq_ext {N : Nat} {A B : List (List Int)} (ha : Sq N A) (hb : Sq N B) (h : ∀ i j, i < N → j < N → at2 A i j = at2 B i j) : A = B := by
 apply List.ext_getElem?
 intro i
 rcases Nat.lt_or_ge i N with q | q
 ·have la : i < A.length := by rw [ha.len]; exact q
  have lb : i < B.length := by rw [hb.len]; exact q
  rw [List.getElem?_eq_getElem la, List.getElem?_eq_getElem lb]
  congr 1
  apply List.ext_getElem?
  intro j
  have ra := ha.row _ (List.getElem_mem la)
  have rb := hb.row _ (List.getElem_mem lb)
  rcases Nat.lt_or_ge j N with q2 | q2
  ·have := h i j q q2
   unfold at2 at this
   rw [List.getD_eq_getElem?_getD (l := A), List.getD_eq_getElem?_getD (l := B), List.getElem?_eq_getElem la, List.getElem?_eq_getElem lb, Option.getD_some, Option.getD_some, List.getD_eq_getElem?_getD, List.getD_eq_getElem?_getD, List.getElem?_eq_getElem (by omega), List.getElem?_eq_getElem (by omega), Option.getD_some, Option.getD_some] at this
   rw [List.getElem?_eq_getElem (by omega), List.getElem?_eq_getElem (by omega), this]
  ·rw [List.getElem?_eq_none (by omega), List.getElem?_eq_none (by omega)]
 ·rw [List.getElem?_eq_none (by rw [ha.len]; exact q), List.getElem?_eq_none (by rw [hb.len]; exact q)]
theorem permT_upd {N : Nat} (hN : 2 ≤ N) {R : List (List Int)} (hs : Sq N R) {i j : Nat} (hi : i < N) (hj : j < N) (x : Int) : permT N (upd2 R i j x) = upd2 (permT N R) (tau N i) (tau N j) x := by
 refine sq_ext (permT_sq N _) ((permT_sq N R).upd (tau_lt hN hi) _ _) fun a b ha hb => ?_
 rw [permT_at _ ha hb, at2_upd hs hi hj, at2_upd (permT_sq N R) (tau_lt hN hi) (tau_lt hN hj), permT_at _ ha hb]
 have e : (i = tau N a ∧ j = tau N b) ↔ (tau N i = a ∧ tau N j = b) := by
  constructor
  ·rintro ⟨h1, h2⟩; rw [h1, h2, tau_tau hN, tau_tau hN]; exact ⟨rfl, rfl⟩
  ·rintro ⟨h1, h2⟩; rw [← h1, ← h2, tau_tau hN, tau_tau hN]; exact ⟨rfl, rfl⟩
 by_cases h : i = tau N a ∧ j = tau N b
 ·rw [if_pos h, if_pos (e.1 h)]
 ·rw [if_neg h, if_neg (fun q => h (e.2 q))]
structure Bfs (N : Nat) (R : List (List Int)) (q : List Nat) (fr : List Int) : Prop where
 len : fr.length = N
 q0 : q[0]? = some 0
 lt : ∀ x ∈ q, x < N
 nd : q.Nodup
 out : ∀ v, v < N → v ∉ q → fr.getD v 0 = -1
 inn : ∀ v, v ∈ q → v ≠ 0 → 0 ≤ fr.getD v 0
 par : ∀ k x, q[k]? = some x → k ≠ 0 → ∃ (l y : Nat), l < k ∧ q[l]? = some y ∧ fr.getD x 0 = (y : Int) ∧ 0 < at2 R y x
theorem Bfs.start {N : Nat} (hN : 2 ≤ N) (R : List (List Int)) : Bfs N R [0] (List.replicate N (-1)) := by
 refine ⟨by simp, rfl, by simp; omega, by simp, fun v hv _ => ?_, fun v hv h0 => ?_, fun k x hk h0 => ?_⟩
 ·rw [List.getD_eq_getElem?_getD, List.getElem?_replicate, if_pos hv]; rfl
 ·simp at hv; exact absurd hv h0
 ·rcases k with _ | k
  ·exact absurd rfl h0
  ·simp at hk
theorem Bfs.zero {N : Nat} {R : List (List Int)} {q : List Nat} {fr : List Int} (h : Bfs N R q fr) : 0 ∈ q := List.mem_of_getElem? h.q0
theorem Bfs.add {N : Nat} {R : List (List Int)} {q : List Nat} {fr : List Int} (h : Bfs N R q fr) {i v x : Nat} (hi : q[i]? = some x) (hv : v < N) (hnv : v ∉ q) (hp : 0 < at2 R x v) : Bfs N R (q ++ [v]) (fr.set v (x : Int)) := by
 have hil : i < q.length := (List.getElem?_eq_some_iff.1 hi).1
 have ne : ∀ w, w ∈ q → v ≠ w := fun w hw e => hnv (e ▸ hw)
 have gd : ∀ w, v ≠ w → (fr.set v (x : Int)).getD w 0 = fr.getD w 0 := fun w e => by rw [List.getD_eq_getElem?_getD, List.getElem?_set_ne e, ← List.getD_eq_getElem?_getD]
 have gv : (fr.set v (x : Int)).getD v 0 = (x : Int) := by rw [List.getD_eq_getElem?_getD, List.getElem?_set_self (by rw [h.len]; exact hv)]; rfl
 refine ⟨by rw [List.length_set]; exact h.len, ?_, fun y hy => ?_, ?_, fun w hw hn => ?_, fun w hw h0 => ?_, fun k y hk h0 => ?_⟩
 ·rw [List.getElem?_append_left (by omega)]; exact h.q0
 ·rcases List.mem_append.1 hy with hy | hy
  ·exact h.lt y hy
  ·rw [List.mem_singleton] at hy; omega
 ·rw [List.nodup_append]
  refine ⟨h.nd, by simp, fun a ha b hb => ?_⟩
  rw [List.mem_singleton] at hb
  rw [hb]
  exact fun e => ne a ha e.symm
 ·rw [List.mem_append, List.mem_singleton] at hn
  rw [gd w (fun e => hn (.inr e.symm))]
  exact h.out w hw (fun q => hn (.inl q))
 ·rcases List.mem_append.1 hw with hw | hw
  ·rw [gd w (ne w hw)]; exact h.inn w hw h0
  ·rw [List.mem_singleton] at hw
   rw [hw, gv]; omega
 ·rcases Nat.lt_or_ge k q.length with hkl | hkl
  ·rw [List.getElem?_append_left hkl] at hk
   obtain ⟨l, z, h1, h2, h3, h4⟩ := h.par k y hk h0
   refine ⟨l, z, h1, ?_, ?_, h4⟩
   ·rw [List.getElem?_append_left (by omega)]; exact h2
   ·rw [gd y (ne y (List.mem_of_getElem? hk))]; exact h3
  ·rw [List.getElem?_append_right hkl] at hk
   have hk0 : k - q.length = 0 := by
    rcases Nat.eq_zero_or_pos (k - q.length) with e | e
    ·exact e
    ·rw [List.getElem?_eq_none (by simp; omega)] at hk; cases hk
   rw [hk0] at hk
   simp at hk
   subst hk
   refine ⟨i, x, by omega, ?_, gv, hp⟩
   rw [List.getElem?_append_left hil]; exact hi
inductive Low (R : List (List Int)) (q : List Nat) (fr : List Int) (n : Int) : Nat → Prop
 | zero : Low R q fr n 0
 | step {k l x y : Nat} (hl : l < k) (hk : q[k]? = some x) (hy : q[l]? = some y) (hf : fr.getD x 0 = (y : Int)) (hn : n ≤ at2 R y x) (h : Low R q fr n l) : Low R q fr n k
theorem nodup_pos {q : List Nat} (h : q.Nodup) {i j x : Nat} (hi : q[i]? = some x) (hj : q[j]? = some x) : i = j := by
 obtain ⟨a, b⟩ := List.getElem?_eq_some_iff.1 hi
 obtain ⟨c, d⟩ := List.getElem?_eq_some_iff.1 hj
 exact (List.getElem_inj h).1 (b.trans d.symm)
structure Bak (N : Nat) (R : List (List Int)) (q : List Nat) (k : Nat) (x : Nat) (n : Int) (R1 : List (List Int)) : Prop where
 sq : Sq N R1
 aug : Aug N (permT N R) (permT N R1) (tau N x) n
 far : ∀ a b, at2 R1 a b ≠ at2 R a b → (∃ i, k ≤ i ∧ q[i]? = some a) ∧ ∃ i, k ≤ i ∧ q[i]? = some b
theorem Bak.step {N : Nat} (hN : 2 ≤ N) {R : List (List Int)} (hs : Sq N R) {q : List Nat} {fr : List Int} (B : Bfs N R q fr) {k l x y : Nat} {n : Int} {R1 : List (List Int)} (h : Bak N R q k x n R1) (hk : q[k]? = some x) (hl : l < k) (hy : q[l]? = some y) (hn : n ≤ at2 R y x) (hn0 : 0 ≤ n) (hlast : ∀ i, q[i]? = some (N - 1) → k ≤ i) :
  Bak N R q l y n (upd2 (upd2 R1 y x (at2 R1 y x - n)) x y (at2 R1 x y + n)) ∧ at2 R1 y x = at2 R y x := by
 have hx := B.lt x (List.mem_of_getElem? hk)
 have hyl := B.lt y (List.mem_of_getElem? hy)
 have hny : ∀ i, k ≤ i → q[i]? ≠ some y := fun i hi e => by
  have := nodup_pos B.nd e hy
  omega
 have row : ∀ j, at2 R1 y j = at2 R y j := fun j => by
  rcases Classical.em (at2 R1 y j = at2 R y j) with e | e
  ·exact e
  ·obtain ⟨i, h1, h2⟩ := (h.far y j e).1
   exact absurd h2 (hny i h1)
 have hne : y ≠ x := fun e => hny k (Nat.le_refl _) (by rw [e]; exact hk)
 have hy1 : tau N y ≠ 1 := fun e => by
  have : y = N - 1 := tau_inj hN (by rw [e, tau_last hN])
  have := hlast l (by rw [hy, this])
  omega
 have e1 : permT N (upd2 (upd2 R1 y x (at2 R1 y x - n)) x y (at2 R1 x y + n)) = upd2 (upd2 (permT N R1) (tau N y) (tau N x) (at2 (permT N R1) (tau N y) (tau N x) - n)) (tau N x) (tau N y) (at2 (permT N R1) (tau N x) (tau N y) + n) := by
  rw [permT_upd hN (h.sq.upd hyl x _) hx hyl, permT_upd hN h.sq hyl hx, permT_at _ (tau_lt hN hyl) (tau_lt hN hx), permT_at _ (tau_lt hN hx) (tau_lt hN hyl), tau_tau hN, tau_tau hN]
 refine ⟨⟨(h.sq.upd hyl x _).upd hx y _, ?_, fun a b hab => ?_⟩, row x⟩
 ·rw [e1]
  refine Aug.step (permT_sq N R) (tau_lt hN hyl) (tau_lt hN hx) (fun e => hne (tau_inj hN e)) h.aug ?_ hn0 ?_ ?_ hy1
  ·rw [permT_at _ (tau_lt hN hyl) (tau_lt hN hx), tau_tau hN, tau_tau hN]; exact hn
  ·rw [permT_at _ (tau_lt hN hyl) (tau_lt hN hx), permT_at _ (tau_lt hN hyl) (tau_lt hN hx), tau_tau hN, tau_tau hN]; exact row x
  ·refine sumTo_congr fun j hj => ?_
   rw [permT_at _ (tau_lt hN hyl) hj, permT_at _ (tau_lt hN hyl) hj, tau_tau hN]; exact row _
 ·rw [at2_upd (h.sq.upd hyl x _) hx hyl, at2_upd h.sq hyl hx] at hab
  split at hab
  ·rename_i e
   rw [← e.1, ← e.2]
   exact ⟨⟨k, by omega, hk⟩, l, Nat.le_refl _, hy⟩
  ·split at hab
   ·rename_i e
    rw [← e.1, ← e.2]
    exact ⟨⟨l, Nat.le_refl _, hy⟩, k, by omega, hk⟩
   ·obtain ⟨⟨i, a1, a2⟩, j, b1, b2⟩ := h.far a b hab
    exact ⟨⟨i, by omega, a2⟩, j, by omega, b2⟩
theorem Bak.start {N : Nat} (hN : 2 ≤ N) {R : List (List Int)} (hs : Sq N R) (hnn : ∀ i j, i < N → j < N → 0 ≤ at2 R i j) (q : List Nat) (k : Nat) (n : Int) : Bak N R q k (N - 1) n R := by
 refine ⟨hs, ?_, fun a b h => absurd rfl h⟩
 rw [tau_last hN]
 exact ⟨permT_sq N R, fun i j hi hj => by rw [permT_at _ hi hj]; exact hnn _ _ (tau_lt hN hi) (tau_lt hN hj), fun _ _ _ _ => rfl, fun i _ h1 => by rw [if_neg h1]; omega⟩
structure Psh (N : Nat) (R : List (List Int)) (k : Int) (R' : List (List Int)) : Prop where
 k0 : 0 ≤ k
 sq : Sq N R'
 none : k = 0 → R' = R ∧ ∃ S : Nat → Bool, S 0 = true ∧ S (N - 1) = false ∧ ∀ i j, i < N → j < N → S i = true → S j = false → at2 R i j ≤ 0
 some : k ≠ 0 → Aug N (permT N R) (permT N R') 0 k
end Go.Proofs.Ytmagiabapakhcaa

/- What holds behind a piece of code. (Vm) -/
namespace Go.Proofs.Ytmagiabapakhcaa.Vm
open Go
theorem W_then {P : Program} {cx : Cx} {e : Env} {M : Mem} {D : List Nat} {Q : PQ} {c : Code} {Kn : Env → Mem → List Nat → Prop} (E : Env) (M1 : Mem) (h1 : WCode P cx c e M D (fun ex e' M' D' => ex = .normal ∧ D' = D ∧ M' = M1 ∧ Sub E e')) (h2 : ∀ e', Sub E e' → Kn e' M1 D) : WCode P cx c e M D (thenQ Kn Q) :=
 h1.mono (by rintro ex e' M' D' ⟨rfl, rfl, rfl, hS⟩; exact h2 e' hS)
end Go.Proofs.Ytmagiabapakhcaa.Vm

/- The reference's search for a way, on values. (Vm) -/
namespace Go.Proofs.Ytmagiabapakhcaa.Vm
open Go Go.Proofs
structure RM (H : List VObj) (N lb rid : Nat) : Prop where
 hlb : H[lb]? = some (.obj ((List.range N).map fun i => .bf (rid + i) 0 N 1))
 r1 : rid + N ≤ H.length
 ob : lb < rid ∨ rid + N ≤ lb
abbrev qP (q : List Nat) : List (List PV) := q.map fun x : Nat => intP (x : Int)
def qvOf (n : Nat) (q : List Nat) : VV := if q.length = 1 then .sf 1 (qP q) else .so (n + 1) 1 (qP q)
def jqOf (q : List Nat) : List VObj := if q.length = 1 then [] else [.clm q.length 1]
theorem nodup_len : ∀ (N : Nat) (q : List Nat), q.Nodup → (∀ x ∈ q, x < N) → q.length ≤ N
 | 0, q, _, h => by
  cases q with
  | nil => exact Nat.le_refl _
  | cons x q => exact absurd (h x (by simp)) (Nat.not_lt_zero _)
 | N + 1, q, hd, h => by
  by_cases hm : N ∈ q
  ·have h1 := nodup_len N (q.erase N) (hd.erase N) fun x hx => by
    have h2 := h x (List.mem_of_mem_erase hx)
    have h3 : x ≠ N := fun e => by rw [e] at hx; exact (List.Nodup.not_mem_erase hd) hx
    omega
   rw [List.length_erase_of_mem hm] at h1
   omega
  ·have h1 := nodup_len N q hd fun x hx => by
    have h2 := h x hx
    have h3 : x ≠ N := fun e => hm (e ▸ hx)
    omega
   omega
structure BfSt where
 i : Nat
 q : List Nat
 fr : List Int
 v : Nat
structure PaSt where
 k : Nat
 x : Nat
 n : Int
structure PbSt where
 k : Nat
 x : Nat
 R : List (List Int)
def frTo (N i : Nat) : List Int := List.replicate i (-1) ++ List.replicate (N - i) 0
theorem frTo_set {N i : Nat} (h : i < N) : (frTo N i).set i (-1) = frTo N (i + 1) := by
 unfold frTo
 rw [List.set_append_right _ _ (by simp), List.length_replicate, Nat.sub_self, show N - i = (N - (i + 1)) + 1 by omega, List.replicate_succ, List.set_cons_zero, show i + 1 = i + 1 from rfl, List.replicate_succ', List.append_assoc]
 rfl
theorem own_retR {f : Nat} {fn : Func} {H : List VObj} {rid : Nat} {R R' : List (List Int)} {lg : List (Nat × Nat)} {Q : VV → Mem → Prop} {e : Env} {t : Nat} {k : Int} {L : List VObj} (h1 : fn.results.toList = [.tmp t]) (hr : get e t = vi k) (hq : Q (vi k) ⟨setRows H rid R', lg⟩) : ownQ T f fn ⟨setRows H rid R, lg⟩ Q .ret e ⟨setRows H rid R' ++ L, lg⟩ [] := by
 refine ⟨.inr rfl, rfl, ⟨[], by simp, by simp⟩, setRows H rid R', L, rfl, by rw [setRows_len, setRows_len], [vi k], ?_, vi k, rfl, by simp [refs], hq⟩
 rw [h1]
 simp [vresL, hr]
set_option maxHeartbeats 4000000 in
set_option maxRecDepth 8000 in
theorem push_r {H : List VObj} {N lb rid : Nat} (PQ : RM H N lb rid) (hN : 2 ≤ N) (hN2 : N ≤ 1000000) (lg : List (Nat × Nat)) (R : List (List Int)) (hs : Sq N R) (hnn : ∀ i j, i < N → j < N → 0 ≤ at2 R i j) (hbd : ∀ i j, i < N → j < N → at2 R i j + at2 R j i ≤ 1125899906842624) :
  VC Try.prog 108 [.bf lb 0 N 1] ⟨setRows H rid R, lg⟩ (fun r M' => ∃ k R', r = vi k ∧ M' = ⟨setRows H rid R', lg⟩ ∧ Psh N R k R') := by
 have tb : ∀ (R : List (List Int)) (L : List VObj), R.length = N → (setRows H rid R ++ L)[lb]? = some (.obj ((List.range N).map fun i => .bf (rid + i) 0 N 1)) := fun R L hl => get_app ((setRows_other (H := H) R rid lb (by rw [hl]; exact PQ.ob)).trans PQ.hlb)
 have rg : ∀ (R : List (List Int)) (L : List VObj) (i : Nat), R.length = N → i < N → (setRows H rid R ++ L)[rid + i]? = some (.obj ((R.getD i []).map vi)) := fun R L i hl hi => get_app (setRows_get R rid i (by rw [hl]; exact PQ.r1) (by omega))
 have rs : ∀ (R : List (List Int)) (L : List VObj) (i : Nat) (r : List Int), R.length = N → i < N → (setRows H rid R ++ L).set (rid + i) (.obj (r.map vi)) = setRows H rid (R.set i r) ++ L := fun R L i r hl hi => by
  rw [List.set_append_left _ _ (by rw [setRows_len]; have := PQ.r1; omega), setRows_set R rid i r (by omega)]
 have g0 : ∀ (R : List (List Int)) (X : VObj) (L : List VObj), (setRows H rid R ++ X :: L)[H.length]? = some X := fun R X L => by
  rw [List.getElem?_append_right (by rw [setRows_len]; exact Nat.le_refl _), setRows_len, Nat.sub_self]; rfl
 have g1 : ∀ (R : List (List Int)) (X Y : VObj) (L : List VObj), (setRows H rid R ++ X :: Y :: L)[H.length + 1]? = some Y := fun R X Y L => by
  rw [List.getElem?_append_right (by rw [setRows_len]; omega), setRows_len, Nat.add_sub_cancel_left]; rfl
 have s0 : ∀ (R : List (List Int)) (X : VObj) (L : List VObj) (o : VObj), (setRows H rid R ++ X :: L).set H.length o = setRows H rid R ++ o :: L := fun R X L o => by
  rw [List.set_append_right _ _ (by rw [setRows_len]; exact Nat.le_refl _), setRows_len, Nat.sub_self]; rfl
 have s1 : ∀ (R : List (List Int)) (X Y : VObj) (L : List VObj) (o : VObj), (setRows H rid R ++ X :: Y :: L).set (H.length + 1) o = setRows H rid R ++ X :: o :: L := fun R X Y L o => by
  rw [List.set_append_right _ _ (by rw [setRows_len]; omega), setRows_len, Nat.add_sub_cancel_left]; rfl
 have hRl : R.length = N := hs.len
 have k0 : -9223372036854775808 ≤ (N : Int) - 1 ∧ (N : Int) - 1 < 9223372036854775808 := by omega
 have kl : (N : Int) - 1 = ((N - 1 : Nat) : Int) := by omega
 have m1 : (N * 8 ≤ 140737488355328) = True := eq_true (by omega)
 have m2 : (N ≤ 9223372036854775807) = True := eq_true (by omega)
 refine VC_own' T_ok (f := 108) (fn := Try.f108) (by kernel_rfl) rfl Try.ntmps108 (by rfl) (by rfl) ?_
 ((repeat refine Ws ?_);refine Wr ?_)
 simp (maxSteps := 1000000) only [VL,VM,↓VG,reduceIte,reduceCtorEq,zA,zB,zC,zD,zE,zF,zG,zH,zI,zJ]
 ((repeat refine Ws ?_);refine Wr ?_)
 simp (maxSteps := 1000000) only [VL,VM,↓VG,reduceIte,reduceCtorEq,zA,zB,zC,zD,zE,zF,zG,zH,zI,zJ, k0]
 rw [kl]
 ((repeat refine Ws ?_);refine Wr ?_)
 simp (maxSteps := 1000000) only [VL,VM,↓VG,reduceIte,reduceCtorEq,zA,zB,zC,zD,zE,zF,zG,zH,zI,zJ, m1, m2, rep_flat, setRows_len]
 ((repeat refine Ws ?_);refine Wr ?_)
 simp (maxSteps := 1000000) only [VL,VM,↓VG,reduceIte,reduceCtorEq,zA,zB,zC,zD,zE,zF,zG,zH,zI,zJ]
 have z0 : List.replicate N (vi 0) = (frTo N 0).map vi := by simp [frTo]
 rw [z0]
 ((repeat refine Ws ?_);refine W_block ?_; (repeat refine Ws ?_)); refine W_loopS (fun i : Nat => [(0, .bf lb 0 N 1), (3, vi ((N - 1 : Nat) : Int)), (4, .bf H.length 0 N 1), (5, vi i)]) (fun i => ⟨setRows H rid R ++ [.obj ((frTo N i).map vi)], lg⟩) (fun i => N - i) (fun i => i ≤ N) 0 (Nat.zero_le _) ⟨rfl, rfl, rfl, rfl, trivial⟩ rfl ?_
 intro i hi
 have k1 : -9223372036854775808 ≤ (i : Int) + 1 ∧ (i : Int) + 1 < 9223372036854775808 := by omega
 ((repeat refine Ws ?_);refine Wr ?_)
 rcases Nat.lt_or_ge i N with hlt | hge
 ·have k2 : ((i : Int) < (N : Int)) = True := eq_true (by omega)
  have k3 : (i < N) = True := eq_true hlt
  have hfl : (frTo N i).length = N := by simp [frTo]; omega
  have k4 : (i + 1 ≤ (frTo N i).length) = True := eq_true (by omega)
  have sp : List.map vi (List.take i (frTo N i)) ++ vi (-1) :: List.map vi (List.drop (i + 1) (frTo N i)) = List.map vi (frTo N (i + 1)) := by
   rw [← frTo_set hlt, List.set_eq_take_append_cons_drop, if_pos (by omega)]
   simp
  simp (maxSteps := 1000000) only [VL,VM,↓VG,reduceIte,reduceCtorEq,zA,zB,zC,zD,zE,zF,zG,zH,zI,zJ, k2]
  ((repeat refine Ws ?_);refine Wt (by first|rfl|simp only [EV,zF,reduceIte]) ?_)
  ((repeat refine Ws ?_);refine W_skip ?_)
  simp (maxSteps := 1000000) only [VL,VM,↓VG,reduceIte,reduceCtorEq,zA,zB,zC,zD,zE,zF,zG,zH,zI,zJ]
  ((repeat refine Ws ?_);refine W_block ?_)
  ((repeat refine Ws ?_);refine Wr ?_)
  simp (maxSteps := 1000000) only [VL,VM,↓VG,reduceIte,reduceCtorEq,zA,zB,zC,zD,zE,zF,zG,zH,zI,zJ, k3, k4, g0, s0, sp]
  ((repeat refine Ws ?_);refine Wr ?_)
  simp (maxSteps := 1000000) only [VL,VM,↓VG,reduceIte,reduceCtorEq,zA,zB,zC,zD,zE,zF,zG,zH,zI,zJ, k1]
  refine LoopK.mk (i + 1) (by omega) (by omega) ⟨rfl, rfl, rfl, rfl, trivial⟩ rfl
 have k2 : ((i : Int) < (N : Int)) = False := eq_false (by omega)
 have hi3 : N = i := by omega
 subst hi3
 simp (maxSteps := 1000000) only [VL,VM,↓VG,reduceIte,reduceCtorEq,zA,zB,zC,zD,zE,zF,zG,zH,zI,zJ, k2]
 ((repeat refine Ws ?_);refine Wf (by first|rfl|simp only [EV,zF,reduceIte]) ?_)
 ((repeat refine Ws ?_);refine W_exit ?_)
 simp (maxSteps := 1000000) only [VL,VM,↓VG,reduceIte,reduceCtorEq,zA,zB,zC,zD,zE,zF,zG,zH,zI,zJ]
 clear hge k1 k2 hi z0
 have zN : frTo N N = List.replicate N (-1) := by simp [frTo]
 rw [zN]
 ((repeat refine Ws ?_);refine Wr ?_)
 simp (maxSteps := 1000000) only [VL,VM,↓VG,reduceIte,reduceCtorEq,zA,zB,zC,zD,zE,zF,zG,zH,zI,zJ]
 ((repeat refine Ws ?_);refine Wr ?_)
 simp (maxSteps := 1000000) only [VL,VM,↓VG,reduceIte,reduceCtorEq,zA,zB,zC,zD,zE,zF,zG,zH,zI,zJ]
 have B0 := Bfs.start hN R
 have hlastN : N - 1 < N := by omega
 have klt : (N - 1 < N) = True := eq_true hlastN
 have zq : VV.sf 1 [[PV.int .i64 0]] = qvOf H.length [0] := rfl
 ((repeat refine Ws ?_);refine W_block ?_; (repeat refine Ws ?_)); refine W_loopS (fun s : BfSt => [(0, .bf lb 0 N 1), (3, vi ((N - 1 : Nat) : Int)), (4, .bf H.length 0 N 1), (6, qvOf H.length s.q), (7, vi s.i)]) (fun s => ⟨setRows H rid R ++ (.obj (s.fr.map vi) :: jqOf s.q), lg⟩) (fun s => N - s.i) (fun s => s.i ≤ s.q.length ∧ Bfs N R s.q s.fr ∧ ∀ l x, l < s.i → s.q[l]? = some x → ∀ w, 1 ≤ w → w < N → 0 < at2 R x w → w ∈ s.q) ⟨0, [0], List.replicate N (-1), 0⟩ ⟨Nat.zero_le _, B0, fun l x hl => absurd hl (Nat.not_lt_zero _)⟩ ⟨rfl, rfl, rfl, rfl, rfl, trivial⟩ rfl ?_
 clear B0 zN
 rintro ⟨i, q, fr, _⟩ ⟨hi, B, hpr⟩
 simp only at hi B hpr
 have hql := nodup_len N q B.nd B.lt
 have k1 : -9223372036854775808 ≤ (i : Int) + 1 ∧ (i : Int) + 1 < 9223372036854775808 := by omega
 have hfl : fr[N - 1]? = some (fr.getD (N - 1) 0) := by rw [List.getD_eq_getElem?_getD, List.getElem?_eq_getElem (by rw [B.len]; omega)]; rfl
 have hfl' := map_at (f := vi) hfl
 by_cases hgo : i < q.length ∧ fr.getD (N - 1) 0 < 0
 rotate_left
 ·(repeat refine Ws ?_)
  refine W_then [(0, .bf lb 0 N 1), (3, vi ((N - 1 : Nat) : Int)), (4, .bf H.length 0 N 1), (6, qvOf H.length q), (7, vi i), (38, vb false)] ⟨setRows H rid R ++ (.obj (fr.map vi) :: jqOf q), lg⟩ ?_ ?_
  ·rcases Nat.lt_or_ge i q.length with hlt | hge
   ·have k2 : ((i : Int) < (q.length : Int)) = True := eq_true (by omega)
    have k3 : (fr.getD (N - 1) 0 < 0) = False := eq_false (fun h => hgo ⟨hlt, h⟩)
    by_cases q1 : q.length = 1
    ·have e1 : qvOf H.length q = .sf 1 (qP q) := if_pos q1
     have e2 : jqOf q = [] := if_pos q1
     rw [e1, e2]
     ((repeat refine Ws ?_);refine Wr ?_)
     simp (maxSteps := 1000000) only [VL,VM,↓VG,reduceIte,reduceCtorEq,zA,zB,zC,zD,zE,zF,zG,zH,zI,zJ, k2, k3, klt, g0, hfl']
     exact ⟨rfl, rfl, rfl, rfl, rfl, rfl, trivial⟩
    ·have e1 : qvOf H.length q = .so (H.length + 1) 1 (qP q) := if_neg q1
     have e2 : jqOf q = [.clm q.length 1] := if_neg q1
     rw [e1, e2]
     ((repeat refine Ws ?_);refine Wr ?_)
     simp (maxSteps := 1000000) only [VL,VM,↓VG,reduceIte,reduceCtorEq,zA,zB,zC,zD,zE,zF,zG,zH,zI,zJ, k2, k3, klt, g0, hfl']
     exact ⟨rfl, rfl, rfl, rfl, rfl, rfl, trivial⟩
   ·have k2 : ((i : Int) < (q.length : Int)) = False := eq_false (by omega)
    by_cases q1 : q.length = 1
    ·have e1 : qvOf H.length q = .sf 1 (qP q) := if_pos q1
     have e2 : jqOf q = [] := if_pos q1
     rw [e1, e2]
     ((repeat refine Ws ?_);refine Wr ?_)
     simp (maxSteps := 1000000) only [VL,VM,↓VG,reduceIte,reduceCtorEq,zA,zB,zC,zD,zE,zF,zG,zH,zI,zJ, k2]
     exact ⟨rfl, rfl, rfl, rfl, rfl, rfl, trivial⟩
    ·have e1 : qvOf H.length q = .so (H.length + 1) 1 (qP q) := if_neg q1
     have e2 : jqOf q = [.clm q.length 1] := if_neg q1
     rw [e1, e2]
     ((repeat refine Ws ?_);refine Wr ?_)
     simp (maxSteps := 1000000) only [VL,VM,↓VG,reduceIte,reduceCtorEq,zA,zB,zC,zD,zE,zF,zG,zH,zI,zJ, k2]
     exact ⟨rfl, rfl, rfl, rfl, rfl, rfl, trivial⟩
  intro e' hS
  refine WCode.weak (e' := [(0, .bf lb 0 N 1), (3, vi ((N - 1 : Nat) : Int)), (4, .bf H.length 0 N 1), (38, vb false)]) ?_ (Sub.ok ⟨hS.1, hS.2.1, hS.2.2.1, hS.2.2.2.2.2.1, trivial⟩)
  ((repeat refine Ws ?_);refine Wf (by first|rfl|simp only [EV,zF,reduceIte]) ?_)
  ((repeat refine Ws ?_);refine W_exit ?_)
  simp (maxSteps := 1000000) only [VL,VM,↓VG,reduceIte,reduceCtorEq,zA,zB,zC,zD,zE,zF,zG,zH,zI,zJ]
  have hlast : ∀ h0 : 0 ≤ fr.getD (N - 1) 0, N - 1 ∈ q := fun h0 => by
   rcases Classical.em (N - 1 ∈ q) with h | h
   ·exact h
   ·have := B.out _ hlastN h
    omega
  ((repeat refine Ws ?_);refine Wr ?_)
  by_cases hneg : fr.getD (N - 1) 0 < 0
  ·have k3 : (fr.getD (N - 1) 0 < 0) = True := eq_true hneg
   have hiq : i = q.length := by omega
   simp (maxSteps := 1000000) only [VL,VM,↓VG,reduceIte,reduceCtorEq,zA,zB,zC,zD,zE,zF,zG,zH,zI,zJ, klt, g0, hfl', k3]
   ((repeat refine Ws ?_);refine Wt (by first|rfl|simp only [EV,zF,reduceIte]) ?_)
   ((repeat refine Ws ?_);refine Wr ?_)
   simp (maxSteps := 1000000) only [VL,VM,↓VG,reduceIte,reduceCtorEq,zA,zB,zC,zD,zE,zF,zG,zH,zI,zJ]
   (repeat refine Ws ?_)
   refine W_ret ?_
   try simp only [thenQ, blockQ]
   refine own_retR rfl rfl ⟨0, R, rfl, rfl, Int.le_refl _, hs, fun _ => ⟨rfl, fun v => decide (v ∈ q), by simpa using B.zero, ?_, fun a b ha hb h1 h2 => ?_⟩, fun h => absurd rfl h⟩
   ·simp only [decide_eq_false_iff_not]
    intro h
    have := B.inn _ h (by omega)
    omega
   ·simp only [decide_eq_true_eq, decide_eq_false_iff_not] at h1 h2
    obtain ⟨l, hl, e⟩ := List.getElem_of_mem h1
    have hb0 : b ≠ 0 := fun e => h2 (e ▸ B.zero)
    refine Int.not_lt.1 fun hp => h2 (hpr l a (by omega) ?_ b (by omega) hb hp)
    rw [List.getElem?_eq_getElem hl, e]
  have k3 : (fr.getD (N - 1) 0 < 0) = False := eq_false hneg
  simp (maxSteps := 1000000) only [VL,VM,↓VG,reduceIte,reduceCtorEq,zA,zB,zC,zD,zE,zF,zG,zH,zI,zJ, klt, g0, hfl', k3]
  ((repeat refine Ws ?_);refine Wf (by first|rfl|simp only [EV,zF,reduceIte]) ?_)
  ((repeat refine Ws ?_);refine W_skip ?_)
  simp (maxSteps := 1000000) only [VL,VM,↓VG,reduceIte,reduceCtorEq,zA,zB,zC,zD,zE,zF,zG,zH,zI,zJ]
  obtain ⟨K, hK⟩ : ∃ K, q[K]? = some (N - 1) := by
   obtain ⟨l, hl, e⟩ := List.getElem_of_mem (hlast (by omega))
   exact ⟨l, by rw [List.getElem?_eq_getElem hl, e]⟩
  -- a step back
  have back : ∀ k x, q[k]? = some x → x ≠ 0 → ∃ (l y : Nat), l < k ∧ q[l]? = some y ∧ fr.getD x 0 = (y : Int) ∧ 0 < at2 R y x ∧ x < N ∧ y < N ∧ fr[x]? = some (y : Int) := fun k x hk hx0 => by
   have hk0 : k ≠ 0 := fun e => by
    subst e
    rw [B.q0] at hk
    cases hk
    exact hx0 rfl
   obtain ⟨l, y, h1, h2, h3, h4⟩ := B.par k x hk hk0
   have hx := B.lt x (List.mem_of_getElem? hk)
   refine ⟨l, y, h1, h2, h3, h4, hx, B.lt y (List.mem_of_getElem? h2), ?_⟩
   rw [← h3, List.getD_eq_getElem?_getD, List.getElem?_eq_getElem (by rw [B.len]; exact hx)]; rfl
  have cell : ∀ (R : List (List Int)), Sq N R → ∀ a b, a < N → b < N → (List.map vi (R.getD a []))[b]? = some (vi (at2 R a b)) := fun R hs a b ha hb => by
   have := hs.rowlen ha
   rw [List.getElem?_map, List.getElem?_eq_getElem (by omega)]
   unfold at2
   rw [List.getD_eq_getElem?_getD (l := R.getD a []), List.getElem?_eq_getElem (by omega)]
   rfl
  have rowv : ∀ a, a < N → (List.map (fun i => VV.bf (rid + i) 0 N 1) (List.range N))[a]? = some (.bf (rid + a) 0 N 1) := fun a ha => by simp [ha]
  obtain ⟨l, y, h1, h2, h3, h4, h5, h6, h7⟩ := back K (N - 1) hK (by omega)
  have h7' := map_at (f := vi) h7
  ((repeat refine Ws ?_);refine Wr ?_)
  simp (maxSteps := 1000000) only [VL,VM,↓VG,reduceIte,reduceCtorEq,zA,zB,zC,zD,zE,zF,zG,zH,zI,zJ, klt, g0, h7', tb R _ hRl, rowv y h6, eq_true h6, rg R _ y hRl h6, cell R hs y (N - 1) h6 hlastN]
  ((repeat refine Ws ?_);refine Wr ?_)
  simp (maxSteps := 1000000) only [VL,VM,↓VG,reduceIte,reduceCtorEq,zA,zB,zC,zD,zE,zF,zG,zH,zI,zJ]
  have n0 : 0 < at2 R y (N - 1) ∧ at2 R y (N - 1) ≤ 1125899906842624 := by
   have := hbd y (N - 1) h6 hlastN
   have := hnn (N - 1) y hlastN h6
   omega
  ((repeat refine Ws ?_);refine W_block ?_; (repeat refine Ws ?_)); refine W_loopS (fun s : PaSt => [(0, .bf lb 0 N 1), (3, vi ((N - 1 : Nat) : Int)), (4, .bf H.length 0 N 1), (9, vi s.n), (10, vi s.x)]) (fun _ => ⟨setRows H rid R ++ (.obj (fr.map vi) :: jqOf q), lg⟩) (fun s => s.k) (fun s => q[s.k]? = some s.x ∧ 0 < s.n ∧ s.n ≤ 1125899906842624 ∧ ∀ m, m ≤ s.n → Low R q fr m s.k → Low R q fr m K) ⟨K, N - 1, at2 R y (N - 1)⟩ ⟨hK, n0.1, n0.2, fun _ _ h => h⟩ ⟨rfl, rfl, rfl, rfl, rfl, trivial⟩ rfl ?_
  clear n0 h1 h2 h3 h4 h5 h6 h7 h7' l y
  rintro ⟨k, x, n⟩ ⟨hk, n0, n1, hlow⟩
  simp only at hk n0 n1 hlow
  ((repeat refine Ws ?_);refine Wr ?_)
  by_cases hx0 : x = 0
  rotate_left
  ·have e0 : ((x : Int) = 0) = False := eq_false (by omega)
   obtain ⟨l, y, h1, h2, h3, h4, h5, h6, h7⟩ := back k x hk hx0
   have h7' := map_at (f := vi) h7
   have hb := hbd y x h6 h5
   have hb2 := hnn x y h5 h6
   simp (maxSteps := 1000000) only [VL,VM,↓VG,reduceIte,reduceCtorEq,zA,zB,zC,zD,zE,zF,zG,zH,zI,zJ, e0]
   ((repeat refine Ws ?_);refine Wt (by first|rfl|simp only [EV,zF,reduceIte]) ?_)
   ((repeat refine Ws ?_);refine W_skip ?_)
   simp (maxSteps := 1000000) only [VL,VM,↓VG,reduceIte,reduceCtorEq,zA,zB,zC,zD,zE,zF,zG,zH,zI,zJ]
   ((repeat refine Ws ?_);refine W_block ?_)
   ((repeat refine Ws ?_);refine Wr ?_)
   simp (maxSteps := 1000000) only [VL,VM,↓VG,reduceIte,reduceCtorEq,zA,zB,zC,zD,zE,zF,zG,zH,zI,zJ, eq_true h5, g0, h7', tb R _ hRl, rowv y h6, eq_true h6, rg R _ y hRl h6, cell R hs y x h6 h5]
   ((repeat refine Ws ?_);refine Wr ?_)
   simp (maxSteps := 1000000) only [VL,VM,↓VG,reduceIte,reduceCtorEq,zA,zB,zC,zD,zE,zF,zG,zH,zI,zJ, eq_true h5, g0, h7']
   refine LoopK.mk ⟨l, y, min n (at2 R y x)⟩ (by simp only; omega) ⟨h2, by simp only; omega, by simp only; omega, fun m hm hL => hlow m (by simp only at hm; omega) (.step h1 hk h2 h3 (by simp only at hm; omega) hL)⟩ ⟨rfl, rfl, rfl, rfl, rfl, trivial⟩ rfl
  have e0 : ((x : Int) = 0) = True := eq_true (by omega)
  subst hx0
  have hk0 : k = 0 := nodup_pos B.nd hk B.q0
  subst hk0
  have hKl := hlow n (Int.le_refl _) .zero
  simp (maxSteps := 1000000) only [VL,VM,↓VG,reduceIte,reduceCtorEq,zA,zB,zC,zD,zE,zF,zG,zH,zI,zJ, e0]
  ((repeat refine Ws ?_);refine Wf (by first|rfl|simp only [EV,zF,reduceIte]) ?_)
  ((repeat refine Ws ?_);refine W_exit ?_)
  simp (maxSteps := 1000000) only [VL,VM,↓VG,reduceIte,reduceCtorEq,zA,zB,zC,zD,zE,zF,zG,zH,zI,zJ]
  ((repeat refine Ws ?_);refine Wr ?_)
  simp (maxSteps := 1000000) only [VL,VM,↓VG,reduceIte,reduceCtorEq,zA,zB,zC,zD,zE,zF,zG,zH,zI,zJ]
  ((repeat refine Ws ?_);refine W_block ?_; (repeat refine Ws ?_)); refine W_loopS (fun s : PbSt => [(0, .bf lb 0 N 1), (4, .bf H.length 0 N 1), (9, vi n), (11, vi s.x)]) (fun s => ⟨setRows H rid s.R ++ (.obj (fr.map vi) :: jqOf q), lg⟩) (fun s => s.k) (fun s => q[s.k]? = some s.x ∧ s.k ≤ K ∧ Bak N R q s.k s.x n s.R ∧ Low R q fr n s.k) ⟨K, N - 1, R⟩ ⟨hK, Nat.le_refl _, Bak.start hN hs hnn q K n, hKl⟩ ⟨rfl, rfl, rfl, rfl, trivial⟩ rfl ?_
  clear hk hlow e0
  rintro ⟨k, x, R1⟩ ⟨hk, hkK, Bk, hLow⟩
  simp only at hk hkK Bk hLow
  have hs1 := Bk.sq
  have hR1l : R1.length = N := hs1.len
  ((repeat refine Ws ?_);refine Wr ?_)
  by_cases hx0 : x = 0
  rotate_left
  ·have e0 : ((x : Int) = 0) = False := eq_false (by omega)
   obtain ⟨_, _, _, _, _, _, h5, _, h7⟩ := back k x hk hx0
   have hst : ∃ (l y : Nat), l < k ∧ q[l]? = some y ∧ fr.getD x 0 = (y : Int) ∧ n ≤ at2 R y x ∧ Low R q fr n l := by
    cases hLow with
    | zero =>
     rw [B.q0] at hk
     exact absurd (Option.some.inj hk).symm hx0
    | step h1 h2 h3 h4 h8 h9 =>
     rw [hk] at h2
     cases h2
     exact ⟨_, _, h1, h3, h4, h8, h9⟩
   obtain ⟨l, y, h1, h2, h3, h4, h9⟩ := hst
   have h6 := B.lt y (List.mem_of_getElem? h2)
   have h7 : fr[x]? = some (y : Int) := by
    rw [← h3, List.getD_eq_getElem?_getD, List.getElem?_eq_getElem (by rw [B.len]; exact h5)]; rfl
   have h7' := map_at (f := vi) h7
   obtain ⟨Bn, hat⟩ := Bk.step hN hs B hk h1 h2 h4 (by omega) (fun i hi => by
    have := nodup_pos B.nd hi hK
    omega)
   have hne : y ≠ x := fun e => by
    subst e
    have := nodup_pos B.nd hk h2
    omega
   have ab1 : 0 ≤ at2 R1 x y ∧ at2 R1 x y ≤ 1125899906842624 := by
    have a1 := Bk.aug.nn (tau N x) (tau N y) (tau_lt hN h5) (tau_lt hN h6)
    have a2 := Bk.aug.nn (tau N y) (tau N x) (tau_lt hN h6) (tau_lt hN h5)
    have a3 := Bk.aug.sk (tau N x) (tau N y) (tau_lt hN h5) (tau_lt hN h6)
    simp only [permT_at _ (tau_lt hN h5) (tau_lt hN h6), permT_at _ (tau_lt hN h6) (tau_lt hN h5), tau_tau hN] at a1 a2 a3
    have := hbd x y h5 h6
    omega
   have hb := hbd y x h6 h5
   have hb2 := hnn x y h5 h6
   rw [← hat] at h4 hb
   have r1 : -9223372036854775808 ≤ at2 R1 y x - n ∧ at2 R1 y x - n < 9223372036854775808 := by omega
   have r2 : -9223372036854775808 ≤ at2 R1 x y + n ∧ at2 R1 x y + n < 9223372036854775808 := by omega
   simp (maxSteps := 1000000) only [VL,VM,↓VG,reduceIte,reduceCtorEq,zA,zB,zC,zD,zE,zF,zG,zH,zI,zJ, e0]
   ((repeat refine Ws ?_);refine Wt (by first|rfl|simp only [EV,zF,reduceIte]) ?_)
   ((repeat refine Ws ?_);refine W_skip ?_)
   simp (maxSteps := 1000000) only [VL,VM,↓VG,reduceIte,reduceCtorEq,zA,zB,zC,zD,zE,zF,zG,zH,zI,zJ]
   ((repeat refine Ws ?_);refine W_block ?_)
   have hsp : ∀ (row : List Int) (v : Int) (p : Nat), p < row.length → List.map vi (List.take p row) ++ vi v :: List.map vi (List.drop (p + 1) row) = List.map vi (row.set p v) := fun row v p hp => by
    rw [List.set_eq_take_append_cons_drop, if_pos hp]
    simp
   have ly := hs1.rowlen h6
   have lx := hs1.rowlen h5
   have p1 := hsp (R1.getD y []) (at2 R1 y x - n) x (by omega)
   have p2 := hsp (R1.getD x []) (at2 R1 x y + n) y (by omega)
   have gx : ∀ r : List Int, (R1.set y r).getD x [] = R1.getD x [] := fun r => by rw [List.getD_eq_getElem?_getD, List.getElem?_set_ne hne, ← List.getD_eq_getElem?_getD]
   have rgx : ∀ (r : List Int) (L : List VObj), (setRows H rid (R1.set y r) ++ L)[rid + x]? = some (.obj ((R1.getD x []).map vi)) := fun r L => by rw [rg _ L x (by simp [hR1l]) h5, gx]
   have rsx : ∀ (r r2 : List Int) (L : List VObj), (setRows H rid (R1.set y r) ++ L).set (rid + x) (.obj (r2.map vi)) = setRows H rid ((R1.set y r).set x r2) ++ L := fun r r2 L => rs _ L x r2 (by simp [hR1l]) h5
   have rsy := fun r L => rs R1 L y r hR1l h6
   have rgy := fun L => rg R1 L y hR1l h6
   have rgx0 := fun L => rg R1 L x hR1l h5
   have w1 : (x + 1 ≤ (R1.getD y []).length) = True := eq_true (by omega)
   have w2 : (y + 1 ≤ (R1.getD x []).length) = True := eq_true (by omega)
   have tb1 := fun L => tb R1 L hR1l
   have cy := cell R1 hs1 y x h6 h5
   have cx := cell R1 hs1 x y h5 h6
   have ry := rowv y h6
   have rx := rowv x h5
   have fin : upd2 (upd2 R1 y x (at2 R1 y x - n)) x y (at2 R1 x y + n) = (R1.set y ((R1.getD y []).set x (at2 R1 y x - n))).set x ((R1.getD x []).set y (at2 R1 x y + n)) := by
    unfold upd2
    rw [gx]
   rw [fin] at Bn
   (repeat refine Ws ?_)
   refine W_drawP T_ok [] (by kernel_rfl) (by kernel_rfl) ?_
   generalize hi : mkPlan _ = infs
   cbv at hi
   subst hi
   simp (maxSteps := 1000000) only [VL,VM,↓VG,reduceIte,reduceCtorEq,zA,zB,zC,zD,zE,zF,zG,zH,zI,zJ, eq_true h5, eq_true h6, g0, h7', tb1, ry, rx, rgy, rgx0, cy, cx, r1, r2, w1, w2, p1, p2, rsy, rgx, rsx]
   ((repeat refine Ws ?_);refine Wr ?_)
   simp (maxSteps := 1000000) only [VL,VM,↓VG,reduceIte,reduceCtorEq,zA,zB,zC,zD,zE,zF,zG,zH,zI,zJ, eq_true h5, g0, h7']
   exact LoopK.mk ⟨l, y, _⟩ (by simp only; omega) ⟨h2, by simp only; omega, Bn, h9⟩ ⟨rfl, rfl, rfl, rfl, trivial⟩ rfl
  have e0 : ((x : Int) = 0) = True := eq_true (by omega)
  subst hx0
  simp (maxSteps := 1000000) only [VL,VM,↓VG,reduceIte,reduceCtorEq,zA,zB,zC,zD,zE,zF,zG,zH,zI,zJ, e0]
  ((repeat refine Ws ?_);refine Wf (by first|rfl|simp only [EV,zF,reduceIte]) ?_)
  ((repeat refine Ws ?_);refine W_exit ?_)
  simp (maxSteps := 1000000) only [VL,VM,↓VG,reduceIte,reduceCtorEq,zA,zB,zC,zD,zE,zF,zG,zH,zI,zJ]
  ((repeat refine Ws ?_);refine Wr ?_)
  simp (maxSteps := 1000000) only [VL,VM,↓VG,reduceIte,reduceCtorEq,zA,zB,zC,zD,zE,zF,zG,zH,zI,zJ]
  (repeat refine Ws ?_)
  refine W_ret ?_
  try simp only [thenQ, blockQ]
  refine own_retR rfl rfl ⟨n, R1, rfl, rfl, by omega, hs1, fun h => by omega, fun _ => ?_⟩
  have := Bk.aug
  rw [tau_0 hN] at this
  exact this
 obtain ⟨hlt, hfn⟩ := hgo
 have k2 : ((i : Int) < (q.length : Int)) = True := eq_true (by omega)
 have k3 : (fr.getD (N - 1) 0 < 0) = True := eq_true hfn
 obtain ⟨x, hqi⟩ : ∃ x, q[i]? = some x := ⟨_, List.getElem?_eq_getElem hlt⟩
 have hxN := B.lt x (List.mem_of_getElem? hqi)
 have c1 : (List.map (fun i => VV.bf (rid + i) 0 N 1) (List.range N))[x]? = some (.bf (rid + x) 0 N 1) := by simp [hxN]
 have c3 : (x < N) = True := eq_true hxN
 have tb1 := fun L => tb R L hRl
 have rg1 := fun L => rg R L x hRl hxN
 (repeat refine Ws ?_)
 refine W_then [(0, .bf lb 0 N 1), (3, vi ((N - 1 : Nat) : Int)), (4, .bf H.length 0 N 1), (6, qvOf H.length q), (7, vi i), (38, vb true)] ⟨setRows H rid R ++ (.obj (fr.map vi) :: jqOf q), lg⟩ ?_ ?_
 ·by_cases q1 : q.length = 1
  ·have e1 : qvOf H.length q = .sf 1 (qP q) := if_pos q1
   have e2 : jqOf q = [] := if_pos q1
   rw [e1, e2]
   ((repeat refine Ws ?_);refine Wr ?_)
   simp (maxSteps := 1000000) only [VL,VM,↓VG,reduceIte,reduceCtorEq,zA,zB,zC,zD,zE,zF,zG,zH,zI,zJ, k2, k3, klt, g0, hfl']
   exact ⟨rfl, rfl, rfl, rfl, rfl, rfl, trivial⟩
  ·have e1 : qvOf H.length q = .so (H.length + 1) 1 (qP q) := if_neg q1
   have e2 : jqOf q = [.clm q.length 1] := if_neg q1
   rw [e1, e2]
   ((repeat refine Ws ?_);refine Wr ?_)
   simp (maxSteps := 1000000) only [VL,VM,↓VG,reduceIte,reduceCtorEq,zA,zB,zC,zD,zE,zF,zG,zH,zI,zJ, k2, k3, klt, g0, hfl']
   exact ⟨rfl, rfl, rfl, rfl, rfl, rfl, trivial⟩
 intro e' hS
 refine WCode.weak (e' := [(0, .bf lb 0 N 1), (3, vi ((N - 1 : Nat) : Int)), (4, .bf H.length 0 N 1), (6, qvOf H.length q), (7, vi i), (38, vb true)]) ?_ (Sub.ok hS)
 ((repeat refine Ws ?_);refine Wt (by first|rfl|simp only [EV,zF,reduceIte]) ?_)
 ((repeat refine Ws ?_);refine W_skip ?_)
 simp (maxSteps := 1000000) only [VL,VM,↓VG,reduceIte,reduceCtorEq,zA,zB,zC,zD,zE,zF,zG,zH,zI,zJ]
 ((repeat refine Ws ?_);refine W_block ?_)
 ((repeat refine Ws ?_);refine Wr ?_)
 simp (maxSteps := 1000000) only [VL,VM,↓VG,reduceIte,reduceCtorEq,zA,zB,zC,zD,zE,zF,zG,zH,zI,zJ]
 ((repeat refine Ws ?_);refine W_block ?_; (repeat refine Ws ?_)); refine W_loopS (fun s : BfSt => [(0, .bf lb 0 N 1), (3, vi ((N - 1 : Nat) : Int)), (4, .bf H.length 0 N 1), (6, qvOf H.length s.q), (7, vi i), (8, vi s.v)]) (fun s => ⟨setRows H rid R ++ (.obj (s.fr.map vi) :: jqOf s.q), lg⟩) (fun s => N - s.v) (fun s => 1 ≤ s.v ∧ s.v ≤ N ∧ Bfs N R s.q s.fr ∧ s.q[i]? = some x ∧ (∀ l y, l < i → s.q[l]? = some y → ∀ w, 1 ≤ w → w < N → 0 < at2 R y w → w ∈ s.q) ∧ ∀ w, 1 ≤ w → w < s.v → 0 < at2 R x w → w ∈ s.q) ⟨i, q, fr, 1⟩ ⟨Nat.le_refl _, by simp only; omega, B, hqi, hpr, fun w w1 w2 => by simp only at w2; omega⟩ ⟨rfl, rfl, rfl, rfl, rfl, rfl, trivial⟩ rfl ?_
 clear hqi B hpr hlt hfn hfl hfl' hi hql k2 k3 hS
 rintro ⟨_, q, fr, v⟩ ⟨hv1, hvN1, B, hqi, hpr, hin⟩
 simp only at hv1 hvN1 B hqi hpr hin
 have k9 := k1
 have hlt : i < q.length := (List.getElem?_eq_some_iff.1 hqi).1
 have hql := nodup_len N q B.nd B.lt
 clear k1
 have k1 : -9223372036854775808 ≤ (v : Int) + 1 ∧ (v : Int) + 1 < 9223372036854775808 := by omega
 have hqx : (qP q)[i]? = some (intP (x : Int)) := map_at (f := fun x : Nat => intP (x : Int)) hqi
 ((repeat refine Ws ?_);refine Wr ?_)
 rcases Nat.lt_or_ge v N with hvlt | hvge
 ·have k2 : ((v : Int) < (N : Int)) = True := eq_true (by omega)
  have hvN : (v < N) = True := eq_true hvlt
  have hfv : fr[v]? = some (fr.getD v 0) := by rw [List.getD_eq_getElem?_getD, List.getElem?_eq_getElem (by rw [B.len]; omega)]; rfl
  have hfv' := map_at (f := vi) hfv
  have cxv : (List.map vi (R.getD x []))[v]? = some (vi (at2 R x v)) := by
   have := hs.rowlen hxN
   rw [List.getElem?_map, List.getElem?_eq_getElem (by omega)]
   unfold at2
   rw [List.getD_eq_getElem?_getD (l := R.getD x []), List.getElem?_eq_getElem (by omega)]
   rfl
  simp (maxSteps := 1000000) only [VL,VM,↓VG,reduceIte,reduceCtorEq,zA,zB,zC,zD,zE,zF,zG,zH,zI,zJ, k2]
  ((repeat refine Ws ?_);refine Wt (by first|rfl|simp only [EV,zF,reduceIte]) ?_)
  ((repeat refine Ws ?_);refine W_skip ?_)
  simp (maxSteps := 1000000) only [VL,VM,↓VG,reduceIte,reduceCtorEq,zA,zB,zC,zD,zE,zF,zG,zH,zI,zJ]
  by_cases q1 : q.length = 1
  ·skip
   have e1 : qvOf H.length q = .sf 1 (qP q) := if_pos q1
   have e2 : jqOf q = [] := if_pos q1
   rw [e1, e2]
   by_cases hadd : 0 < at2 R x v ∧ fr.getD v 0 < 0
   rotate_left
   ·(repeat refine Ws ?_)
    refine W_block ?_
    (repeat refine Ws ?_)
    refine W_then [(0, .bf lb 0 N 1), (3, vi ((N - 1 : Nat) : Int)), (4, .bf H.length 0 N 1), (6, qvOf H.length q), (7, vi i), (8, vi v), (64, vb false)] ⟨setRows H rid R ++ (.obj (fr.map vi) :: jqOf q), lg⟩ ?_ ?_
    ·rw [e1, e2]
     by_cases hp : 0 < at2 R x v
     ·have j1 : (0 < at2 R x v) = True := eq_true hp
      have j2 : (fr.getD v 0 < 0) = False := eq_false (fun h => hadd ⟨hp, h⟩)
      ((repeat refine Ws ?_);refine Wr ?_)
      simp (maxSteps := 1000000) only [VL,VM,↓VG,reduceIte,reduceCtorEq,zA,zB,zC,zD,zE,zF,zG,zH,zI,zJ, g0, hqx, c1, c3, tb1, rg1, cxv, hvN, hfv', j1, j2]
      exact ⟨rfl, rfl, rfl, rfl, rfl, rfl, rfl, trivial⟩
     ·have j1 : (0 < at2 R x v) = False := eq_false hp
      ((repeat refine Ws ?_);refine Wr ?_)
      simp (maxSteps := 1000000) only [VL,VM,↓VG,reduceIte,reduceCtorEq,zA,zB,zC,zD,zE,zF,zG,zH,zI,zJ, g0, hqx, c1, c3, tb1, rg1, cxv, hvN, j1]
      exact ⟨rfl, rfl, rfl, rfl, rfl, rfl, rfl, trivial⟩
    intro e' hS
    refine WCode.weak (e' := [(0, .bf lb 0 N 1), (3, vi ((N - 1 : Nat) : Int)), (4, .bf H.length 0 N 1), (6, qvOf H.length q), (7, vi i), (8, vi v), (64, vb false)]) ?_ (Sub.ok hS)
    ((repeat refine Ws ?_);refine Wf (by first|rfl|simp only [EV,zF,reduceIte]) ?_)
    ((repeat refine Ws ?_);refine W_skip ?_)
    simp (maxSteps := 1000000) only [VL,VM,↓VG,reduceIte,reduceCtorEq,zA,zB,zC,zD,zE,zF,zG,zH,zI,zJ]
    ((repeat refine Ws ?_);refine Wr ?_)
    simp (maxSteps := 1000000) only [VL,VM,↓VG,reduceIte,reduceCtorEq,zA,zB,zC,zD,zE,zF,zG,zH,zI,zJ, k1]
    exact LoopK.mk ⟨i, q, fr, v + 1⟩ (by simp only; omega) ⟨by simp only; omega, by simp only; omega, B, hqi, hpr, fun w w1 w2 w3 => by
     by_cases e : w = v
     ·subst e
      rcases Classical.em (w ∈ q) with h | h
      ·exact h
      ·have := B.out w hvlt h
       exact absurd ⟨w3, by omega⟩ hadd
     ·exact hin w w1 (by simp only at w2; omega) w3⟩ ⟨rfl, rfl, rfl, rfl, rfl, rfl, trivial⟩ rfl
   obtain ⟨hp, hneg⟩ := hadd
   have j1 : (0 < at2 R x v) = True := eq_true hp
   have j2 : (fr.getD v 0 < 0) = True := eq_true hneg
   have hnv : v ∉ q := fun h => by
    have := B.inn v h (by omega)
    omega
   have Bn := B.add hqi hvlt hnv hp
   have e3 : qvOf H.length (q ++ [v]) = .so (H.length + 1) 1 (qP (q ++ [v])) := if_neg (by rw [List.length_append, List.length_singleton]; omega)
   have e4 : jqOf (q ++ [v]) = [.clm (q.length + 1) 1] := by
    unfold jqOf
    rw [if_neg (by rw [List.length_append, List.length_singleton]; omega), List.length_append, List.length_singleton]
   ((repeat refine Ws ?_);refine W_block ?_)
   ((repeat refine Ws ?_);refine Wr ?_)
   simp (maxSteps := 1000000) only [VL,VM,↓VG,reduceIte,reduceCtorEq,zA,zB,zC,zD,zE,zF,zG,zH,zI,zJ, g0, hqx, c1, c3, tb1, rg1, cxv, hvN, hfv', j1, j2]
   ((repeat refine Ws ?_);refine Wt (by first|rfl|simp only [EV,zF,reduceIte]) ?_)
   have sp : List.map vi (List.take v fr) ++ vi (x : Int) :: List.map vi (List.drop (v + 1) fr) = List.map vi (fr.set v (x : Int)) := by
    rw [List.set_eq_take_append_cons_drop, if_pos (by rw [B.len]; exact hvlt)]
    simp
   have w1 : (v + 1 ≤ fr.length) = True := eq_true (by rw [B.len]; omega)
   have m5 : ((q.length + 1) * 8 ≤ 140737488355328) = True := eq_true (by omega)
   (repeat refine Ws ?_)
   refine W_drawP T_ok [] (by kernel_rfl) (by kernel_rfl) ?_
   generalize hi : mkPlan _ = infs
   cbv at hi
   subst hi
   simp (maxSteps := 1000000) only [VL,VM,↓VG,reduceIte,reduceCtorEq,zA,zB,zC,zD,zE,zF,zG,zH,zI,zJ, g0, s0, hqx, hvN, sp, w1, m5, setRows_len]
   ((repeat refine Ws ?_);refine Wr ?_)
   simp (maxSteps := 1000000) only [VL,VM,↓VG,reduceIte,reduceCtorEq,zA,zB,zC,zD,zE,zF,zG,zH,zI,zJ, k1]
   refine LoopK.mk ⟨i, q ++ [v], fr.set v (x : Int), v + 1⟩ (by simp only; omega) ⟨by simp only; omega, by simp only; omega, Bn, by simp only; rw [List.getElem?_append_left hlt]; exact hqi, fun l y hl hy w a1 a2 a3 => ?_, fun w a1 a2 a3 => ?_⟩ ⟨rfl, rfl, rfl, ?_, rfl, rfl, trivial⟩ ?_
   ·simp only at hy ⊢
    rw [List.getElem?_append_left (by omega)] at hy
    exact List.mem_append_left _ (hpr l y hl hy w a1 a2 a3)
   ·simp only at a2 ⊢
    by_cases e : w = v
    ·subst e; simp
    ·exact List.mem_append_left _ (hin w a1 (by omega) a3)
   ·simp only
    rw [e3]
    simp [get_cons]
   ·simp only
    rw [e4]
  ·skip
   have e1 : qvOf H.length q = .so (H.length + 1) 1 (qP q) := if_neg q1
   have e2 : jqOf q = [.clm q.length 1] := if_neg q1
   rw [e1, e2]
   by_cases hadd : 0 < at2 R x v ∧ fr.getD v 0 < 0
   rotate_left
   ·(repeat refine Ws ?_)
    refine W_block ?_
    (repeat refine Ws ?_)
    refine W_then [(0, .bf lb 0 N 1), (3, vi ((N - 1 : Nat) : Int)), (4, .bf H.length 0 N 1), (6, qvOf H.length q), (7, vi i), (8, vi v), (64, vb false)] ⟨setRows H rid R ++ (.obj (fr.map vi) :: jqOf q), lg⟩ ?_ ?_
    ·rw [e1, e2]
     by_cases hp : 0 < at2 R x v
     ·have j1 : (0 < at2 R x v) = True := eq_true hp
      have j2 : (fr.getD v 0 < 0) = False := eq_false (fun h => hadd ⟨hp, h⟩)
      ((repeat refine Ws ?_);refine Wr ?_)
      simp (maxSteps := 1000000) only [VL,VM,↓VG,reduceIte,reduceCtorEq,zA,zB,zC,zD,zE,zF,zG,zH,zI,zJ, g0, hqx, c1, c3, tb1, rg1, cxv, hvN, hfv', j1, j2]
      exact ⟨rfl, rfl, rfl, rfl, rfl, rfl, rfl, trivial⟩
     ·have j1 : (0 < at2 R x v) = False := eq_false hp
      ((repeat refine Ws ?_);refine Wr ?_)
      simp (maxSteps := 1000000) only [VL,VM,↓VG,reduceIte,reduceCtorEq,zA,zB,zC,zD,zE,zF,zG,zH,zI,zJ, g0, hqx, c1, c3, tb1, rg1, cxv, hvN, j1]
      exact ⟨rfl, rfl, rfl, rfl, rfl, rfl, rfl, trivial⟩
    intro e' hS
    refine WCode.weak (e' := [(0, .bf lb 0 N 1), (3, vi ((N - 1 : Nat) : Int)), (4, .bf H.length 0 N 1), (6, qvOf H.length q), (7, vi i), (8, vi v), (64, vb false)]) ?_ (Sub.ok hS)
    ((repeat refine Ws ?_);refine Wf (by first|rfl|simp only [EV,zF,reduceIte]) ?_)
    ((repeat refine Ws ?_);refine W_skip ?_)
    simp (maxSteps := 1000000) only [VL,VM,↓VG,reduceIte,reduceCtorEq,zA,zB,zC,zD,zE,zF,zG,zH,zI,zJ]
    ((repeat refine Ws ?_);refine Wr ?_)
    simp (maxSteps := 1000000) only [VL,VM,↓VG,reduceIte,reduceCtorEq,zA,zB,zC,zD,zE,zF,zG,zH,zI,zJ, k1]
    exact LoopK.mk ⟨i, q, fr, v + 1⟩ (by simp only; omega) ⟨by simp only; omega, by simp only; omega, B, hqi, hpr, fun w w1 w2 w3 => by
     by_cases e : w = v
     ·subst e
      rcases Classical.em (w ∈ q) with h | h
      ·exact h
      ·have := B.out w hvlt h
       exact absurd ⟨w3, by omega⟩ hadd
     ·exact hin w w1 (by simp only at w2; omega) w3⟩ ⟨rfl, rfl, rfl, rfl, rfl, rfl, trivial⟩ rfl
   obtain ⟨hp, hneg⟩ := hadd
   have j1 : (0 < at2 R x v) = True := eq_true hp
   have j2 : (fr.getD v 0 < 0) = True := eq_true hneg
   have hnv : v ∉ q := fun h => by
    have := B.inn v h (by omega)
    omega
   have Bn := B.add hqi hvlt hnv hp
   have e3 : qvOf H.length (q ++ [v]) = .so (H.length + 1) 1 (qP (q ++ [v])) := if_neg (by rw [List.length_append, List.length_singleton]; omega)
   have e4 : jqOf (q ++ [v]) = [.clm (q.length + 1) 1] := by
    unfold jqOf
    rw [if_neg (by rw [List.length_append, List.length_singleton]; omega), List.length_append, List.length_singleton]
   ((repeat refine Ws ?_);refine W_block ?_)
   ((repeat refine Ws ?_);refine Wr ?_)
   simp (maxSteps := 1000000) only [VL,VM,↓VG,reduceIte,reduceCtorEq,zA,zB,zC,zD,zE,zF,zG,zH,zI,zJ, g0, hqx, c1, c3, tb1, rg1, cxv, hvN, hfv', j1, j2]
   ((repeat refine Ws ?_);refine Wt (by first|rfl|simp only [EV,zF,reduceIte]) ?_)
   have sp : List.map vi (List.take v fr) ++ vi (x : Int) :: List.map vi (List.drop (v + 1) fr) = List.map vi (fr.set v (x : Int)) := by
    rw [List.set_eq_take_append_cons_drop, if_pos (by rw [B.len]; exact hvlt)]
    simp
   have w1 : (v + 1 ≤ fr.length) = True := eq_true (by rw [B.len]; omega)
   have m5 : ((q.length + 1) * 8 ≤ 140737488355328) = True := eq_true (by omega)
   (repeat refine Ws ?_)
   refine W_drawP T_ok [] (by kernel_rfl) (by kernel_rfl) ?_
   generalize hi : mkPlan _ = infs
   cbv at hi
   subst hi
   simp (maxSteps := 1000000) only [VL,VM,↓VG,reduceIte,reduceCtorEq,zA,zB,zC,zD,zE,zF,zG,zH,zI,zJ, g0, g1, s0, s1, hqx, hvN, sp, w1, m5, setRows_len]
   ((repeat refine Ws ?_);refine Wr ?_)
   simp (maxSteps := 1000000) only [VL,VM,↓VG,reduceIte,reduceCtorEq,zA,zB,zC,zD,zE,zF,zG,zH,zI,zJ, k1]
   refine LoopK.mk ⟨i, q ++ [v], fr.set v (x : Int), v + 1⟩ (by simp only; omega) ⟨by simp only; omega, by simp only; omega, Bn, by simp only; rw [List.getElem?_append_left hlt]; exact hqi, fun l y hl hy w a1 a2 a3 => ?_, fun w a1 a2 a3 => ?_⟩ ⟨rfl, rfl, rfl, ?_, rfl, rfl, trivial⟩ ?_
   ·simp only at hy ⊢
    rw [List.getElem?_append_left (by omega)] at hy
    exact List.mem_append_left _ (hpr l y hl hy w a1 a2 a3)
   ·simp only at a2 ⊢
    by_cases e : w = v
    ·subst e; simp
    ·exact List.mem_append_left _ (hin w a1 (by omega) a3)
   ·simp only
    rw [e3]
    simp [get_cons]
   ·simp only
    rw [e4]
 have k2 : ((v : Int) < (N : Int)) = False := eq_false (by omega)
 simp (maxSteps := 1000000) only [VL,VM,↓VG,reduceIte,reduceCtorEq,zA,zB,zC,zD,zE,zF,zG,zH,zI,zJ, k2]
 ((repeat refine Ws ?_);refine Wf (by first|rfl|simp only [EV,zF,reduceIte]) ?_)
 ((repeat refine Ws ?_);refine W_exit ?_)
 simp (maxSteps := 1000000) only [VL,VM,↓VG,reduceIte,reduceCtorEq,zA,zB,zC,zD,zE,zF,zG,zH,zI,zJ]
 ((repeat refine Ws ?_);refine Wr ?_)
 simp (maxSteps := 1000000) only [VL,VM,↓VG,reduceIte,reduceCtorEq,zA,zB,zC,zD,zE,zF,zG,zH,zI,zJ, k9]
 exact LoopK.mk ⟨i + 1, q, fr, 0⟩ (by simp only; omega) ⟨by simp only; omega, B, fun l y hl hy w a1 a2 a3 => by
  by_cases e : l = i
  ·subst e
   rw [hqi] at hy
   cases hy
   exact hin w a1 (by omega) a3
  ·exact hpr l y (by simp only at hl; omega) hy w a1 a2 a3⟩ ⟨rfl, rfl, rfl, rfl, rfl, trivial⟩ rfl
end Go.Proofs.Ytmagiabapakhcaa.Vm

/- The reference's flow, on values. (Vm) -/
namespace Go.Proofs.Ytmagiabapakhcaa
theorem res_of {N : Nat} {C R : List (List Int)} {v : Int} (hN : 2 ≤ N) (hs : Sq N R) (h : Res N C (permT N R) v) (i j : Nat) (hi : i < N) (hj : j < N) : 0 ≤ at2 R i j ∧ at2 R i j + at2 R j i = at2 C (tau N i) (tau N j) + at2 C (tau N j) (tau N i) := by
 have h1 := h.nn (tau N i) (tau N j) (tau_lt hN hi) (tau_lt hN hj)
 have h2 := h.sk (tau N i) (tau N j) (tau_lt hN hi) (tau_lt hN hj)
 rw [permT_at _ (tau_lt hN hi) (tau_lt hN hj), tau_tau hN, tau_tau hN] at h1 h2
 rw [permT_at _ (tau_lt hN hj) (tau_lt hN hi), tau_tau hN, tau_tau hN] at h2
 exact ⟨h1, h2⟩
theorem cut_bd {N : Nat} (hN : 2 ≤ N) (hN3 : N ≤ 1000) {C : List (List Int)} {v B : Int} (hB : 0 ≤ B) (hC : ∀ i j, i < N → j < N → at2 C i j ≤ B) : cutOf N C (fun i => decide (i = 0)) ≤ 1000 * B := by
 unfold cutOf
 have h0 : (0 : Nat) < N := by omega
 have h1 : (sumTo N fun i => sumTo N fun j => if (decide (i = 0) && !decide (j = 0)) = true then at2 C i j else 0) ≤ sumTo N fun i => if i = 0 then sumTo N (fun _ => B) else 0 := by
  refine sumTo_le fun i hi => ?_
  by_cases e : i = 0
  ·rw [if_pos e]
   refine sumTo_le fun j hj => ?_
   have := hC i j hi hj
   split <;> omega
  ·rw [if_neg e]
   rw [show (fun j => if (decide (i = 0) && !decide (j = 0)) = true then at2 C i j else 0) = fun _ => (0 : Int) from funext fun j => by simp [e], sumTo_const0]
   exact Int.le_refl _
 rw [sumTo_one h0] at h1
 have h2 : ∀ n : Nat, sumTo n (fun _ => B) = (n : Int) * B := by
  intro n
  induction n with
  | zero => simp [sumTo_zero]
  | succ n ih => rw [sumTo_succ, ih]; push_cast; rw [Int.add_mul, Int.one_mul]
 rw [h2] at h1
 have h3 : (N : Int) * B ≤ 1000 * B := Int.mul_le_mul_of_nonneg_right (by omega) hB
 exact Int.le_trans h1 h3
end Go.Proofs.Ytmagiabapakhcaa
namespace Go.Proofs.Ytmagiabapakhcaa.Vm
open Go Go.Proofs
theorem own_retR0 {f : Nat} {fn : Func} {H : List VObj} {rid : Nat} {R R' : List (List Int)} {lg : List (Nat × Nat)} {Q : VV → Mem → Prop} {e : Env} {t : Nat} {k : Int} (h1 : fn.results.toList = [.tmp t]) (hr : get e t = vi k) (hq : Q (vi k) ⟨setRows H rid R', lg⟩) : ownQ T f fn ⟨setRows H rid R, lg⟩ Q .ret e ⟨setRows H rid R', lg⟩ [] := by
 refine ⟨.inr rfl, rfl, ⟨[], by simp, by simp⟩, setRows H rid R', [], by simp, by rw [setRows_len, setRows_len], [vi k], ?_, vi k, rfl, by simp [refs], hq⟩
 rw [h1]
 simp [vresL, hr]
structure FlSt where
 v : Int
 k : Int
 R1 : List (List Int)
 R2 : List (List Int)
set_option maxHeartbeats 1000000 in
theorem flow_r {H : List VObj} {N lb rid : Nat} (PQ : RM H N lb rid) (hN : 2 ≤ N) (hN3 : N ≤ 1000) (lg : List (Nat × Nat)) (R : List (List Int)) (hs : Sq N R) (hnn : ∀ i j, i < N → j < N → 0 ≤ at2 R i j) (hbd : ∀ i j, i < N → j < N → at2 R i j ≤ 562949953421312) :
  VC Try.prog 93 [.bf lb 0 N 1] ⟨setRows H rid R, lg⟩ (fun r M' => ∃ R', r = vi (mfv N (permT N R)) ∧ M' = ⟨setRows H rid R', lg⟩ ∧ R'.length = N) := by
 have hst : Proofs.Ytmagiabapakhcaa.Res N (permT N R) (permT N R) 0 := Proofs.Ytmagiabapakhcaa.Res.start fun i j hi hj => by rw [permT_at _ hi hj]; exact hnn _ _ (tau_lt hN hi) (tau_lt hN hj)
 have hCb : ∀ i j, i < N → j < N → at2 (permT N R) i j ≤ 562949953421312 := fun i j hi hj => by rw [permT_at _ hi hj]; exact hbd _ _ (tau_lt hN hi) (tau_lt hN hj)
 have hcut := cut_bd (v := 0) hN hN3 (by omega) hCb
 generalize hCC : permT N R = C at hst hCb hcut
 have vb2 : ∀ R1 v, Proofs.Ytmagiabapakhcaa.Res N C R1 v → v ≤ 1000 * 562949953421312 := fun R1 v h => by
  have := h.le_cut hN (S := fun i => decide (i = 0)) (by simp) (by simp)
  omega
 have step : ∀ R1 v, Sq N R1 → Proofs.Ytmagiabapakhcaa.Res N C (permT N R1) v → VC Try.prog 108 [.bf lb 0 N 1] ⟨setRows H rid R1, lg⟩ (fun r M' => ∃ k R', r = vi k ∧ M' = ⟨setRows H rid R', lg⟩ ∧ Psh N R1 k R') := fun R1 v h1 h => push_r PQ hN (by omega) lg R1 h1 (fun i j hi hj => (res_of hN h1 h i j hi hj).1) fun i j hi hj => by
  have h3 := (res_of hN h1 h i j hi hj).2
  have := hCb _ _ (tau_lt hN hi) (tau_lt hN hj)
  have := hCb _ _ (tau_lt hN hj) (tau_lt hN hi)
  omega
 refine VC_own' T_ok (f := 93) (fn := Try.f93) (by kernel_rfl) rfl Try.ntmps93 (by rfl) (by rfl) ?_
 ((repeat refine Ws ?_);refine Wr ?_)
 simp (maxSteps := 1000000) only [VL,VM,↓VG,reduceIte,reduceCtorEq,zA,zB,zC,zD,zE,zF,zG,zH,zI,zJ]
 ((repeat refine Ws ?_);refine Wr ?_)
 simp (maxSteps := 1000000) only [VL,VM,↓VG,reduceIte,reduceCtorEq,zA,zB,zC,zD,zE,zF,zG,zH,zI,zJ]
 ((repeat refine Ws ?_);refine Wr ?_)
 simp (maxSteps := 1000000) only [VL,VM,↓VG,reduceIte,reduceCtorEq,zA,zB,zC,zD,zE,zF,zG,zH,zI,zJ]
 refine fn_call (f := 108) (fn := Try.f108) (by kernel_rfl) (by rfl) ?_
 refine (step R 0 hs (by rw [hCC]; exact hst)).mono ?_
 rintro _ _ ⟨k, R2, rfl, rfl, P⟩
 simp (maxSteps := 1000000) only [VL,VM,↓VG,reduceIte,reduceCtorEq,zA,zB,zC,zD,zE,zF,zG,zH,zI,zJ]
 ((repeat refine Ws ?_);refine W_block ?_; (repeat refine Ws ?_)); refine W_loopS (fun s : FlSt => [(0, .bf lb 0 N 1), (3, vi s.v), (4, vi s.k)]) (fun s => ⟨setRows H rid s.R2, lg⟩) (fun s => (1000 * 562949953421312 + 1 - s.v).toNat) (fun s => 0 ≤ s.v ∧ Sq N s.R1 ∧ Proofs.Ytmagiabapakhcaa.Res N C (permT N s.R1) s.v ∧ Psh N s.R1 s.k s.R2) ⟨0, k, R, R2⟩ ⟨Int.le_refl _, hs, by simp only; rw [hCC]; exact hst, P⟩ ⟨rfl, rfl, rfl, trivial⟩ rfl ?_
 clear P k R2
 rintro ⟨v, k, R1, R2⟩ ⟨hv0, hs1, hR, P⟩
 simp only at hv0 hs1 hR P
 have hk0 := P.k0
 have hvb := vb2 _ _ hR
 ((repeat refine Ws ?_);refine Wr ?_)
 by_cases hk : k = 0
 ·have e1 : (0 < k) = False := eq_false (by omega)
  obtain ⟨rfl, S, s0, s1, hcl⟩ := P.none hk
  simp (maxSteps := 1000000) only [VL,VM,↓VG,reduceIte,reduceCtorEq,zA,zB,zC,zD,zE,zF,zG,zH,zI,zJ, e1]
  ((repeat refine Ws ?_);refine Wf (by first|rfl|simp only [EV,zF,reduceIte]) ?_)
  ((repeat refine Ws ?_);refine W_exit ?_)
  simp (maxSteps := 1000000) only [VL,VM,↓VG,reduceIte,reduceCtorEq,zA,zB,zC,zD,zE,zF,zG,zH,zI,zJ]
  ((repeat refine Ws ?_);refine Wr ?_)
  simp (maxSteps := 1000000) only [VL,VM,↓VG,reduceIte,reduceCtorEq,zA,zB,zC,zD,zE,zF,zG,zH,zI,zJ]
  have hmf : MF N C v := hR.max hN (S := fun i => S (tau N i)) (by simp only [tau_0 hN]; exact s0) (by
   show S (tau N 1) = false
   rw [show tau N 1 = N - 1 by unfold tau; rw [if_pos rfl]]; exact s1) fun i j hi hj h1 h2 => by
    rw [permT_at _ hi hj]
    exact hcl _ _ (tau_lt hN hi) (tau_lt hN hj) h1 h2
  have he := mfv_eq hN hmf
  (repeat refine Ws ?_)
  refine W_ret ?_
  try simp only [thenQ, blockQ]
  exact own_retR0 rfl rfl ⟨R2, by rw [he], rfl, hs1.len⟩
 have e1 : (0 < k) = True := eq_true (by omega)
 have hR2 := (P.some hk).res hR hN
 have hvb2 := vb2 _ _ hR2
 have r1 : -9223372036854775808 ≤ v + k ∧ v + k < 9223372036854775808 := by omega
 simp (maxSteps := 1000000) only [VL,VM,↓VG,reduceIte,reduceCtorEq,zA,zB,zC,zD,zE,zF,zG,zH,zI,zJ, e1]
 ((repeat refine Ws ?_);refine Wt (by first|rfl|simp only [EV,zF,reduceIte]) ?_)
 ((repeat refine Ws ?_);refine W_skip ?_)
 simp (maxSteps := 1000000) only [VL,VM,↓VG,reduceIte,reduceCtorEq,zA,zB,zC,zD,zE,zF,zG,zH,zI,zJ]
 ((repeat refine Ws ?_);refine W_block ?_)
 ((repeat refine Ws ?_);refine Wr ?_)
 simp (maxSteps := 1000000) only [VL,VM,↓VG,reduceIte,reduceCtorEq,zA,zB,zC,zD,zE,zF,zG,zH,zI,zJ, r1]
 ((repeat refine Ws ?_);refine Wr ?_)
 simp (maxSteps := 1000000) only [VL,VM,↓VG,reduceIte,reduceCtorEq,zA,zB,zC,zD,zE,zF,zG,zH,zI,zJ]
 refine fn_call (f := 108) (fn := Try.f108) (by kernel_rfl) (by rfl) ?_
 refine (step R2 (v + k) P.sq hR2).mono ?_
 rintro _ _ ⟨k', R3, rfl, rfl, P'⟩
 simp (maxSteps := 1000000) only [VL,VM,↓VG,reduceIte,reduceCtorEq,zA,zB,zC,zD,zE,zF,zG,zH,zI,zJ]
 exact LoopK.mk ⟨v + k, k', R2, R3⟩ (by simp only; omega) ⟨by simp only; omega, P.sq, hR2, P'⟩ ⟨rfl, rfl, rfl, trivial⟩ rfl
end Go.Proofs.Ytmagiabapakhcaa.Vm
