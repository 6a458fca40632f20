/- A part of the proofs about the chapter of the doors; it states no condition of its own. -/
import Derived.Test.YtmagiabapakhcaaB46
import Derived.Test.YtmagiabapakhcaaB47
set_option linter.unusedVariables false
set_option linter.unusedSimpArgs false
open Int renaming reduceLE → zA, reduceLT → zB, reduceToNat → zC, reduceNeg → zD
open Nat renaming reduceLT → zE, reduceEqDiff → zF, reduceAdd → zG, reduceSub → zH, reduceMul → zI, reduceLeDiff → zJ
/- Pair by pair: what is served is settled once, and no serving is better, plain. -/
namespace Go.Proofs.Ytmagiabapakhcaa
noncomputable def feedP (k : Kn) : Nat → List (List Int) × Int
 | 0 => feedTo k 0
 | p + 1 => feedStep k (p / k.gifts.length) (feedP k p) (p % k.gifts.length)
theorem pair_div {nG m g : Nat} (hg : g < nG) : (m * nG + g) / nG = m ∧ (m * nG + g) % nG = g :=
 ⟨by rw [Nat.mul_comm m, Nat.mul_add_div (by omega), Nat.div_eq_of_lt hg]; rfl, by rw [Nat.mul_comm m, Nat.mul_add_mod, Nat.mod_eq_of_lt hg]⟩
theorem feedP_row (k : Kn) (m : Nat) (h : feedP k (m * k.gifts.length) = feedTo k m) : ∀ g, g ≤ k.gifts.length → feedP k (m * k.gifts.length + g) = feedIn k m g
 | 0, _ => h
 | g + 1, hg => by
  obtain ⟨h1, h2⟩ := pair_div (m := m) (show g < k.gifts.length by omega)
  rw [← Nat.add_assoc, feedP, feedP_row k m h g (by omega), h1, h2, feedIn_succ]
theorem feedP_to (k : Kn) : ∀ n, feedP k (n * k.gifts.length) = feedTo k n
 | 0 => by rw [Nat.zero_mul]; rfl
 | n + 1 => by
  rw [Nat.add_mul, Nat.one_mul, feedP_row k n (feedP_to k n) _ (Nat.le_refl _), feedTo_succ]
theorem tot_upd {k : Kn} {S : List (List Int)} (H : Srv k S) {m g : Nat} (hm : m < k.meals.length) (hg : g < k.gifts.length) (x : Int) : totK k (at2 (upd2 S m g x)) = totK k (at2 S) + (x - at2 S m g) := by
 have := bump_tot hm hg (at2 S) (x - at2 S m g)
 have e : totT k.gifts.length k.meals.length (bumpT (at2 S) m g (x - at2 S m g)) = totK k (at2 (upd2 S m g x)) := by
  unfold totT
  refine sumTo_congr fun a _ => sumTo_congr fun b _ => ?_
  rw [at2_updS H hm hg]
  unfold bumpT
  by_cases e : a = m ∧ b = g
  ·rw [if_pos e, if_pos ⟨e.1.symm, e.2.symm⟩, e.1, e.2]; omega
  ·rw [if_neg e, if_neg (fun q => e ⟨q.1.symm, q.2.symm⟩)]; omega
 rw [← e, this]
structure FeedZ (k : Kn) (p : Nat) (st : List (List Int) × Int) : Prop where
 i : FeedI k p st
 tot : totK k (at2 st.1) + st.2 = fedV k (srv0 k) (-1) 0
 inn : ∀ m g, m < k.meals.length → g < k.gifts.length → 0 < at2 st.1 m g → inP k m g = true
section
variable {k : Kn}
theorem FeedZ.step (V : KV k) {m g : Nat} (hm : m < k.meals.length) (hg : g < k.gifts.length) {st : List (List Int) × Int} (h : FeedZ k (m * k.gifts.length + g) st) : FeedZ k (m * k.gifts.length + g + 1) (feedStep k m st g) := by
 refine ⟨h.i.step V hm hg, ?_, fun a b ha hb h0 => ?_⟩
 ·have h1 := h.tot
  have hz := h.i.z m g hm hg (Nat.le_refl _)
  unfold feedStep
  split
  ·simp only
   rw [tot_upd h.i.ok.srv hm hg, hz]
   omega
  ·exact h1
 ·unfold feedStep at h0
  split at h0
  ·rename_i hi
   simp only at h0
   rw [at2_updS h.i.ok.srv hm hg] at h0
   by_cases e : m = a ∧ g = b
   ·rw [← e.1, ← e.2]; exact hi
   ·rw [if_neg e] at h0
    exact h.inn a b ha hb h0
  ·exact h.inn a b ha hb h0
theorem feedP_Z (V : KV k) : ∀ p, p ≤ k.meals.length * k.gifts.length → FeedZ k p (feedP k p)
 | 0, _ => by
  refine ⟨FeedI.start V, ?_, fun m g _ _ h => ?_⟩
  ·show totK k (at2 (srv0 k)) + fedV k (srv0 k) (-1) 0 = _
   have : totK k (at2 (srv0 k)) = 0 := sumTo_zero' fun m _ => sumTo_zero' fun g _ => srv0_at k m g
   omega
  ·have e : at2 (feedP k 0).1 m g = 0 := srv0_at k m g
   omega
 | p + 1, hp => by
  have h := feedP_Z V p (by omega)
  have hG : 0 < k.gifts.length := by
   rcases Nat.eq_zero_or_pos k.gifts.length with e | e
   ·rw [e, Nat.mul_zero] at hp; omega
   ·exact e
  have hg : p % k.gifts.length < k.gifts.length := Nat.mod_lt _ hG
  have hm : p / k.gifts.length < k.meals.length := Nat.div_lt_of_lt_mul (by rw [Nat.mul_comm]; omega)
  have hpp : p / k.gifts.length * k.gifts.length + p % k.gifts.length = p := by rw [Nat.mul_comm]; exact Nat.div_add_mod p k.gifts.length
  rw [← hpp] at h
  have := h.step V hm hg
  rw [hpp] at this
  exact this
theorem feedP_keep (V : KV k) {a b : Nat} (ha : a < k.meals.length) (hb : b < k.gifts.length) {p : Nat} (h : a * k.gifts.length + b < p) : ∀ d, p + d ≤ k.meals.length * k.gifts.length → at2 (feedP k (p + d)).1 a b = at2 (feedP k p).1 a b
 | 0, _ => rfl
 | d + 1, hd => by
  have ih := feedP_keep V ha hb h d (by omega)
  have hz := feedP_Z V (p + d) (by omega)
  have hG : 0 < k.gifts.length := by omega
  have hg : (p + d) % k.gifts.length < k.gifts.length := Nat.mod_lt _ hG
  have hm : (p + d) / k.gifts.length < k.meals.length := Nat.div_lt_of_lt_mul (by rw [Nat.mul_comm]; omega)
  have hpp : (p + d) / k.gifts.length * k.gifts.length + (p + d) % k.gifts.length = p + d := by rw [Nat.mul_comm]; exact Nat.div_add_mod (p + d) k.gifts.length
  rw [← ih, ← Nat.add_assoc, feedP]
  unfold feedStep
  split
  ·simp only
   rw [at2_updS hz.i.ok.srv hm hg, if_neg (fun q => by rw [q.1, q.2] at hpp; omega)]
  ·rfl
noncomputable def feedS (k : Kn) : List (List Int) := (feedTo k k.meals.length).1
theorem feedS_at (V : KV k) {p a b : Nat} (hp : p ≤ k.meals.length * k.gifts.length) (ha : a < k.meals.length) (hb : b < k.gifts.length) : at2 (feedP k p).1 a b = if a * k.gifts.length + b < p then at2 (feedS k) a b else 0 := by
 split
 ·rename_i h
  have := feedP_keep V ha hb h (k.meals.length * k.gifts.length - p) (by omega)
  rw [show p + (k.meals.length * k.gifts.length - p) = k.meals.length * k.gifts.length by omega, feedP_to] at this
  exact this.symm
 ·rename_i h
  exact (feedP_Z V p hp).i.z a b ha hb (by omega)
theorem feed_Z (V : KV k) : FeedZ k (k.meals.length * k.gifts.length) (feedTo k k.meals.length) := by
 have := feedP_Z V _ (Nat.le_refl _)
 rw [feedP_to] at this
 exact this
theorem feed_rest (V : KV k) : (feedTo k k.meals.length).2 = 0 := by
 obtain ⟨⟨T, hT, e⟩, _⟩ := (feed_Z V).i.e
 have h0 : totK k T = 0 := sumTo_zero' fun m hm => sumTo_zero' fun g hg => hT.out m g hm hg (.inl (by
  have := Nat.mul_le_mul_right k.gifts.length (show m + 1 ≤ k.meals.length by omega)
  rw [Nat.add_mul, Nat.one_mul] at this
  omega))
 omega
theorem feed_tot (V : KV k) : totK k (at2 (feedS k)) = fedV k (srv0 k) (-1) 0 := by
 have h1 := (feed_Z V).tot
 rw [feed_rest V] at h1
 unfold feedS
 omega
noncomputable def feedL (k : Kn) (p : Nat) : List Int := (List.range p).map fun j => at2 (feedS k) (j / k.gifts.length) (j % k.gifts.length)
theorem feedL_len (p : Nat) : (feedL k p).length = p := by simp [feedL]
theorem feedL_succ (p : Nat) : feedL k (p + 1) = feedL k p ++ [at2 (feedS k) (p / k.gifts.length) (p % k.gifts.length)] := by
 unfold feedL
 rw [List.range_succ, List.map_append]; rfl
theorem feedL_at {p m g : Nat} (hg : g < k.gifts.length) : (feedL k p).getD (m * k.gifts.length + g) 0 = if m * k.gifts.length + g < p then at2 (feedS k) m g else 0 := by
 obtain ⟨h1, h2⟩ := pair_div (m := m) hg
 unfold feedL
 rw [List.getD_eq_getElem?_getD, List.getElem?_map]
 split
 ·rename_i h
  rw [List.getElem?_range h]
  simp only [Option.map_some, Option.getD_some]
  rw [h1, h2]
 ·rename_i h
  rw [List.getElem?_eq_none (by simpa using h)]; rfl
theorem srv_ext {S S' : List (List Int)} (h : Srv k S) (h' : Srv k S') (e : ∀ m g, m < k.meals.length → g < k.gifts.length → at2 S m g = at2 S' m g) : S = S' := by
 apply List.ext_getElem?
 intro i
 rcases Nat.lt_or_ge i k.meals.length with q | q
 ·have la : i < S.length := by rw [h.len]; exact q
  have lb : i < S'.length := by rw [h'.len]; exact q
  rw [List.getElem?_eq_getElem la, List.getElem?_eq_getElem lb]
  congr 1
  apply List.ext_getElem?
  intro j
  have ra := h.row _ (List.getElem_mem la)
  have rb := h'.row _ (List.getElem_mem lb)
  rcases Nat.lt_or_ge j k.gifts.length with q2 | q2
  ·have := e i j q q2
   unfold at2 at this
   rw [List.getD_eq_getElem?_getD (l := S), List.getD_eq_getElem?_getD (l := S'), List.getElem?_eq_getElem la, List.getElem?_eq_getElem lb, Option.getD_some, Option.getD_some, List.getD_eq_getElem?_getD, List.getD_eq_getElem?_getD, List.getElem?_eq_getElem (by omega), List.getElem?_eq_getElem (by omega), Option.getD_some, Option.getD_some] at this
   rw [List.getElem?_eq_getElem (by omega), List.getElem?_eq_getElem (by omega), this]
  ·rw [List.getElem?_eq_none (by omega), List.getElem?_eq_none (by omega)]
 ·rw [List.getElem?_eq_none (by rw [h.len]; exact q), List.getElem?_eq_none (by rw [h'.len]; exact q)]
theorem srvOf_tot (l : List Int) (hl : l.length ≤ k.meals.length * k.gifts.length) : totK k (at2 (srvOf k l)) = l.sum := by
 have e : ∀ (l : List Int) (n : Nat), l.length ≤ n → sumTo n (fun j => l.getD j 0) = l.sum := by
  intro l
  induction l with
  | nil => intro n _; exact sumTo_zero' fun j _ => by simp
  | cons x l ih =>
   intro n hn
   rcases n with _ | n
   ·simp at hn
   ·rw [sumTo_front, List.sum_cons]
    simp only [List.getD_cons_zero, List.getD_cons_succ]
    rw [ih n (by simpa using hn)]
 rw [← e l _ hl, sumTo_mul]
 refine sumTo_congr fun m hm => sumTo_congr fun g hg => srvOf_at l hm hg
theorem srvOf_nil : srvOf k [] = srv0 k := by
 refine srv_ext (srvOf_srv (by simp)) (srv0_ok k) fun m g hm hg => ?_
 rw [srvOf_at _ hm hg, srv0_at]; simp
theorem feas_nil (V : KV k) : Feas k [] := ⟨Nat.zero_le _, by simp, by rw [srvOf_nil]; exact srv0_fits V⟩
theorem srvOf_snoc {l : List Int} (hl : ∀ x ∈ l, 0 ≤ x ∧ x ≤ 10000) {m g : Nat} (hm : m < k.meals.length) (hg : g < k.gifts.length) (hp : l.length = m * k.gifts.length + g) {n : Int} (h0 : 0 ≤ n) (h1 : n ≤ 10000) : srvOf k (l ++ [n]) = upd2 (srvOf k l) m g n := by
 have hs := srvOf_srv (k := k) hl
 refine srv_ext (srvOf_srv fun x hx => ?_) (hs.upd hm hg h0 h1) fun a b ha hb => ?_
 ·rcases List.mem_append.1 hx with hx | hx
  ·exact hl x hx
  ·rw [List.mem_singleton] at hx; omega
 ·rw [srvOf_at _ ha hb, at2_updS hs hm hg, srvOf_at _ ha hb, List.getD_eq_getElem?_getD]
  by_cases e : m = a ∧ g = b
  ·rw [if_pos e, ← e.1, ← e.2, ← hp, List.getElem?_append_right (Nat.le_refl _), Nat.sub_self]; rfl
  ·rw [if_neg e]
   have hne : a * k.gifts.length + b ≠ l.length := fun q => e (by
    obtain ⟨e1, e2⟩ := cell_uniq (n := k.gifts.length) (t := a) (t' := m) (i := b) (i' := g) hb hg (by omega)
    exact ⟨e2.symm, e1.symm⟩)
   rw [List.getD_eq_getElem?_getD]
   rcases Nat.lt_or_ge (a * k.gifts.length + b) l.length with q | q
   ·rw [List.getElem?_append_left q]
   ·rw [List.getElem?_eq_none q, List.getElem?_append_right q, List.getElem?_eq_none (by simp; omega)]
theorem feas_snoc (V : KV k) {l : List Int} (hl : Feas k l) {m g : Nat} (hm : m < k.meals.length) (hg : g < k.gifts.length) (hp : l.length = m * k.gifts.length + g) {n : Int} (h0 : 0 ≤ n) (h1 : n ≤ restV k (srvOf k l) m g) : Feas k (l ++ [n]) := by
 have hs := srvOf_srv (k := k) hl.bd
 have h3 : n ≤ 10000 := by
  have a := (giAt_V V hg).p1
  have b := (hs.gone g k.meals.length).1
  unfold restV at h1
  omega
 have hz : at2 (srvOf k l) m g = 0 := by
  rw [srvOf_at _ hm hg, ← hp, List.getD_eq_getElem?_getD, List.getElem?_eq_none (Nat.le_refl _)]; rfl
 refine ⟨?_, fun x hx => ?_, ?_⟩
 ·have := Nat.mul_le_mul_right k.gifts.length (show m + 1 ≤ k.meals.length by omega)
  rw [Nat.add_mul, Nat.one_mul] at this
  simp only [List.length_append, List.length_cons, List.length_nil]
  omega
 ·rcases List.mem_append.1 hx with hx | hx
  ·exact hl.bd x hx
  ·rw [List.mem_singleton] at hx; omega
 ·rw [srvOf_snoc hl.bd hm hg hp h0 h3]
  exact hl.fits.upd hs hm hg ((upd_fits hs hl.fits hm hg hz).2 h1)
end
end Go.Proofs.Ytmagiabapakhcaa

/- Whether a serving keeps all rules, on values. (Vm) -/
namespace Go.Proofs.Ytmagiabapakhcaa
def givL (k : Kn) (S : List (List Int)) (m g : Nat) : List Int := (List.range k.gifts.length).map fun b => goneT S b m + if b < g then at2 S m b else 0
theorem givL_len (k : Kn) (S : List (List Int)) (m g : Nat) : (givL k S m g).length = k.gifts.length := by simp [givL]
theorem givL_get {k : Kn} {S : List (List Int)} {m g b : Nat} (hb : b < k.gifts.length) : (givL k S m g)[b]? = some (goneT S b m + if b < g then at2 S m b else 0) := by
 unfold givL
 rw [List.getElem?_map, List.getElem?_range hb]; rfl
theorem givL_next (k : Kn) (S : List (List Int)) (m : Nat) : givL k S m k.gifts.length = givL k S (m + 1) 0 := by
 unfold givL
 refine List.map_congr_left fun b hb => ?_
 rw [List.mem_range] at hb
 rw [if_pos hb, if_neg (by omega), Int.add_zero]
 exact (sumTo_succ m fun a => at2 S a b).symm
theorem givL_set {k : Kn} {S : List (List Int)} {m g : Nat} (hg : g < k.gifts.length) : (givL k S m g).set g (goneT S g m + at2 S m g) = givL k S m (g + 1) := by
 apply List.ext_getElem?
 intro b
 rw [List.getElem?_set]
 rcases Nat.lt_or_ge b k.gifts.length with q | q
 ·rw [givL_get q, givL_get q]
  by_cases e : g = b
  ·subst e
   rw [if_pos rfl, if_pos (by rw [givL_len]; exact hg), if_pos (by omega)]
  ·rw [if_neg e]
   by_cases e2 : b < g
   ·rw [if_pos e2, if_pos (by omega)]
   ·rw [if_neg e2, if_neg (by omega)]
 ·rw [if_neg (by omega), List.getElem?_eq_none (by rw [givL_len]; exact q), List.getElem?_eq_none (by rw [givL_len]; exact q)]
theorem givL_0 (k : Kn) (S : List (List Int)) : givL k S 0 0 = List.replicate k.gifts.length 0 := by
 apply List.ext_getElem?
 intro b
 rw [List.getElem?_replicate]
 rcases Nat.lt_or_ge b k.gifts.length with q | q
 ·rw [givL_get q, if_pos q, if_neg (by omega)]; rfl
 ·rw [if_neg (by omega), List.getElem?_eq_none (by rw [givL_len]; exact q)]
end Go.Proofs.Ytmagiabapakhcaa
namespace Go.Proofs.Ytmagiabapakhcaa.Vm
open Go Go.Proofs
set_option maxHeartbeats 2000000 in
set_option maxRecDepth 8000 in
theorem serves_v (k : Kn) (V : KV k) (S : List (List Int)) (H : Srv k S) (F : Fits k S) (hin : ∀ m g, m < k.meals.length → g < k.gifts.length → 0 < at2 S m g → inP k m g = true) (M : Mem) : VC Try.prog 54 [kitV k, tabV S] M (fun r M' => M' = M ∧ r = .tup [vi (totK k (at2 S)), vb true]) := by
 have vm1 := V.m1
 have vg1 := V.g1
 obtain ⟨nG, hnG⟩ : ∃ nG, nG = k.gifts.length := ⟨_, rfl⟩
 obtain ⟨nM, hnM⟩ : ∃ nM, nM = k.meals.length := ⟨_, rfl⟩
 have hSl : S.length = nM := by rw [hnM]; exact H.len
 have k0 : ((nM : Int) = (nM : Int)) = True := eq_true rfl
 have q1 : (nG * 8 ≤ 140737488355328) = True := eq_true (by omega)
 have q2 : (nG ≤ 9223372036854775807) = True := eq_true (by omega)
 have ebd : ∀ m n, n ≤ 5 → 0 ≤ eatenT S m n ∧ eatenT S m n ≤ 50000 := fun m n hn => by
  have := H.eaten m n
  omega
 have gbd : ∀ g n, n ≤ 5 → 0 ≤ goneT S g n ∧ goneT S g n ≤ 50000 := fun g n hn => by
  have := H.gone g n
  omega
 have sbd : ∀ m, m ≤ 5 → 0 ≤ sumTo m (fun a => eatenT S a nG) ∧ sumTo m (fun a => eatenT S a nG) ≤ 250000 := fun m hm => by
  have := sumTo_bd (n := m) (f := fun a => eatenT S a nG) (a := 0) (b := 50000) fun a _ => ebd a nG (by omega)
  omega
 refine VC_own' T_ok (f := 54) (fn := Try.f54) (by kernel_rfl) rfl Try.ntmps54 (by rfl) (by rfl) ?_
 ((repeat refine Ws ?_);refine Wr ?_)
 simp (maxSteps := 1000000) only [VL,VM,↓VG,reduceIte,reduceCtorEq,zA,zB,zC,zD,zE,zF,zG,zH,zI,zJ]
 ((repeat refine Ws ?_);refine Wr ?_)
 simp (maxSteps := 1000000) only [VL,VM,↓VG,reduceIte,reduceCtorEq,zA,zB,zC,zD,zE,zF,zG,zH,zI,zJ, List.length_map, hSl, ← hnM, k0]
 ((repeat refine Ws ?_);refine Wf (by first|rfl|simp only [EV,zF,reduceIte]) ?_)
 ((repeat refine Ws ?_);refine W_skip ?_)
 simp (maxSteps := 1000000) only [VL,VM,↓VG,reduceIte,reduceCtorEq,zA,zB,zC,zD,zE,zF,zG,zH,zI,zJ]
 ((repeat refine Ws ?_);refine Wr ?_)
 simp (maxSteps := 1000000) only [VL,VM,↓VG,reduceIte,reduceCtorEq,zA,zB,zC,zD,zE,zF,zG,zH,zI,zJ, ← hnG, q1, q2, rep_flat]
 ((repeat refine Ws ?_);refine Wr ?_)
 simp (maxSteps := 1000000) only [VL,VM,↓VG,reduceIte,reduceCtorEq,zA,zB,zC,zD,zE,zF,zG,zH,zI,zJ]
 ((repeat refine Ws ?_);refine Wr ?_)
 simp (maxSteps := 1000000) only [VL,VM,↓VG,reduceIte,reduceCtorEq,zA,zB,zC,zD,zE,zF,zG,zH,zI,zJ]
 have z0 : List.replicate nG (vi 0) = (givL k S 0 0).map vi := by rw [givL_0, hnG]; simp
 rw [z0]
 ((repeat refine Ws ?_);refine W_block ?_; (repeat refine Ws ?_)); refine W_loopS (fun m : Nat => [(1, tabV S), (2, .ptr M.H.length 0), (6, .bf (M.H.length + 1) 0 nG 1), (7, vi (sumTo m fun a => eatenT S a nG)), (8, vi m)]) (fun m => ⟨M.H ++ [.obj (kitC k), .obj ((givL k S m 0).map vi)], M.lg⟩) (fun m => nM - m) (fun m => m ≤ nM) 0 (Nat.zero_le _) ⟨rfl, rfl, rfl, rfl, rfl, trivial⟩ rfl ?_
 intro m hm
 have k1 : -9223372036854775808 ≤ (m : Int) + 1 ∧ (m : Int) + 1 < 9223372036854775808 := by omega
 ((repeat refine Ws ?_);refine Wr ?_)
 rcases Nat.lt_or_ge m nM with hlt | hge
 ·have k2 : ((m : Int) < (nM : Int)) = True := eq_true (by omega)
  have hrow : S[m]? = some (S.getD m []) := by rw [List.getD_eq_getElem?_getD, List.getElem?_eq_getElem (by omega)]; rfl
  have hrl : (S.getD m []).length = nG := by
   rw [hnG]
   exact H.row _ (List.mem_of_getElem? hrow)
  have hrow' := map_at (f := rowP) hrow
  have hmeal := mealAt_get (k := k) (m := m) (by omega)
  have hfit := F.2 m (by omega)
  rw [← hnG] at hfit
  simp (maxSteps := 1000000) only [VL,VM,↓VG,reduceIte,reduceCtorEq,zA,zB,zC,zD,zE,zF,zG,zH,zI,zJ, List.length_map, hSl, k2]
  ((repeat refine Ws ?_);refine Wt (by first|rfl|simp only [EV,zF,reduceIte]) ?_)
  ((repeat refine Ws ?_);refine W_skip ?_)
  simp (maxSteps := 1000000) only [VL,VM,↓VG,reduceIte,reduceCtorEq,zA,zB,zC,zD,zE,zF,zG,zH,zI,zJ]
  ((repeat refine Ws ?_);refine W_block ?_)
  ((repeat refine Ws ?_);refine Wr ?_)
  simp (maxSteps := 1000000) only [VL,VM,↓VG,reduceIte,reduceCtorEq,zA,zB,zC,zD,zE,zF,zG,zH,zI,zJ]
  (repeat refine Ws ?_)
  refine W_drawP T_ok [] (by kernel_rfl) (by kernel_rfl) ?_
  generalize hi : mkPlan _ = infs
  cbv at hi
  subst hi
  simp (maxSteps := 1000000) only [VL,VM,↓VG,reduceIte,reduceCtorEq,zA,zB,zC,zD,zE,zF,zG,zH,zI,zJ, hrow', List.length_map, hrl, ← hnG, eq_self, decide_true, Bool.not_true]
  ((repeat refine Ws ?_);refine Wf (by first|rfl|simp only [EV,zF,reduceIte]) ?_)
  ((repeat refine Ws ?_);refine W_skip ?_)
  simp (maxSteps := 1000000) only [VL,VM,↓VG,reduceIte,reduceCtorEq,zA,zB,zC,zD,zE,zF,zG,zH,zI,zJ]
  ((repeat refine Ws ?_);refine Wr ?_)
  simp (maxSteps := 1000000) only [VL,VM,↓VG,reduceIte,reduceCtorEq,zA,zB,zC,zD,zE,zF,zG,zH,zI,zJ]
  ((repeat refine Ws ?_);refine W_block ?_; (repeat refine Ws ?_)); refine W_loopS (fun g : Nat => [(1, tabV S), (2, .ptr M.H.length 0), (6, .bf (M.H.length + 1) 0 nG 1), (7, vi ((sumTo m fun a => eatenT S a nG) + eatenT S m g)), (8, vi m), (9, vi (eatenT S m g)), (10, vi g)]) (fun g => ⟨M.H ++ [.obj (kitC k), .obj ((givL k S m g).map vi)], M.lg⟩) (fun g => nG - g) (fun g => g ≤ nG) 0 (Nat.zero_le _) ⟨rfl, rfl, rfl, ?_, rfl, rfl, rfl, trivial⟩ rfl ?_
  ·simp [get_cons, eatenT, sumTo_zero]
  intro g hg
  have k3 : -9223372036854775808 ≤ (g : Int) + 1 ∧ (g : Int) + 1 < 9223372036854775808 := by omega
  ((repeat refine Ws ?_);refine Wr ?_)
  rcases Nat.lt_or_ge g nG with hgl | hge
  ·have k4 : ((g : Int) < (nG : Int)) = True := eq_true (by omega)
   have hc : (S.getD m [])[g]? = some (at2 S m g) := by
    unfold at2
    rw [List.getD_eq_getElem?_getD (l := S.getD m []), List.getElem?_eq_getElem (by omega)]; rfl
   have hc' := map_at (f := intP) hc
   have hgi := giAt_get (k := k) (g := g) (by omega)
   have nn := H.nn m g
   have hh := H.hi m g
   have hi9 := hin m g (by omega) (by omega)
   have k5 : (at2 S m g < 0) = False := eq_false (by omega)
   have hes : eatenT S m (g + 1) = eatenT S m g + at2 S m g := sumTo_succ _ _
   have eb := ebd m g (by omega)
   have gb := gbd g m (by omega)
   have sb := sbd m (by omega)
   have hgl' := givL_get (k := k) (S := S) (m := m) (g := g) (b := g) (by omega)
   rw [if_neg (show ¬ g < g by omega), Int.add_zero] at hgl'
   have hgl2 := map_at (f := vi) hgl'
   have hset := givL_set (k := k) (S := S) (m := m) (g := g) (by omega)
   have sp : List.map vi (List.take g (givL k S m g)) ++ vi (goneT S g m + at2 S m g) :: List.map vi (List.drop (g + 1) (givL k S m g)) = List.map vi (givL k S m (g + 1)) := by
    rw [← hset, List.set_eq_take_append_cons_drop, if_pos (by rw [givL_len]; omega)]
    simp
   have le : (g + 1 ≤ (givL k S m g).length) = True := eq_true (by rw [givL_len]; omega)
   have r1 : -9223372036854775808 ≤ goneT S g m + at2 S m g ∧ goneT S g m + at2 S m g < 9223372036854775808 := by omega
   have r2 : -9223372036854775808 ≤ eatenT S m g + at2 S m g ∧ eatenT S m g + at2 S m g < 9223372036854775808 := by omega
   have r3 : -9223372036854775808 ≤ (sumTo m fun a => eatenT S a nG) + eatenT S m g + at2 S m g ∧ (sumTo m fun a => eatenT S a nG) + eatenT S m g + at2 S m g < 9223372036854775808 := by omega
   generalize hsm : (sumTo m fun a => eatenT S a nG) = sm at r3 ⊢
   simp (maxSteps := 1000000) only [VL,VM,↓VG,reduceIte,reduceCtorEq,zA,zB,zC,zD,zE,zF,zG,zH,zI,zJ, hrow', List.length_map, hrl, k4]
   ((repeat refine Ws ?_);refine Wt (by first|rfl|simp only [EV,zF,reduceIte]) ?_)
   ((repeat refine Ws ?_);refine W_skip ?_)
   simp (maxSteps := 1000000) only [VL,VM,↓VG,reduceIte,reduceCtorEq,zA,zB,zC,zD,zE,zF,zG,zH,zI,zJ]
   ((repeat refine Ws ?_);refine W_block ?_)
   ((repeat refine Ws ?_);refine Wr ?_)
   simp (maxSteps := 1000000) only [VL,VM,↓VG,reduceIte,reduceCtorEq,zA,zB,zC,zD,zE,zF,zG,zH,zI,zJ, hrow', hc']
   (repeat refine Ws ?_)
   refine W_then [(1, tabV S), (2, .ptr M.H.length 0), (6, .bf (M.H.length + 1) 0 nG 1), (7, vi (sm + eatenT S m g)), (8, vi m), (9, vi (eatenT S m g)), (10, vi g), (11, vi (at2 S m g)), (79, vb false)] ⟨M.H ++ [.obj (kitC k), .obj ((givL k S m g).map vi)], M.lg⟩ ?_ ?_
   ·((repeat refine Ws ?_);refine Wr ?_)
    by_cases h0 : 0 < at2 S m g
    ·have hp := inR_true.1 (hi9 h0)
     have k6 : (0 < at2 S m g) = True := eq_true h0
     have k7 : ((m : Int) < (giAt k g).from_) = False := eq_false (by omega)
     have k8 : ((giAt k g).keeps < (m : Int)) = False := eq_false (by omega)
     simp (maxSteps := 1000000) only [VL,VM,↓VG,reduceIte,reduceCtorEq,zA,zB,zC,zD,zE,zF,zG,zH,zI,zJ, k5, k6, k7, k8, hgi]
     exact ⟨rfl, rfl, rfl, rfl, rfl, rfl, rfl, rfl, rfl, trivial⟩
    ·have k6 : (0 < at2 S m g) = False := eq_false h0
     simp (maxSteps := 1000000) only [VL,VM,↓VG,reduceIte,reduceCtorEq,zA,zB,zC,zD,zE,zF,zG,zH,zI,zJ, k5, k6, hgi]
     exact ⟨rfl, rfl, rfl, rfl, rfl, rfl, rfl, rfl, rfl, trivial⟩
   intro e' hS
   refine WCode.weak (e' := [(1, tabV S), (2, .ptr M.H.length 0), (6, .bf (M.H.length + 1) 0 nG 1), (7, vi (sm + eatenT S m g)), (8, vi m), (9, vi (eatenT S m g)), (10, vi g), (11, vi (at2 S m g)), (79, vb false)]) ?_ (Sub.ok hS)
   ((repeat refine Ws ?_);refine Wf (by first|rfl|simp only [EV,zF,reduceIte]) ?_)
   ((repeat refine Ws ?_);refine W_skip ?_)
   simp (maxSteps := 1000000) only [VL,VM,↓VG,reduceIte,reduceCtorEq,zA,zB,zC,zD,zE,zF,zG,zH,zI,zJ]
   ((repeat refine Ws ?_);refine Wr ?_)
   simp (maxSteps := 1000000) only [VL,VM,↓VG,reduceIte,reduceCtorEq,zA,zB,zC,zD,zE,zF,zG,zH,zI,zJ, eq_true hgl, hgl2, le, sp, r1, r2, r3]
   ((repeat refine Ws ?_);refine Wr ?_)
   simp (maxSteps := 1000000) only [VL,VM,↓VG,reduceIte,reduceCtorEq,zA,zB,zC,zD,zE,zF,zG,zH,zI,zJ, k3]
   refine LoopK.mk (g + 1) (by omega) (by omega) ⟨rfl, rfl, rfl, ?_, rfl, ?_, rfl, trivial⟩ rfl
   ·rw [hes, ← Int.add_assoc]; rfl
   ·rw [hes]; rfl
  have k4 : ((g : Int) < (nG : Int)) = False := eq_false (by omega)
  obtain rfl : g = nG := by omega
  simp (maxSteps := 1000000) only [VL,VM,↓VG,reduceIte,reduceCtorEq,zA,zB,zC,zD,zE,zF,zG,zH,zI,zJ, hrow', List.length_map, hrl, k4]
  ((repeat refine Ws ?_);refine Wf (by first|rfl|simp only [EV,zF,reduceIte]) ?_)
  ((repeat refine Ws ?_);refine W_exit ?_)
  simp (maxSteps := 1000000) only [VL,VM,↓VG,reduceIte,reduceCtorEq,zA,zB,zC,zD,zE,zF,zG,zH,zI,zJ]
  have k5 : (mealAt k m < eatenT S m g) = False := eq_false (by omega)
  ((repeat refine Ws ?_);refine Wr ?_)
  simp (maxSteps := 1000000) only [VL,VM,↓VG,reduceIte,reduceCtorEq,zA,zB,zC,zD,zE,zF,zG,zH,zI,zJ, hmeal, k5]
  ((repeat refine Ws ?_);refine Wf (by first|rfl|simp only [EV,zF,reduceIte]) ?_)
  ((repeat refine Ws ?_);refine W_skip ?_)
  simp (maxSteps := 1000000) only [VL,VM,↓VG,reduceIte,reduceCtorEq,zA,zB,zC,zD,zE,zF,zG,zH,zI,zJ]
  have hgn := givL_next k S m
  rw [← hnG] at hgn
  rw [hgn]
  ((repeat refine Ws ?_);refine Wr ?_)
  simp (maxSteps := 1000000) only [VL,VM,↓VG,reduceIte,reduceCtorEq,zA,zB,zC,zD,zE,zF,zG,zH,zI,zJ, k1]
  refine LoopK.mk (m + 1) (by omega) (by omega) ⟨rfl, rfl, rfl, ?_, rfl, trivial⟩ rfl
  rw [sumTo_succ]; rfl
 have k2 : ((m : Int) < (nM : Int)) = False := eq_false (by omega)
 obtain rfl : m = nM := by omega
 simp (maxSteps := 1000000) only [VL,VM,↓VG,reduceIte,reduceCtorEq,zA,zB,zC,zD,zE,zF,zG,zH,zI,zJ, List.length_map, hSl, k2]
 ((repeat refine Ws ?_);refine Wf (by first|rfl|simp only [EV,zF,reduceIte]) ?_)
 ((repeat refine Ws ?_);refine W_exit ?_)
 simp (maxSteps := 1000000) only [VL,VM,↓VG,reduceIte,reduceCtorEq,zA,zB,zC,zD,zE,zF,zG,zH,zI,zJ]
 clear k1 k2 hge hm z0
 ((repeat refine Ws ?_);refine Wr ?_)
 simp (maxSteps := 1000000) only [VL,VM,↓VG,reduceIte,reduceCtorEq,zA,zB,zC,zD,zE,zF,zG,zH,zI,zJ]
 ((repeat refine Ws ?_);refine W_block ?_; (repeat refine Ws ?_)); refine W_loopS (fun g : Nat => [(2, .ptr M.H.length 0), (6, .bf (M.H.length + 1) 0 nG 1), (7, vi (sumTo m fun a => eatenT S a nG)), (12, vi g)]) (fun g => ⟨M.H ++ [.obj (kitC k), .obj ((givL k S m 0).map vi)], M.lg⟩) (fun g => nG - g) (fun g => g ≤ nG) 0 (Nat.zero_le _) ⟨rfl, rfl, rfl, rfl, trivial⟩ rfl ?_
 intro g hg
 have k3 : -9223372036854775808 ≤ (g : Int) + 1 ∧ (g : Int) + 1 < 9223372036854775808 := by omega
 ((repeat refine Ws ?_);refine Wr ?_)
 rcases Nat.lt_or_ge g nG with hgl | hge
 ·have k4 : ((g : Int) < (nG : Int)) = True := eq_true (by omega)
  have hgi := giAt_get (k := k) (g := g) (by omega)
  have hgl' := givL_get (k := k) (S := S) (m := m) (g := 0) (b := g) (by omega)
  rw [if_neg (show ¬ g < 0 by omega), Int.add_zero] at hgl'
  have hgl2 := map_at (f := vi) hgl'
  have hfit := F.1 g (by omega)
  rw [← hnM] at hfit
  have k5 : ((giAt k g).portions < goneT S g m) = False := eq_false (by omega)
  simp (maxSteps := 1000000) only [VL,VM,↓VG,reduceIte,reduceCtorEq,zA,zB,zC,zD,zE,zF,zG,zH,zI,zJ, k4]
  ((repeat refine Ws ?_);refine Wt (by first|rfl|simp only [EV,zF,reduceIte]) ?_)
  ((repeat refine Ws ?_);refine W_skip ?_)
  simp (maxSteps := 1000000) only [VL,VM,↓VG,reduceIte,reduceCtorEq,zA,zB,zC,zD,zE,zF,zG,zH,zI,zJ]
  ((repeat refine Ws ?_);refine W_block ?_)
  (repeat refine Ws ?_)
  refine W_drawP T_ok [] (by kernel_rfl) (by kernel_rfl) ?_
  generalize hi : mkPlan _ = infs
  cbv at hi
  subst hi
  simp (maxSteps := 1000000) only [VL,VM,↓VG,reduceIte,reduceCtorEq,zA,zB,zC,zD,zE,zF,zG,zH,zI,zJ, eq_true hgl, hgl2, hgi, k5]
  ((repeat refine Ws ?_);refine Wf (by first|rfl|simp only [EV,zF,reduceIte]) ?_)
  ((repeat refine Ws ?_);refine W_skip ?_)
  simp (maxSteps := 1000000) only [VL,VM,↓VG,reduceIte,reduceCtorEq,zA,zB,zC,zD,zE,zF,zG,zH,zI,zJ]
  ((repeat refine Ws ?_);refine Wr ?_)
  simp (maxSteps := 1000000) only [VL,VM,↓VG,reduceIte,reduceCtorEq,zA,zB,zC,zD,zE,zF,zG,zH,zI,zJ, k3]
  exact LoopK.mk (g + 1) (by omega) (by omega) ⟨rfl, rfl, rfl, rfl, trivial⟩ rfl
 have k4 : ((g : Int) < (nG : Int)) = False := eq_false (by omega)
 obtain rfl : g = nG := by omega
 simp (maxSteps := 1000000) only [VL,VM,↓VG,reduceIte,reduceCtorEq,zA,zB,zC,zD,zE,zF,zG,zH,zI,zJ, k4]
 ((repeat refine Ws ?_);refine Wf (by first|rfl|simp only [EV,zF,reduceIte]) ?_)
 ((repeat refine Ws ?_);refine W_exit ?_)
 simp (maxSteps := 1000000) only [VL,VM,↓VG,reduceIte,reduceCtorEq,zA,zB,zC,zD,zE,zF,zG,zH,zI,zJ]
 ((repeat refine Ws ?_);refine Wr ?_)
 simp (maxSteps := 1000000) only [VL,VM,↓VG,reduceIte,reduceCtorEq,zA,zB,zC,zD,zE,zF,zG,zH,zI,zJ]
 (repeat refine Ws ?_)
 refine W_ret ?_
 try simp only [thenQ, blockQ]
 refine own_ret (vs := [vi (sumTo m fun a => eatenT S a g), vb true]) (r := .tup [vi (sumTo m fun a => eatenT S a g), vb true]) rfl (by simp [vtup, frz, frzL]) (by simp [refs, refsL]) ⟨rfl, ?_⟩
 rw [hnG, hnM]; rfl
end Go.Proofs.Ytmagiabapakhcaa.Vm
