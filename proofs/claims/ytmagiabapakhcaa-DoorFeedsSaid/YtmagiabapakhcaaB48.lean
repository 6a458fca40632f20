/- A part of the proofs about the chapter of the doors; it states no condition of its own. -/
import Derived.Test.YtmagiabapakhcaaB46
import Derived.Test.YtmagiabapakhcaaB47
set_option linter.unusedVariables false
set_option linter.unusedSimpArgs false
/- Pair by pair: what is served is settled once, and no serving is better, plain. -/
namespace Go.Proofs.Ytmagiabapakhcaa
noncomputable def feedP (k : Kn) : Nat → List (List Int) × Int
 | 0 => feedTo k 0
 | p + 1 => feedStep k (p / k.gifts.length) (feedP k p) (p % k.gifts.length)
theorem pair_div {nG m g : Nat} (hg : g < nG) : (m * nG + g) / nG = m ∧ (m * nG + g) % nG = g :=
 ⟨by rw [Nat.mul_comm m, Nat.mul_add_div (by omega), Nat.div_eq_of_lt hg]; rfl, by rw [Nat.mul_comm m, Nat.mul_add_mod, Nat.mod_eq_of_lt hg]⟩
theorem feedP_row (k : Kn) (m : Nat) (h : feedP k (m * k.gifts.length) = feedTo k m) : ∀ g, g ≤ k.gifts.length → feedP k (m * k.gifts.length + g) = feedIn k m g
 | 0, _ => h
 | g + 1, hg => by
  obtain ⟨h1, h2⟩ := pair_div (m := m) (show g < k.gifts.length by omega)
  rw [← Nat.add_assoc, feedP, feedP_row k m h g (by omega), h1, h2, feedIn_succ]
theorem feedP_to (k : Kn) : ∀ n, feedP k (n * k.gifts.length) = feedTo k n
 | 0 => by rw [Nat.zero_mul]; rfl
 | n + 1 => by
  rw [Nat.add_mul, Nat.one_mul, feedP_row k n (feedP_to k n) _ (Nat.le_refl _), feedTo_succ]
theorem tot_upd {k : Kn} {S : List (List Int)} (H : Srv k S) {m g : Nat} (hm : m < k.meals.length) (hg : g < k.gifts.length) (x : Int) : totK k (at2 (upd2 S m g x)) = totK k (at2 S) + (x - at2 S m g) := by
 have := bump_tot hm hg (at2 S) (x - at2 S m g)
 have e : totT k.gifts.length k.meals.length (bumpT (at2 S) m g (x - at2 S m g)) = totK k (at2 (upd2 S m g x)) := by
  unfold totT
  refine sumTo_congr fun a _ => sumTo_congr fun b _ => ?_
  rw [at2_updS H hm hg]
  unfold bumpT
  by_cases e : a = m ∧ b = g
  ·rw [if_pos e, if_pos ⟨e.1.symm, e.2.symm⟩, e.1, e.2]; omega
  ·rw [if_neg e, if_neg (fun q => e ⟨q.1.symm, q.2.symm⟩)]; omega
 rw [← e, this]
structure FeedZ (k : Kn) (p : Nat) (st : List (List Int) × Int) : Prop where
 i : FeedI k p st
 tot : totK k (at2 st.1) + st.2 = fedV k (srv0 k) (-1) 0
 inn : ∀ m g, m < k.meals.length → g < k.gifts.length → 0 < at2 st.1 m g → inP k m g = true
section
variable {k : Kn}
theorem FeedZ.step (V : KV k) {m g : Nat} (hm : m < k.meals.length) (hg : g < k.gifts.length) {st : List (List Int) × Int} (h : FeedZ k (m * k.gifts.length + g) st) : FeedZ k (m * k.gifts.length + g + 1) (feedStep k m st g) := by
 refine ⟨h.i.step V hm hg, ?_, fun a b ha hb h0 => ?_⟩
 ·have h1 := h.tot
  have hz := h.i.z m g hm hg (Nat.le_refl _)
  unfold feedStep
  split
  ·simp only
   rw [tot_upd h.i.ok.srv hm hg, hz]
   omega
  ·exact h1
 ·unfold feedStep at h0
  split at h0
  ·rename_i hi
   simp only at h0
   rw [at2_updS h.i.ok.srv hm hg] at h0
   by_cases e : m = a ∧ g = b
   ·rw [← e.1, ← e.2]; exact hi
   ·rw [if_neg e] at h0
    exact h.inn a b ha hb h0
  ·exact h.inn a b ha hb h0
theorem feedP_Z (V : KV k) : ∀ p, p ≤ k.meals.length * k.gifts.length → FeedZ k p (feedP k p)
 | 0, _ => by
  refine ⟨FeedI.start V, ?_, fun m g _ _ h => ?_⟩
  ·show totK k (at2 (srv0 k)) + fedV k (srv0 k) (-1) 0 = _
   have : totK k (at2 (srv0 k)) = 0 := sumTo_zero' fun m _ => sumTo_zero' fun g _ => srv0_at k m g
   omega
  ·have e : at2 (feedP k 0).1 m g = 0 := srv0_at k m g
   omega
 | p + 1, hp => by
  have h := feedP_Z V p (by omega)
  have hG : 0 < k.gifts.length := by
   rcases Nat.eq_zero_or_pos k.gifts.length with e | e
   ·rw [e, Nat.mul_zero] at hp; omega
   ·exact e
  have hg : p % k.gifts.length < k.gifts.length := Nat.mod_lt _ hG
  have hm : p / k.gifts.length < k.meals.length := Nat.div_lt_of_lt_mul (by rw [Nat.mul_comm]; omega)
  have hpp : p / k.gifts.length * k.gifts.length + p % k.gifts.length = p := by rw [Nat.mul_comm]; exact Nat.div_add_mod p k.gifts.length
  rw [← hpp] at h
  have := h.step V hm hg
  rw [hpp] at this
  exact this
theorem feedP_keep (V : KV k) {a b : Nat} (ha : a < k.meals.length) (hb : b < k.gifts.length) {p : Nat} (h : a * k.gifts.length + b < p) : ∀ d, p + d ≤ k.meals.length * k.gifts.length → at2 (feedP k (p + d)).1 a b = at2 (feedP k p).1 a b
 | 0, _ => rfl
 | d + 1, hd => by
  have ih := feedP_keep V ha hb h d (by omega)
  have hz := feedP_Z V (p + d) (by omega)
  have hG : 0 < k.gifts.length := by omega
  have hg : (p + d) % k.gifts.length < k.gifts.length := Nat.mod_lt _ hG
  have hm : (p + d) / k.gifts.length < k.meals.length := Nat.div_lt_of_lt_mul (by rw [Nat.mul_comm]; omega)
  have hpp : (p + d) / k.gifts.length * k.gifts.length + (p + d) % k.gifts.length = p + d := by rw [Nat.mul_comm]; exact Nat.div_add_mod (p + d) k.gifts.length
  rw [← ih, ← Nat.add_assoc, feedP]
  unfold feedStep
  split
  ·simp only
   rw [at2_updS hz.i.ok.srv hm hg, if_neg (fun q => by rw [q.1, q.2] at hpp; omega)]
  ·rfl
noncomputable def feedS (k : Kn) : List (List Int) := (feedTo k k.meals.length).1
theorem feedS_at (V : KV k) {p a b : Nat} (hp : p ≤ k.meals.length * k.gifts.length) (ha : a < k.meals.length) (hb : b < k.gifts.length) : at2 (feedP k p).1 a b = if a * k.gifts.length + b < p then at2 (feedS k) a b else 0 := by
 split
 ·rename_i h
  have := feedP_keep V ha hb h (k.meals.length * k.gifts.length - p) (by omega)
  rw [show p + (k.meals.length * k.gifts.length - p) = k.meals.length * k.gifts.length by omega, feedP_to] at this
  exact this.symm
 ·rename_i h
  exact (feedP_Z V p hp).i.z a b ha hb (by omega)
theorem feed_Z (V : KV k) : FeedZ k (k.meals.length * k.gifts.length) (feedTo k k.meals.length) := by
 have := feedP_Z V _ (Nat.le_refl _)
 rw [feedP_to] at this
 exact this
noncomputable def feedL (k : Kn) (p : Nat) : List Int := (List.range p).map fun j => at2 (feedS k) (j / k.gifts.length) (j % k.gifts.length)
theorem feedL_len (p : Nat) : (feedL k p).length = p := by simp [feedL]
theorem feedL_succ (p : Nat) : feedL k (p + 1) = feedL k p ++ [at2 (feedS k) (p / k.gifts.length) (p % k.gifts.length)] := by
 unfold feedL
 rw [List.range_succ, List.map_append]; rfl
theorem feedL_at {p m g : Nat} (hg : g < k.gifts.length) : (feedL k p).getD (m * k.gifts.length + g) 0 = if m * k.gifts.length + g < p then at2 (feedS k) m g else 0 := by
 obtain ⟨h1, h2⟩ := pair_div (m := m) hg
 unfold feedL
 rw [List.getD_eq_getElem?_getD, List.getElem?_map]
 split
 ·rename_i h
  rw [List.getElem?_range h]
  simp only [Option.map_some, Option.getD_some]
  rw [h1, h2]
 ·rename_i h
  rw [List.getElem?_eq_none (by simpa using h)]; rfl
theorem srv_ext {S S' : List (List Int)} (h : Srv k S) (h' : Srv k S') (e : ∀ m g, m < k.meals.length → g < k.gifts.length → at2 S m g = at2 S' m g) : S = S' := by
 apply List.ext_getElem?
 intro i
 rcases Nat.lt_or_ge i k.meals.length with q | q
 ·have la : i < S.length := by rw [h.len]; exact q
  have lb : i < S'.length := by rw [h'.len]; exact q
  rw [List.getElem?_eq_getElem la, List.getElem?_eq_getElem lb]
  congr 1
  apply List.ext_getElem?
  intro j
  have ra := h.row _ (List.getElem_mem la)
  have rb := h'.row _ (List.getElem_mem lb)
  rcases Nat.lt_or_ge j k.gifts.length with q2 | q2
  ·have := e i j q q2
   unfold at2 at this
   rw [List.getD_eq_getElem?_getD (l := S), List.getD_eq_getElem?_getD (l := S'), List.getElem?_eq_getElem la, List.getElem?_eq_getElem lb, Option.getD_some, Option.getD_some, List.getD_eq_getElem?_getD, List.getD_eq_getElem?_getD, List.getElem?_eq_getElem (by omega), List.getElem?_eq_getElem (by omega), Option.getD_some, Option.getD_some] at this
   rw [List.getElem?_eq_getElem (by omega), List.getElem?_eq_getElem (by omega), this]
  ·rw [List.getElem?_eq_none (by omega), List.getElem?_eq_none (by omega)]
 ·rw [List.getElem?_eq_none (by rw [h.len]; exact q), List.getElem?_eq_none (by rw [h'.len]; exact q)]
theorem feedL_bd (V : KV k) (p : Nat) : ∀ x ∈ feedL k p, 0 ≤ x ∧ x ≤ 10000 := by
 intro x hx
 obtain ⟨j, _, rfl⟩ := List.mem_map.1 hx
 exact ⟨(feed_Z V).i.ok.srv.nn _ _, (feed_Z V).i.ok.srv.hi _ _⟩
theorem feedL_srv (V : KV k) {p : Nat} (hp : p ≤ k.meals.length * k.gifts.length) : srvOf k (feedL k p) = (feedP k p).1 := by
 refine srv_ext (srvOf_srv (feedL_bd V p)) (feedP_Z V p hp).i.ok.srv fun m g hm hg => ?_
 rw [srvOf_at _ hm hg, feedL_at hg, feedS_at V hp hm hg]
theorem srvOf_tot (l : List Int) (hl : l.length ≤ k.meals.length * k.gifts.length) : totK k (at2 (srvOf k l)) = l.sum := by
 have e : ∀ (l : List Int) (n : Nat), l.length ≤ n → sumTo n (fun j => l.getD j 0) = l.sum := by
  intro l
  induction l with
  | nil => intro n _; exact sumTo_zero' fun j _ => by simp
  | cons x l ih =>
   intro n hn
   rcases n with _ | n
   ·simp at hn
   ·rw [sumTo_front, List.sum_cons]
    simp only [List.getD_cons_zero, List.getD_cons_succ]
    rw [ih n (by simpa using hn)]
 rw [← e l _ hl, sumTo_mul]
 refine sumTo_congr fun m hm => sumTo_congr fun g hg => srvOf_at l hm hg
theorem feedL_sum (V : KV k) {p : Nat} (hp : p ≤ k.meals.length * k.gifts.length) : (feedL k p).sum + (feedP k p).2 = fedV k (srv0 k) (-1) 0 := by
 have h := (feedP_Z V p hp).tot
 rw [← feedL_srv V hp, srvOf_tot _ (by rw [feedL_len]; exact hp)] at h
 exact h
theorem srvOf_nil : srvOf k [] = srv0 k := by
 refine srv_ext (srvOf_srv (by simp)) (srv0_ok k) fun m g hm hg => ?_
 rw [srvOf_at _ hm hg, srv0_at]; simp
theorem feas_nil (V : KV k) : Feas k [] := ⟨Nat.zero_le _, by simp, by rw [srvOf_nil]; exact srv0_fits V⟩
theorem eaten_all (V : KV k) {v : Int} (h : MostE k (srvOf k []) 0 v) : v = fedV k (srv0 k) (-1) 0 := by
 rw [srvOf_nil] at h
 exact h.unique (fedV_E V (srv0_ok k) (srv0_fits V) room_0)
theorem srvOf_snoc {l : List Int} (hl : ∀ x ∈ l, 0 ≤ x ∧ x ≤ 10000) {m g : Nat} (hm : m < k.meals.length) (hg : g < k.gifts.length) (hp : l.length = m * k.gifts.length + g) {n : Int} (h0 : 0 ≤ n) (h1 : n ≤ 10000) : srvOf k (l ++ [n]) = upd2 (srvOf k l) m g n := by
 have hs := srvOf_srv (k := k) hl
 refine srv_ext (srvOf_srv fun x hx => ?_) (hs.upd hm hg h0 h1) fun a b ha hb => ?_
 ·rcases List.mem_append.1 hx with hx | hx
  ·exact hl x hx
  ·rw [List.mem_singleton] at hx; omega
 ·rw [srvOf_at _ ha hb, at2_updS hs hm hg, srvOf_at _ ha hb, List.getD_eq_getElem?_getD]
  by_cases e : m = a ∧ g = b
  ·rw [if_pos e, ← e.1, ← e.2, ← hp, List.getElem?_append_right (Nat.le_refl _), Nat.sub_self]; rfl
  ·rw [if_neg e]
   have hne : a * k.gifts.length + b ≠ l.length := fun q => e (by
    obtain ⟨e1, e2⟩ := cell_uniq (n := k.gifts.length) (t := a) (t' := m) (i := b) (i' := g) hb hg (by omega)
    exact ⟨e2.symm, e1.symm⟩)
   rw [List.getD_eq_getElem?_getD]
   rcases Nat.lt_or_ge (a * k.gifts.length + b) l.length with q | q
   ·rw [List.getElem?_append_left q]
   ·rw [List.getElem?_eq_none q, List.getElem?_append_right q, List.getElem?_eq_none (by simp; omega)]
theorem feas_snoc (V : KV k) {l : List Int} (hl : Feas k l) {m g : Nat} (hm : m < k.meals.length) (hg : g < k.gifts.length) (hp : l.length = m * k.gifts.length + g) {n : Int} (h0 : 0 ≤ n) (h1 : n ≤ restV k (srvOf k l) m g) : Feas k (l ++ [n]) := by
 have hs := srvOf_srv (k := k) hl.bd
 have h3 : n ≤ 10000 := by
  have a := (giAt_V V hg).p1
  have b := (hs.gone g k.meals.length).1
  unfold restV at h1
  omega
 have hz : at2 (srvOf k l) m g = 0 := by
  rw [srvOf_at _ hm hg, ← hp, List.getD_eq_getElem?_getD, List.getElem?_eq_none (Nat.le_refl _)]; rfl
 refine ⟨?_, fun x hx => ?_, ?_⟩
 ·have := Nat.mul_le_mul_right k.gifts.length (show m + 1 ≤ k.meals.length by omega)
  rw [Nat.add_mul, Nat.one_mul] at this
  simp only [List.length_append, List.length_cons, List.length_nil]
  omega
 ·rcases List.mem_append.1 hx with hx | hx
  ·exact hl.bd x hx
  ·rw [List.mem_singleton] at hx; omega
 ·rw [srvOf_snoc hl.bd hm hg hp h0 h3]
  exact hl.fits.upd hs hm hg ((upd_fits hs hl.fits hm hg hz).2 h1)
end
end Go.Proofs.Ytmagiabapakhcaa

/- Whether a serving keeps all rules, on values. (Vm) -/
namespace Go.Proofs.Ytmagiabapakhcaa
end Go.Proofs.Ytmagiabapakhcaa
namespace Go.Proofs.Ytmagiabapakhcaa.Vm
open Go Go.Proofs
end Go.Proofs.Ytmagiabapakhcaa.Vm
