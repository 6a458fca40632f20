/- A part of the proofs about the chapter of the doors; it states no condition of its own. -/
import Derived.Test.YtmagiabapakhcaaB46
import Derived.Test.YtmagiabapakhcaaB47
set_option linter.unusedVariables false
set_option linter.unusedSimpArgs false
/- Pair by pair: what is served is settled once, and no serving is better, plain. -/
namespace Go.Proofs.Ytmagiabapakhcaa
theorem tot_upd {k : Kn} {S : List (List Int)} (H : Srv k S) {m g : Nat} (hm : m < k.meals.length) (hg : g < k.gifts.length) (x : Int) : totK k (at2 (upd2 S m g x)) = totK k (at2 S) + (x - at2 S m g) := by
 have := bump_tot hm hg (at2 S) (x - at2 S m g)
 have e : totT k.gifts.length k.meals.length (bumpT (at2 S) m g (x - at2 S m g)) = totK k (at2 (upd2 S m g x)) := by
  unfold totT
  refine sumTo_congr fun a _ => sumTo_congr fun b _ => ?_
  rw [at2_updS H hm hg]
  unfold bumpT
  by_cases e : a = m ∧ b = g
  ·rw [if_pos e, if_pos ⟨e.1.symm, e.2.symm⟩, e.1, e.2]; omega
  ·rw [if_neg e, if_neg (fun q => e ⟨q.1.symm, q.2.symm⟩)]; omega
 rw [← e, this]
structure FeedZ (k : Kn) (p : Nat) (st : List (List Int) × Int) : Prop where
 i : FeedI k p st
 tot : totK k (at2 st.1) + st.2 = fedV k (srv0 k) (-1) 0
 inn : ∀ m g, m < k.meals.length → g < k.gifts.length → 0 < at2 st.1 m g → inP k m g = true
section
variable {k : Kn}
theorem FeedZ.step (V : KV k) {m g : Nat} (hm : m < k.meals.length) (hg : g < k.gifts.length) {st : List (List Int) × Int} (h : FeedZ k (m * k.gifts.length + g) st) : FeedZ k (m * k.gifts.length + g + 1) (feedStep k m st g) := by
 refine ⟨h.i.step V hm hg, ?_, fun a b ha hb h0 => ?_⟩
 ·have h1 := h.tot
  have hz := h.i.z m g hm hg (Nat.le_refl _)
  unfold feedStep
  split
  ·simp only
   rw [tot_upd h.i.ok.srv hm hg, hz]
   omega
  ·exact h1
 ·unfold feedStep at h0
  split at h0
  ·rename_i hi
   simp only at h0
   rw [at2_updS h.i.ok.srv hm hg] at h0
   by_cases e : m = a ∧ g = b
   ·rw [← e.1, ← e.2]; exact hi
   ·rw [if_neg e] at h0
    exact h.inn a b ha hb h0
  ·exact h.inn a b ha hb h0
theorem srv_ext {S S' : List (List Int)} (h : Srv k S) (h' : Srv k S') (e : ∀ m g, m < k.meals.length → g < k.gifts.length → at2 S m g = at2 S' m g) : S = S' := by
 apply List.ext_getElem?
 intro i
 rcases Nat.lt_or_ge i k.meals.length with q | q
 ·have la : i < S.length := by rw [h.len]; exact q
  have lb : i < S'.length := by rw [h'.len]; exact q
  rw [List.getElem?_eq_getElem la, List.getElem?_eq_getElem lb]
  congr 1
  apply List.ext_getElem?
  intro j
  have ra := h.row _ (List.getElem_mem la)
  have rb := h'.row _ (List.getElem_mem lb)
  rcases Nat.lt_or_ge j k.gifts.length with q2 | q2
  ·have := e i j q q2
   unfold at2 at this
   rw [List.getD_eq_getElem?_getD (l := S), List.getD_eq_getElem?_getD (l := S'), List.getElem?_eq_getElem la, List.getElem?_eq_getElem lb, Option.getD_some, Option.getD_some, List.getD_eq_getElem?_getD, List.getD_eq_getElem?_getD, List.getElem?_eq_getElem (by omega), List.getElem?_eq_getElem (by omega), Option.getD_some, Option.getD_some] at this
   rw [List.getElem?_eq_getElem (by omega), List.getElem?_eq_getElem (by omega), this]
  ·rw [List.getElem?_eq_none (by omega), List.getElem?_eq_none (by omega)]
 ·rw [List.getElem?_eq_none (by rw [h.len]; exact q), List.getElem?_eq_none (by rw [h'.len]; exact q)]
theorem srvOf_nil : srvOf k [] = srv0 k := by
 refine srv_ext (srvOf_srv (by simp)) (srv0_ok k) fun m g hm hg => ?_
 rw [srvOf_at _ hm hg, srv0_at]; simp
theorem feas_nil (V : KV k) : Feas k [] := ⟨Nat.zero_le _, by simp, by rw [srvOf_nil]; exact srv0_fits V⟩
end
end Go.Proofs.Ytmagiabapakhcaa

/- Whether a serving keeps all rules, on values. (Vm) -/
namespace Go.Proofs.Ytmagiabapakhcaa
end Go.Proofs.Ytmagiabapakhcaa
namespace Go.Proofs.Ytmagiabapakhcaa.Vm
open Go Go.Proofs
end Go.Proofs.Ytmagiabapakhcaa.Vm
