/- A part of the proofs about the chapter of the doors; it states no condition of its own. -/
import Derived.Test.YtmagiabapakhcaaB38
import Derived.Test.YtmagiabapakhcaaB48
import Derived.Test.YtmagiabapakhcaaB49
set_option linter.unusedVariables false
set_option linter.unusedSimpArgs false
/- No serving is better than that of Feed, plain. -/
namespace Go.Proofs.Ytmagiabapakhcaa
structure Pfx (k : Kn) (l : List Int) : Prop where
 f : Feas k l
 inn : ∀ m g, m < k.meals.length → g < k.gifts.length → 0 < at2 (srvOf k l) m g → inP k m g = true
theorem getD_past {l : List Int} {i : Nat} (h : l.length ≤ i) : l.getD i 0 = 0 := by rw [List.getD_eq_getElem?_getD, List.getElem?_eq_none h]; rfl
theorem goneL_past (l : List Int) (nG g : Nat) : ∀ d, goneL l nG g (l.length + d) = goneL l nG g l.length
 | 0 => rfl
 | d + 1 => by
  rw [← Nat.add_assoc, goneL_succ, goneL_past l nG g d, getD_past (by omega), ite_self, Int.add_zero]
theorem eatL_past (l : List Int) (nG m : Nat) : ∀ d, eatL l nG m (l.length + d) = eatL l nG m l.length
 | 0 => rfl
 | d + 1 => by
  rw [← Nat.add_assoc, eatL_succ, eatL_past l nG m d, getD_past (by omega), ite_self, Int.add_zero]
section
variable {k : Kn} {l : List Int}
theorem gone_len (hl : l.length ≤ k.meals.length * k.gifts.length) {g : Nat} (hg : g < k.gifts.length) : goneL l k.gifts.length g l.length = goneT (srvOf k l) g k.meals.length := by
 rw [← goneL_all l hg, ← goneL_past l k.gifts.length g (k.meals.length * k.gifts.length - l.length)]
 congr 1
 omega
theorem eat_len (hl : l.length ≤ k.meals.length * k.gifts.length) {m : Nat} (hm : m < k.meals.length) : eatL l k.gifts.length m l.length = eatenT (srvOf k l) m k.gifts.length := by
 rw [← eatL_all l hm, ← eatL_past l k.gifts.length m (k.meals.length * k.gifts.length - l.length)]
 congr 1
 omega
theorem Pfx.nil (V : KV k) : Pfx k [] := ⟨feas_nil V, fun m g hm hg h => by rw [srvOf_at _ hm hg] at h; simp at h⟩
theorem Pfx.ext (h : Pfx k l) : Ext k (srv0 k) 0 (at2 (srvOf k l)) := by
 have hs := srvOf_srv (k := k) h.f.bd
 have z1 : ∀ g n, goneT (srv0 k) g n = 0 := fun g n => sumTo_zero' fun m _ => srv0_at k m g
 have z2 : ∀ m n, eatenT (srv0 k) m n = 0 := fun m n => sumTo_zero' fun g _ => srv0_at k m g
 refine ⟨fun m g _ _ => hs.nn m g, fun m g hm hg ho => ?_, fun g hg => ?_, fun m hm => ?_⟩
 ·rcases ho with ho | ho
  ·omega
  ·have := hs.nn m g
   rcases Int.lt_or_eq_of_le this with q | q
   ·have := h.inn m g hm hg q
    rw [ho] at this; cases this
   ·exact q.symm
 ·rw [z1]
  have := h.f.fits.1 g hg
  unfold goneT at this
  omega
 ·rw [z2]
  have := h.f.fits.2 m hm
  unfold eatenT at this
  omega
theorem feed_flat (V : KV k) : ∀ n, n ≤ k.meals.length → ((feedS k).take n).flatten = feedL k (n * k.gifts.length)
 | 0, _ => by rw [Nat.zero_mul]; rfl
 | n + 1, hn => by
  have H := (feed_Z V).i.ok.srv
  have hlen : n < (feedS k).length := by
   have := H.len
   show n < (feedTo k k.meals.length).1.length
   omega
  have hr : ((feedS k)[n]'hlen).length = k.gifts.length := H.row _ (List.getElem_mem hlen)
  rw [List.take_add_one, List.getElem?_eq_getElem hlen, Option.toList_some, List.flatten_append, feed_flat V n (by omega), List.flatten_cons, List.flatten_nil, List.append_nil]
  have key : ∀ g, g ≤ k.gifts.length → feedL k (n * k.gifts.length + g) = feedL k (n * k.gifts.length) ++ ((feedS k)[n]'hlen).take g := by
   intro g
   induction g with
   | zero => intro _; simp
   | succ g ih =>
    intro hg
    obtain ⟨e1, e2⟩ := pair_div (m := n) (show g < k.gifts.length by omega)
    have e3 : ((feedS k)[n]'hlen)[g]? = some (at2 (feedS k) n g) := by
     unfold at2
     rw [List.getD_eq_getElem?_getD (l := feedS k), List.getElem?_eq_getElem hlen, Option.getD_some, List.getD_eq_getElem?_getD, List.getElem?_eq_getElem (by omega)]; rfl
    rw [← Nat.add_assoc, feedL_succ, ih (by omega), e1, e2, List.take_add_one, e3, List.append_assoc]; rfl
  have := key k.gifts.length (Nat.le_refl _)
  rw [List.take_of_length_le (by omega)] at this
  rw [Nat.add_mul, Nat.one_mul, this]
end
end Go.Proofs.Ytmagiabapakhcaa

/- The law that no serving is better, on values. (Vm) -/
namespace Go.Proofs.Ytmagiabapakhcaa.Vm
open Go Go.Proofs
end Go.Proofs.Ytmagiabapakhcaa.Vm

/- The law that no serving is better, on values: the whole. (Vm) -/
namespace Go.Proofs.Ytmagiabapakhcaa.Vm
open Go Go.Proofs
attribute [local irreducible] castF castU fromF fromU oneF oneU onceF
section
variable {P : Program} {T : Tab} {cx : Cx} {e : Env} {M : Mem} {D : List Nat} {Q : PQ} {c : Code}
end
end Go.Proofs.Ytmagiabapakhcaa.Vm
