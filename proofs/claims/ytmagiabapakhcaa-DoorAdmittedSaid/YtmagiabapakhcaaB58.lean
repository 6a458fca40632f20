/- A part of the proofs about the chapter of the doors; it states no condition of its own. -/
import Derived.Test.YtmagiabapakhcaaB29
import Derived.Test.YtmagiabapakhcaaB38
import Derived.Test.YtmagiabapakhcaaB55
import Derived.Test.YtmagiabapakhcaaB56
import Derived.Test.YtmagiabapakhcaaB57
set_option linter.unusedVariables false
set_option linter.unusedSimpArgs false
/- Spans are compared with spans that are written. (Vm) -/
namespace Go.Proofs.Ytmagiabapakhcaa.Vm
open Go Go.Proofs
end Go.Proofs.Ytmagiabapakhcaa.Vm

/- The law that the tallies of all numbers are the spans, on values. (Vm) -/
namespace Go.Proofs.Ytmagiabapakhcaa.Vm
open Go Go.Proofs
attribute [local irreducible] castF castU fromF fromU oneF oneU onceF
structure AllOk (h : Ho) : Prop where
 V : HV h
 N : ∀ c ∈ h.counts, NarC c
 f : h.first.hi - h.first.lo ≤ 6
 t : h.ticks ≤ 3
abbrev cellsR (l : List (List PV)) : List VV := (rowsV l).flatten
theorem keysOk_keys : ∀ (cs ds bs es : List Co), cs.map (fun c => (c.tick, c.door)) = ds.map (fun c => (c.tick, c.door)) → bs.map (fun c => (c.tick, c.door)) = es.map (fun c => (c.tick, c.door)) → keysOk bs cs → keysOk es ds
 | [], [], _, _, _, _, _ => trivial
 | [], _ :: _, _, _, h, _, _ => by simp at h
 | _ :: _, [], _, _, h, _, _ => by simp at h
 | c :: cs, d :: ds, bs, es, h, hb, hk => by
  simp only [List.map_cons, List.cons.injEq, Prod.mk.injEq] at h
  obtain ⟨⟨h1, h2⟩, h3⟩ := h
  refine ⟨?_, keysOk_keys cs ds (bs ++ [c]) (es ++ [d]) h3 (by simp [hb, h1, h2]) hk.2⟩
  have e : ∀ (l : List Co) (c : Co), l.any (sameKey c) = (l.map fun c => (c.tick, c.door)).any fun p => decide (p.1 = c.tick) && decide (p.2 = c.door) := fun l c => by
   rw [List.any_map]; rfl
  have := hk.1
  rw [e] at this ⊢
  rw [← hb, ← h1, ← h2]
  exact this
theorem AllOk.set {h : Ho} (ok : AllOk h) {i : Nat} {c : Co} (hx : h.counts[i]? = some c) {o : Sp} (ho : SpOk o) (hw : o.hi - o.lo ≤ 6) : AllOk { h with counts := h.counts.set i { c with o := o } } := by
 have hcm := List.mem_of_getElem? hx
 have v := ok.V.counts c hcm
 have nn := ok.N c hcm
 refine ⟨⟨ok.V.n0, ok.V.n1, ok.V.holds, ok.V.d1, ok.V.doors, ok.V.first, ok.V.t0, ok.V.t1, by simpa using ok.V.c1, fun x hm => ?_, ?_⟩, fun x hm => ?_, ok.f, ok.t⟩
 ·rcases List.mem_or_eq_of_mem_set hm with q | rfl
  ·have w := ok.V.counts x q
   exact ⟨w.t0, w.t1, w.d0, w.d1, w.k, w.i, w.o⟩
  ·exact ⟨v.t0, v.t1, v.d0, v.d1, v.k, v.i, ho⟩
 ·refine keysOk_keys h.counts _ [] [] ?_ rfl ok.V.keys
  refine List.ext_getElem? fun j => ?_
  rw [List.getElem?_map, List.getElem?_map, List.getElem?_set]
  by_cases e : i = j
  ·subst e
   rw [if_pos rfl, hx]
   split
   ·rfl
   ·rename_i hl
    exact absurd (List.getElem?_eq_some_iff.1 hx).1 hl
  ·rw [if_neg e]
 ·rcases List.mem_or_eq_of_mem_set hm with q | rfl
  ·exact ok.N x q
  ·exact ⟨nn.1, hw⟩
end Go.Proofs.Ytmagiabapakhcaa.Vm
