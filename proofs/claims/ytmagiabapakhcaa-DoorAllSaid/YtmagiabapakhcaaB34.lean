/- A part of the proofs about the chapter of the doors; it states no condition of its own. -/
import Derived.Test.YtmagiabapakhcaaB14
import Derived.Test.YtmagiabapakhcaaB21
import Derived.Test.YtmagiabapakhcaaB29
import Derived.Test.YtmagiabapakhcaaB30
import Derived.Test.YtmagiabapakhcaaB31
import Derived.Test.YtmagiabapakhcaaB32
set_option linter.unusedVariables false
set_option linter.unusedSimpArgs false
/- Whatever truly went by the doors, plain. -/
namespace Go.Proofs.Ytmagiabapakhcaa
theorem fwd_in {first : Sp} {C : Nat → Sp} {ts : List Int} (h0 : In first (ts.getD 0 0)) (hp : ∀ x ∈ ts, 0 ≤ x) {T : Nat} (hl : ts.length = T + 1) (ht : ∀ t, t < T → In (C t) (ts.getD (t + 1) 0 - ts.getD t 0)) : ∀ t, t ≤ T → In (fwd first C t) (ts.getD t 0)
 | 0, _ => h0
 | t + 1, h => by
  have h1 := fwd_in h0 hp hl ht t (by omega)
  have h2 := ht t (by omega)
  have h3 : 0 ≤ ts.getD (t + 1) 0 := by
   rw [List.getD_eq_getElem?_getD, List.getElem?_eq_getElem (by omega), Option.getD_some]
   exact hp _ (List.getElem_mem _)
  unfold In at *
  rw [fwd, nxt]
  simp only
  omega
theorem bwd_in {first : Sp} {C : Nat → Sp} {ts : List Int} (h0 : In first (ts.getD 0 0)) (hp : ∀ x ∈ ts, 0 ≤ x) {T : Nat} (hl : ts.length = T + 1) (ht : ∀ t, t < T → In (C t) (ts.getD (t + 1) 0 - ts.getD t 0)) : ∀ k, k ≤ T → In (bwd first C T k) (ts.getD (T - k) 0)
 | 0, _ => fwd_in h0 hp hl ht T (Nat.le_refl _)
 | k + 1, h => by
  have h1 := bwd_in h0 hp hl ht k (by omega)
  have h2 := ht (T - (k + 1)) (by omega)
  have h3 := fwd_in h0 hp hl ht (T - (k + 1)) (by omega)
  rw [show T - (k + 1) + 1 = T - k by omega] at h2
  unfold In at *
  simp only [bwd]
  omega
end Go.Proofs.Ytmagiabapakhcaa

/- Doors that are shut, and people that are spread, made of numbers, on values. (Vm) -/
namespace Go.Proofs.Ytmagiabapakhcaa.Vm
open Go Go.Proofs
attribute [local irreducible] castF castU fromF fromU oneF oneU
end Go.Proofs.Ytmagiabapakhcaa.Vm

/- Whether those who are inside are safe, on values. (Vm) -/
namespace Go.Proofs.Ytmagiabapakhcaa
theorem insideH_len {h : Ho} {l : List Sp} (hi : insideH h = some l) : l.length = h.ticks.toNat + 1 := by
 unfold insideH at hi
 split at hi
 ·cases hi
 ·have := Option.some.inj hi
  rw [← this]
  simp [insideL]
end Go.Proofs.Ytmagiabapakhcaa
namespace Go.Proofs.Ytmagiabapakhcaa.Vm
open Go Go.Proofs
end Go.Proofs.Ytmagiabapakhcaa.Vm

/- The law of what truly went by the doors, on values. (Vm) -/
namespace Go.Proofs.Ytmagiabapakhcaa.Vm
open Go Go.Proofs
theorem DH_tail (M : Mem) (u : Int) (L : List VObj) : DH (M.H ++ [.dead]) M.H.length u L = M.H ++ (.obj [uv u] :: L) := by
 unfold DH
 rw [List.append_assoc]
 have := hset0 M.H ([.dead] ++ L) (.obj [uv u])
 rw [this]
 rfl
end Go.Proofs.Ytmagiabapakhcaa.Vm
